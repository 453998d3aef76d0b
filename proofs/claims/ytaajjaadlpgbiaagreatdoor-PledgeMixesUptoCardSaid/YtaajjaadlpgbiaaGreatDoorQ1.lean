/- The document's polynomials: contracts. -/
import Derived.Test.YtaajjaadlpgbiaaGreatDoorHb
import Derived.Test.YtaajjaadlpgbiaaGreatDoorLa
namespace Go.Att
open Go.RowKit
theorem addL_length (p : Int) (a b : List Int) : (addL p a b).length = max a.length b.length := by simp [addL]
theorem addL_step (p : Int) (a b : List Int) {i : Nat} (h : i < max a.length b.length) : ((addL p a b).take (i + 1)).map (Value.int .i64) = ((addL p a b).take i).map (Value.int .i64) ++ [.int .i64 (fadd p (nth a i) (nth b i))] := by
  have hl : i < (addL p a b).length := by rw [addL_length]; exact h
  rw [List.take_succ_eq_append_getElem hl]
  simp [addL]
theorem scl_step (p c : Int) (a : List Int) (k : Nat) {i : Nat} (h : i < a.length) : (List.replicate k (0 : Int) ++ (a.take (i + 1)).map (fmul p · c)).map (Value.int .i64) = (List.replicate k (0 : Int) ++ (a.take i).map (fmul p · c)).map (Value.int .i64) ++ [.int .i64 (fmul p (nth a i) c)] := by
  rw [List.take_succ_eq_append_getElem h, ← nth_eq h]; simp
theorem zeros_made (n : Nat) : (madeCells (Value.cells (.int .i64 0)) (n * 1)).toList = (List.replicate n (0 : Int) ++ ([] : List Int)).map (Value.int .i64) := by
  simp [madeCells, Value.cells, Nat.mod_one, List.map_const']
theorem ints_lit1 (w : World) (x : Int) (ti : TypeId) : Ints (w.alloc (Obj.cells #[.int .i64 x] ti)) (.slice (some ⟨w.heap.size, 0, none⟩) 1 1) [x] := by
  refine ⟨_, _, rfl, rfl, Nat.le_refl _, by unfold maxLen; omega, fun i hi => ?_⟩
  have h0 : i = 0 := by simpa using hi
  subst h0
  exact ⟨_, _, rfl, cell_new w #[.int .i64 x] ti 0⟩
theorem ints_lit2 (w : World) (x y : Int) (ti : TypeId) : Ints (w.alloc (Obj.cells #[.int .i64 x, .int .i64 y] ti)) (.slice (some ⟨w.heap.size, 0, none⟩) 2 2) [x, y] := by
  refine ⟨_, _, rfl, rfl, Nat.le_refl _, by unfold maxLen; omega, fun i hi => ?_⟩
  have h0 : i = 0 ∨ i = 1 := by simp at hi; omega
  rcases h0 with rfl | rfl
  · exact ⟨_, _, rfl, cell_new w #[.int .i64 x, .int .i64 y] ti 0⟩
  · exact ⟨_, _, rfl, cell_new w #[.int .i64 x, .int .i64 y] ti 1⟩
theorem ev_stepN (p : Int) (a : List Int) (x : Int) (i : Nat) : (sumN (fun i => nth a i * x ^ i) i % p + fmul p (nth a i) (x ^ i % p)) % p = sumN (fun i => nth a i * x ^ i) (i + 1) % p := by
  simp only [sumN, fmul, ea_l, ea_r, em_r]
theorem pow_stepN (p x : Int) (i : Nat) : fmul p (x ^ i % p) x = x ^ (i + 1) % p := by
  simp only [fmul, em_l, Int.pow_succ]
end Go.Att
namespace Go.Proofs.YtaajjaadlpgbiaaGreatDoor
open Go.RowKit Go.Att

theorem rsub_q (p a b : Int) (w : World) (n : Nat) (hp : 2 ≤ p) (hp2 : p ≤ 2147483647) :
    Calls Tryz.prog 112 #[.int .i64 p, .int .i64 a, .int .i64 b] (w.drewN n) fun e w'' => e = .returned (.int .i64 (fsub p a b)) ∧ ∃ m, w'' = w.drewN m := (rsub_any p a b _ hp hp2).mono fun _ _ h => ⟨h.1, n, h.2.symm⟩

set_option maxHeartbeats 1000000 in
theorem rdegree_any (p : Int) (v : Value) (a : List Int) (w : World) (hp : 2 ≤ p) (hp2 : p ≤ 2147483647) (hv : Ints w v a) : Calls Tryz.prog 170 #[.int .i64 p, v] w fun e w' => e = .returned (.int .i64 ((degN p a : Int) - 1)) ∧ w = w' := by
  have hl := hv.run_len (P := Tryz.prog) slInts
  have hlen := hv.len
  have HV := Lib.hid hv; clear hv
  go_enter Tryz.func170, Tryz.ntmps170
  go_wp2_with fail
  go_loop [5, 6] (fun x5 _ => ∃ (m : Nat) (j : Int), m ≤ a.length ∧ j + 1 = m ∧ x5 = .int .i64 j ∧ Hid (∀ k, m ≤ k → k < a.length → fof p (nth a k) = 0)) (fun x5 _ => (intOf x5 + 1).toNat)
  case atStart => exact ⟨a.length, (a.length : Int) - 1, Nat.le_refl _, by omega, rfl, Lib.hid (fun k h1 h2 => by omega)⟩
  case round =>
    obtain ⟨m, j, hm, hj, rfl, HZ⟩ := hrel
    by_cases hj0 : 0 ≤ j
    · obtain ⟨q, rfl⟩ := Int.eq_ofNat_of_zero_le hj0
      obtain rfl : m = q + 1 := by omega
      have hix := HV.out.run_index (P := Tryz.prog) slInts q (by omega)
      have hc := HV.out.cell q (by omega)
      by_cases hz : fof p (nth a q) = 0
      · have HZ0 := Lib.hid hz
        have hb : (fof p (nth a q) != 0) = false := by rw [bne_eq_false_iff_eq]; exact hz
        clear hz
        go_wp2_with (go_at_call 36; refine (rof_any _ _ _ hp hp2).mono ?_; rintro e w' ⟨rfl, rfl⟩)
        go_round
        case rel => exact ⟨q, (q : Int) - 1, by omega, by omega, by go_num, Lib.hid (fun k h1 h2 => by
          rcases Nat.lt_or_ge q k with h | h
          · exact HZ.out k h h2
          · obtain rfl : k = q := by omega
            exact HZ0.out)⟩
        case measure => simp [intOf]
      · have hb : (fof p (nth a q) != 0) = true := by rw [bne_iff_ne]; exact hz
        have HD := Lib.hid (degN_at p a q (by omega) hz (fun k h1 h2 => HZ.out k h1 h2))
        clear hz
        go_wp2_with (go_at_call 36; refine (rof_any _ _ _ hp hp2).mono ?_; rintro e w' ⟨rfl, rfl⟩)
        go_ret
        exact ⟨ret_int (by rw [HD.out]; omega), rfl⟩
    · obtain rfl : m = 0 := by omega
      have HD := Lib.hid (degN_none p a (fun k hk => HZ.out k (Nat.zero_le _) hk))
      go_wp2_with fail
      go_ret
      exact ⟨ret_int (by rw [HD.out]; rfl), rfl⟩

set_option maxRecDepth 100000 in
theorem rtrim_any (p : Int) (v : Value) (a : List Int) (w : World) (hp : 2 ≤ p) (hp2 : p ≤ 2147483647) (hv : Ints w v a) (hs : a.length ≤ 4294967295) : Calls Tryz.prog 161 #[.int .i64 p, v] w (Gives w fun u w' => Ints w' u (trimL p a)) := by
  have hd := degN_le p a
  obtain ⟨j, hj⟩ : ∃ j : Int, (degN p a : Int) - 1 = j := ⟨_, rfl⟩
  have hj2 : j + 1 = (degN p a : Nat) := by omega
  have hrt := hv.run_take (P := Tryz.prog) slInts (degN p a) hd
  rw [← hj2] at hrt
  have HV := Lib.hid hv; have HJ := Lib.hid hj
  have HT := Lib.hid (hv.take (degN p a) hd)
  have HLT := Lib.hid (show (a.take (degN p a)).length ≤ 4294967295 by rw [List.length_take]; omega)
  have hjb : -1 ≤ j ∧ j ≤ 4294967295 := by omega
  clear hv hj hj2 hd
  go_enter Tryz.func161, Tryz.ntmps161
  go_wp2_with (first | (go_at_call 170; refine (rdegree_any p _ a _ hp hp2 HV.out).mono ?_; rw [HJ.out]; rintro e w' ⟨rfl, rfl⟩) | (go_at_call 156; refine (rall_any p _ _ _ HT.out hp hp2 HLT.out).mono ?_; rintro e w2 ⟨u, rfl, hx, hu, -, -⟩; have HU := Lib.hid hu; clear hu))
  go_ret
  exact .mk _ rfl hx HU.out

theorem rat_any (v : Value) (a : List Int) (i : Nat) (w : World) (hv : Ints w v a) (hi : i ≤ 9223372036854775807) : Calls Tryz.prog 162 #[v, .int .i64 i] w fun e w' => e = .returned (.int .i64 (nth a i)) ∧ w = w' := by
  have hl := hv.run_len (P := Tryz.prog) slInts
  have hlen := hv.len
  by_cases h : i < a.length
  · have hix := hv.run_index (P := Tryz.prog) slInts i h
    have hc := hv.cell i h
    clear hv
    go_enter Tryz.func162, Tryz.ntmps162
    go_wp2_with fail
    go_ret
    exact ⟨rfl, rfl⟩
  · have E := Lib.hid (show nth a i = 0 by simp [nth, show a.length ≤ i by omega])
    clear hv
    go_enter Tryz.func162, Tryz.ntmps162
    go_wp2_with fail
    go_ret
    exact ⟨ret_int E.out.symm, rfl⟩

set_option maxRecDepth 100000 in
set_option maxHeartbeats 1000000 in
theorem rplus_any (p : Int) (va vb : Value) (a b : List Int) (w : World) (hp : 2 ≤ p) (hp2 : p ≤ 2147483647) (ha : Ints w va a) (hb : Ints w vb b) (hs : a.length ≤ 1000000) (hs2 : b.length ≤ 1000000) :
    Calls Tryz.prog 144 #[.int .i64 p, va, vb] w (Gives w fun u w' => Ints w' u (plusL p a b)) := by
  have hla := ha.run_len (P := Tryz.prog) slInts
  have hlb := hb.run_len (P := Tryz.prog) slInts
  have HA := Lib.hid ha; have HB := Lib.hid hb; clear ha hb
  go_enter Tryz.func144, Tryz.ntmps144
  go_wp2_with fail
  go_loopw [7, 8, 9, 10, 11] (fun x7 x8 _ _ _ wr => ∃ i : Nat, i ≤ max a.length b.length ∧ x8 = .int .i64 i ∧ wr.ownsRow w.heap.size 3 1 x7 i (((addL p a b).take i).map (Value.int .i64)) ∧ Ext w wr) (fun _ x8 _ _ _ _ => max a.length b.length - (intOf x8).toNat)
  case atStart => exact ⟨0, Nat.zero_le _, rfl, World.ownsRow_nil _ _ _ _, Ext.refl _⟩
  case round =>
    obtain ⟨i, hi, rfl, HO, HX⟩ := hrel
    have HA1 := Lib.hid (HA.out.ext HX); have HB1 := Lib.hid (HB.out.ext HX)
    by_cases hlt : i < max a.length b.length
    · have ST := Lib.hid (addL_step p a b hlt)
      have hcase : (i < a.length) ∨ (¬ i < a.length ∧ i < b.length) := by omega
      rcases hcase with h1 | ⟨h1, h2⟩
      all_goals
        go_wp2_with (first | (go_at_call_of 162 va; refine (rat_any _ a i _ HA1.out (by omega)).mono ?_; rintro e w' ⟨rfl, rfl⟩) | (go_at_call_of 162 vb; refine (rat_any _ b i _ HB1.out (by omega)).mono ?_; rintro e w' ⟨rfl, rfl⟩) | (go_at_call 34; refine (radd_any _ _ _ _ hp hp2).mono ?_; rintro e w' ⟨rfl, rfl⟩) | (at_builtin; refine wpList_app1 rfl _ _ 23 rfl slInts rfl HX HO rfl _ rfl rfl (by omega) (by omega) ?_; intro v' w1 HO' HX' _))
        go_roundw
        case rel => exact ⟨i + 1, by omega, by go_num, by rw [ST.out]; exact HO', HX'⟩
        case measure => simp [intOf]; omega
    · have h1 : ¬ i < a.length := by omega
      have h2 : ¬ i < b.length := by omega
      have hE : (addL p a b).take i = addL p a b := List.take_of_length_le (by rw [addL_length]; omega)
      rw [hE] at HO
      have HI := Lib.hid (Ints.of_own HO)
      have HLL := Lib.hid (show (addL p a b).length ≤ 4294967295 by rw [addL_length]; omega)
      clear hE
      go_wp2_with (go_at_call 161; refine (rtrim_any p _ _ _ hp hp2 HI.out HLL.out).mono ?_; rintro e w2 ⟨u, rfl, hx2, hu⟩; have HU := Lib.hid hu; clear hu)
      go_ret
      exact .mk _ rfl (HX.trans hx2) HU.out

set_option maxRecDepth 100000 in
set_option maxHeartbeats 1000000 in
theorem rscaled_any (p c : Int) (k : Nat) (va : Value) (a : List Int) (w : World) (hp : 2 ≤ p) (hp2 : p ≤ 2147483647) (ha : Ints w va a) (hs : a.length ≤ 1000000) (hk : k ≤ 1000000) :
    Calls Tryz.prog 143 #[.int .i64 p, va, .int .i64 c, .int .i64 k] w (Gives w fun u w' => Ints w' u (scaledL p a c k)) := by
  have hla := ha.run_len (P := Tryz.prog) slInts
  have HA := Lib.hid ha; clear ha
  go_enter Tryz.func143, Tryz.ntmps143
  go_wp2_with (refine wpList_mkn rfl _ _ 23 rfl slInts (Ext.refl w) rfl rfl (by omega) (by omega) (by omega) ?_; intro v1 w1 HO HX _; rw [Int.toNat_natCast, zeros_made] at HO)
  go_loopw [9, 10, 11] (fun x9 x10 _ wr => ∃ i : Nat, i ≤ a.length ∧ x10 = .int .i64 i ∧ wr.ownsRow w.heap.size 3 1 x9 (k + i) ((List.replicate k (0 : Int) ++ (a.take i).map (fmul p · c)).map (Value.int .i64)) ∧ Ext w wr) (fun _ x10 _ _ => a.length - (intOf x10).toNat)
  case atStart => exact ⟨0, Nat.zero_le _, rfl, HO, HX⟩
  case round =>
    obtain ⟨i, hi, rfl, HO1, HX1⟩ := hrel
    by_cases hlt : i < a.length
    · have hix := HA.out.run_index (P := Tryz.prog) slInts i hlt
      have hc := (HA.out.ext HX1).cell i hlt
      have ST := Lib.hid (scl_step p c a k hlt)
      go_wp2_with (first | (go_at_call 33; refine (rmul_any _ _ _ _ hp hp2).mono ?_; rintro e w' ⟨rfl, rfl⟩) | (at_builtin; refine wpList_app1 rfl _ _ 23 rfl slInts rfl HX1 HO1 rfl _ rfl rfl (by omega) (by omega) ?_; intro v' w2 HO' HX' _))
      go_roundw
      case rel => exact ⟨i + 1, by omega, by go_num, by rw [ST.out]; exact HO', HX'⟩
      case measure => simp [intOf]; omega
    · obtain rfl : i = a.length := by omega
      rw [List.take_length] at HO1
      have HI := Lib.hid (Ints.of_own HO1)
      have HLL := Lib.hid (show (List.replicate k (0 : Int) ++ a.map (fmul p · c)).length ≤ 4294967295 by simp; omega)
      go_wp2_with (go_at_call 161; refine (rtrim_any p _ _ _ hp hp2 HI.out HLL.out).mono ?_; rintro e w2 ⟨u, rfl, hx2, hu⟩; have HU := Lib.hid hu; clear hu)
      go_ret
      exact .mk _ rfl (HX1.trans hx2) HU.out

set_option maxRecDepth 100000 in
set_option maxHeartbeats 1000000 in
theorem rtimes_any (p : Int) (va vb : Value) (a b : List Int) (w : World) (hp : 2 ≤ p) (hp2 : p ≤ 2147483647) (ha : Ints w va a) (hb : Ints w vb b) (hs : a.length ≤ 400000) (hs2 : b.length ≤ 400000) :
    Calls Tryz.prog 160 #[.int .i64 p, va, vb] w (Gives w fun u w' => Ints w' u (timesL p a b)) := by
  have hla := ha.run_len (P := Tryz.prog) slInts
  have HA := Lib.hid ha; have HB := Lib.hid hb; clear ha hb
  go_enter Tryz.func160, Tryz.ntmps160
  go_wp2_with fail
  go_loopw [7, 8, 9] (fun x7 x8 _ wr => ∃ i : Nat, i ≤ a.length ∧ x8 = .int .i64 i ∧ Ints wr x7 (timesS p a b i) ∧ Ext w wr) (fun _ x8 _ _ => a.length - (intOf x8).toNat)
  case atStart => exact ⟨0, Nat.zero_le _, rfl, Ints.nil _, Ext.refl _⟩
  case round =>
    obtain ⟨i, hi, rfl, hT, HX⟩ := hrel
    have HT := Lib.hid hT; clear hT
    by_cases hlt : i < a.length
    · have hix := HA.out.run_index (P := Tryz.prog) slInts i hlt
      have hc := (HA.out.ext HX).cell i hlt
      have HL1 := Lib.hid (show (timesS p a b i).length ≤ 1000000 by have := timesS_length p a b i; omega)
      have HL2 := Lib.hid (show (scaledL p b (nth a i) i).length ≤ 1000000 by have := scaledL_length p b (nth a i) i; omega)
      go_wp2_with (first | (go_at_call 143; refine (rscaled_any p _ i _ b _ hp hp2 (HB.out.ext HX) (by omega) (by omega)).mono ?_; rintro e w2 ⟨u2, rfl, hx2, hu⟩; have HU2 := Lib.hid hu; clear hu) | (go_at_call 144; refine (rplus_any p _ _ _ _ _ hp hp2 (HT.out.ext hx2) HU2.out HL1.out HL2.out).mono ?_; rintro e w3 ⟨u3, rfl, hx3, hu⟩; have HU3 := Lib.hid hu; clear hu))
      go_roundw
      case rel => exact ⟨i + 1, by omega, by go_num, HU3.out, HX.trans (hx2.trans hx3)⟩
      case measure => simp [intOf]; omega
    · obtain rfl : i = a.length := by omega
      go_wp2_with fail
      go_ret
      exact .mk _ rfl HX HT.out

set_option maxRecDepth 100000 in
set_option maxHeartbeats 1000000 in
theorem reval_any (p x : Int) (va : Value) (a : List Int) (w : World) (hp : 2 ≤ p) (hp2 : p ≤ 2147483647) (ha : Ints w va a) : Calls Tryz.prog 110 #[.int .i64 p, va, .int .i64 x] w fun e w' => e = .returned (.int .i64 (ev a x % p)) ∧ w = w' := by
  have hla := ha.run_len (P := Tryz.prog) slInts
  have hlen := ha.len
  have h1p : (1 : Int) % p = 1 := one_mod hp
  have HA := Lib.hid ha; have EV := Lib.hid (ev_sumN a x a.length (Nat.le_refl _)); have H1P := Lib.hid h1p; clear ha h1p
  go_enter Tryz.func110, Tryz.ntmps110
  go_wp2_with fail
  go_loop [7, 8, 9, 10] (fun x7 x8 x9 _ => ∃ i : Nat, i ≤ a.length ∧ x9 = .int .i64 i ∧ x8 = .int .i64 (x ^ i % p) ∧ x7 = .int .i64 (sumN (fun i => nth a i * x ^ i) i % p)) (fun _ _ x9 _ => a.length - (intOf x9).toNat)
  case atStart => exact ⟨0, Nat.zero_le _, rfl, by rw [Int.pow_zero, H1P.out], by simp [sumN]⟩
  case round =>
    obtain ⟨i, hi, rfl, rfl, rfl⟩ := hrel
    by_cases hlt : i < a.length
    · have hix := HA.out.run_index (P := Tryz.prog) slInts i hlt
      have hc := HA.out.cell i hlt
      have S1 := Lib.hid (ev_stepN p a x i)
      have S2 := Lib.hid (pow_stepN p x i)
      have hb1 := mod_bd hp (sumN (fun i => nth a i * x ^ i) i)
      have hb2 := fmul_bd hp (nth a i) (x ^ i % p)
      generalize sumN (fun i => nth a i * x ^ i) i % p = A at *
      generalize x ^ i % p = W at *
      generalize nth a i = c at *
      generalize hF : fmul p c W = F at *
      have HF := Lib.hid hF; clear hF
      obtain ⟨Z, hZ⟩ : ∃ Z, sumN (fun i => nth a i * x ^ i) (i + 1) % p = Z := ⟨_, rfl⟩
      rw [hZ] at S1
      obtain ⟨Y, hY⟩ : ∃ Y, x ^ (i + 1) % p = Y := ⟨_, rfl⟩
      rw [hY] at S2
      have HZ := Lib.hid hZ; have HY := Lib.hid hY; clear hZ hY
      go_wp2_with (first | (go_at_call_of 33 c; refine (rmul_any _ c _ _ hp hp2).mono ?_; rw [HF.out]; rintro e w' ⟨rfl, rfl⟩) | (go_at_call 33; refine (rmul_any _ W _ _ hp hp2).mono ?_; rw [S2.out]; rintro e w' ⟨rfl, rfl⟩))
      go_round
      case rel => exact ⟨i + 1, by omega, by go_num, by rw [HY.out], by rw [HZ.out, S1.out]⟩
      case measure => simp [intOf]; omega
    · obtain rfl : i = a.length := by omega
      go_wp2_with fail
      go_ret
      exact ⟨ret_int (by rw [EV.out]), rfl⟩
end Go.Proofs.YtaajjaadlpgbiaaGreatDoor
