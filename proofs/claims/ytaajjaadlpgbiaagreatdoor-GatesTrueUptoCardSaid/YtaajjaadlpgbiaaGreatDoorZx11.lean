/- The document's polynomials: contracts. What a polynomial is at all points; a point; on both sides: contracts. -/
import Derived.Test.YtaajjaadlpgbiaaGreatDoorHb
import Derived.Test.YtaajjaadlpgbiaaGreatDoorLa
import Derived.Test.YtaajjaadlpgbiaaGreatDoorZx10
import Derived.Test.YtaajjaadlpgbiaaGreatDoorV5
import Derived.Test.YtaajjaadlpgbiaaGreatDoorZx12
section
namespace Go.Att
open Go.RowKit
theorem addL_length (p : Int) (a b : List Int) : (addL p a b).length = max a.length b.length := by simp [addL]
theorem addL_step (p : Int) (a b : List Int) {i : Nat} (h : i < max a.length b.length) : ((addL p a b).take (i + 1)).map (Value.int .i64) = ((addL p a b).take i).map (Value.int .i64) ++ [.int .i64 (fadd p (nth a i) (nth b i))] := by
  have hl : i < (addL p a b).length := by rw [addL_length]; exact h
  rw [List.take_succ_eq_append_getElem hl]
  simp [addL]
theorem scl_step (p c : Int) (a : List Int) (k : Nat) {i : Nat} (h : i < a.length) : (List.replicate k (0 : Int) ++ (a.take (i + 1)).map (fmul p · c)).map (Value.int .i64) = (List.replicate k (0 : Int) ++ (a.take i).map (fmul p · c)).map (Value.int .i64) ++ [.int .i64 (fmul p (nth a i) c)] := by
  rw [List.take_succ_eq_append_getElem h, ← nth_eq h]; simp
theorem zeros_made (n : Nat) : (madeCells (Value.cells (.int .i64 0)) (n * 1)).toList = (List.replicate n (0 : Int) ++ ([] : List Int)).map (Value.int .i64) := by
  simp [madeCells, Value.cells, Nat.mod_one, List.map_const']
theorem ints_lit1 (w : World) (x : Int) (ti : TypeId) : Ints (w.alloc (Obj.cells #[.int .i64 x] ti)) (.slice (some ⟨w.heap.size, 0, none⟩) 1 1) [x] := by
  refine ⟨_, _, rfl, rfl, Nat.le_refl _, by unfold maxLen; omega, fun i hi => ?_⟩
  have h0 : i = 0 := by simpa using hi
  subst h0
  exact ⟨_, _, rfl, cell_new w #[.int .i64 x] ti 0⟩
theorem ints_lit2 (w : World) (x y : Int) (ti : TypeId) : Ints (w.alloc (Obj.cells #[.int .i64 x, .int .i64 y] ti)) (.slice (some ⟨w.heap.size, 0, none⟩) 2 2) [x, y] := by
  refine ⟨_, _, rfl, rfl, Nat.le_refl _, by unfold maxLen; omega, fun i hi => ?_⟩
  have h0 : i = 0 ∨ i = 1 := by simp at hi; omega
  rcases h0 with rfl | rfl
  · exact ⟨_, _, rfl, cell_new w #[.int .i64 x, .int .i64 y] ti 0⟩
  · exact ⟨_, _, rfl, cell_new w #[.int .i64 x, .int .i64 y] ti 1⟩
theorem ev_stepN (p : Int) (a : List Int) (x : Int) (i : Nat) : (sumN (fun i => nth a i * x ^ i) i % p + fmul p (nth a i) (x ^ i % p)) % p = sumN (fun i => nth a i * x ^ i) (i + 1) % p := by
  simp only [sumN, fmul, ea_l, ea_r, em_r]
theorem pow_stepN (p x : Int) (i : Nat) : fmul p (x ^ i % p) x = x ^ (i + 1) % p := by
  simp only [fmul, em_l, Int.pow_succ]
end Go.Att
namespace Go.Proofs.YtaajjaadlpgbiaaGreatDoor
open Go.RowKit Go.Att

theorem rsub_q (p a b : Int) (w : World) (n : Nat) (hp : 2 ≤ p) (hp2 : p ≤ 2147483647) :
    Calls Tryz.prog 112 #[.int .i64 p, .int .i64 a, .int .i64 b] (w.drewN n) fun e w'' => e = .returned (.int .i64 (fsub p a b)) ∧ ∃ m, w'' = w.drewN m := (rsub_any p a b _ hp hp2).mono fun _ _ h => ⟨h.1, n, h.2.symm⟩

set_option maxHeartbeats 1000000 in
theorem rdegree_any (p : Int) (v : Value) (a : List Int) (w : World) (hp : 2 ≤ p) (hp2 : p ≤ 2147483647) (hv : Ints w v a) : Calls Tryz.prog 170 #[.int .i64 p, v] w fun e w' => e = .returned (.int .i64 ((degN p a : Int) - 1)) ∧ w = w' := by
  have hl := hv.run_len (P := Tryz.prog) slInts
  have hlen := hv.len
  have HV := Lib.hid hv; clear hv
  go_enter Tryz.func170, Tryz.ntmps170
  go_wp2_with fail
  go_loop [5, 6] (fun x5 _ => ∃ (m : Nat) (j : Int), m ≤ a.length ∧ j + 1 = m ∧ x5 = .int .i64 j ∧ Hid (∀ k, m ≤ k → k < a.length → fof p (nth a k) = 0)) (fun x5 _ => (intOf x5 + 1).toNat)
  case atStart => exact ⟨a.length, (a.length : Int) - 1, Nat.le_refl _, by omega, rfl, Lib.hid (fun k h1 h2 => by omega)⟩
  case round =>
    obtain ⟨m, j, hm, hj, rfl, HZ⟩ := hrel
    by_cases hj0 : 0 ≤ j
    · obtain ⟨q, rfl⟩ := Int.eq_ofNat_of_zero_le hj0
      obtain rfl : m = q + 1 := by omega
      have hix := HV.out.run_index (P := Tryz.prog) slInts q (by omega)
      have hc := HV.out.cell q (by omega)
      by_cases hz : fof p (nth a q) = 0
      · have HZ0 := Lib.hid hz
        have hb : (fof p (nth a q) != 0) = false := by rw [bne_eq_false_iff_eq]; exact hz
        clear hz
        go_wp2_with (go_at_call 36; refine (rof_any _ _ _ hp hp2).mono ?_; rintro e w' ⟨rfl, rfl⟩)
        go_round
        case rel => exact ⟨q, (q : Int) - 1, by omega, by omega, by go_num, Lib.hid (fun k h1 h2 => by
          rcases Nat.lt_or_ge q k with h | h
          · exact HZ.out k h h2
          · obtain rfl : k = q := by omega
            exact HZ0.out)⟩
        case measure => simp [intOf]
      · have hb : (fof p (nth a q) != 0) = true := by rw [bne_iff_ne]; exact hz
        have HD := Lib.hid (degN_at p a q (by omega) hz (fun k h1 h2 => HZ.out k h1 h2))
        clear hz
        go_wp2_with (go_at_call 36; refine (rof_any _ _ _ hp hp2).mono ?_; rintro e w' ⟨rfl, rfl⟩)
        go_ret
        exact ⟨ret_int (by rw [HD.out]; omega), rfl⟩
    · obtain rfl : m = 0 := by omega
      have HD := Lib.hid (degN_none p a (fun k hk => HZ.out k (Nat.zero_le _) hk))
      go_wp2_with fail
      go_ret
      exact ⟨ret_int (by rw [HD.out]; rfl), rfl⟩

set_option maxRecDepth 100000 in
theorem rtrim_any (p : Int) (v : Value) (a : List Int) (w : World) (hp : 2 ≤ p) (hp2 : p ≤ 2147483647) (hv : Ints w v a) (hs : a.length ≤ 4294967295) : Calls Tryz.prog 161 #[.int .i64 p, v] w (Gives w fun u w' => Ints w' u (trimL p a)) := by
  have hd := degN_le p a
  obtain ⟨j, hj⟩ : ∃ j : Int, (degN p a : Int) - 1 = j := ⟨_, rfl⟩
  have hj2 : j + 1 = (degN p a : Nat) := by omega
  have hrt := hv.run_take (P := Tryz.prog) slInts (degN p a) hd
  rw [← hj2] at hrt
  have HV := Lib.hid hv; have HJ := Lib.hid hj
  have HT := Lib.hid (hv.take (degN p a) hd)
  have HLT := Lib.hid (show (a.take (degN p a)).length ≤ 4294967295 by rw [List.length_take]; omega)
  have hjb : -1 ≤ j ∧ j ≤ 4294967295 := by omega
  clear hv hj hj2 hd
  go_enter Tryz.func161, Tryz.ntmps161
  go_wp2_with (first | (go_at_call 170; refine (rdegree_any p _ a _ hp hp2 HV.out).mono ?_; rw [HJ.out]; rintro e w' ⟨rfl, rfl⟩) | (go_at_call 156; refine (rall_any p _ _ _ HT.out hp hp2 HLT.out).mono ?_; rintro e w2 ⟨u, rfl, hx, hu, -, -⟩; have HU := Lib.hid hu; clear hu))
  go_ret
  exact .mk _ rfl hx HU.out

theorem rat_any (v : Value) (a : List Int) (i : Nat) (w : World) (hv : Ints w v a) (hi : i ≤ 9223372036854775807) : Calls Tryz.prog 162 #[v, .int .i64 i] w fun e w' => e = .returned (.int .i64 (nth a i)) ∧ w = w' := by
  have hl := hv.run_len (P := Tryz.prog) slInts
  have hlen := hv.len
  by_cases h : i < a.length
  · have hix := hv.run_index (P := Tryz.prog) slInts i h
    have hc := hv.cell i h
    clear hv
    go_enter Tryz.func162, Tryz.ntmps162
    go_wp2_with fail
    go_ret
    exact ⟨rfl, rfl⟩
  · have E := Lib.hid (show nth a i = 0 by simp [nth, show a.length ≤ i by omega])
    clear hv
    go_enter Tryz.func162, Tryz.ntmps162
    go_wp2_with fail
    go_ret
    exact ⟨ret_int E.out.symm, rfl⟩

set_option maxRecDepth 100000 in
set_option maxHeartbeats 1000000 in
theorem rplus_any (p : Int) (va vb : Value) (a b : List Int) (w : World) (hp : 2 ≤ p) (hp2 : p ≤ 2147483647) (ha : Ints w va a) (hb : Ints w vb b) (hs : a.length ≤ 1000000) (hs2 : b.length ≤ 1000000) :
    Calls Tryz.prog 144 #[.int .i64 p, va, vb] w (Gives w fun u w' => Ints w' u (plusL p a b)) := by
  have hla := ha.run_len (P := Tryz.prog) slInts
  have hlb := hb.run_len (P := Tryz.prog) slInts
  have HA := Lib.hid ha; have HB := Lib.hid hb; clear ha hb
  go_enter Tryz.func144, Tryz.ntmps144
  go_wp2_with fail
  go_loopw [7, 8, 9, 10, 11] (fun x7 x8 _ _ _ wr => ∃ i : Nat, i ≤ max a.length b.length ∧ x8 = .int .i64 i ∧ wr.ownsRow w.heap.size 3 1 x7 i (((addL p a b).take i).map (Value.int .i64)) ∧ Ext w wr) (fun _ x8 _ _ _ _ => max a.length b.length - (intOf x8).toNat)
  case atStart => exact ⟨0, Nat.zero_le _, rfl, World.ownsRow_nil _ _ _ _, Ext.refl _⟩
  case round =>
    obtain ⟨i, hi, rfl, HO, HX⟩ := hrel
    have HA1 := Lib.hid (HA.out.ext HX); have HB1 := Lib.hid (HB.out.ext HX)
    by_cases hlt : i < max a.length b.length
    · have ST := Lib.hid (addL_step p a b hlt)
      have hcase : (i < a.length) ∨ (¬ i < a.length ∧ i < b.length) := by omega
      rcases hcase with h1 | ⟨h1, h2⟩
      all_goals
        go_wp2_with (first | (go_at_call_of 162 va; refine (rat_any _ a i _ HA1.out (by omega)).mono ?_; rintro e w' ⟨rfl, rfl⟩) | (go_at_call_of 162 vb; refine (rat_any _ b i _ HB1.out (by omega)).mono ?_; rintro e w' ⟨rfl, rfl⟩) | (go_at_call 34; refine (radd_any _ _ _ _ hp hp2).mono ?_; rintro e w' ⟨rfl, rfl⟩) | (at_builtin; refine wpList_app1 rfl _ _ 23 rfl slInts rfl HX HO rfl _ rfl rfl (by omega) (by omega) ?_; intro v' w1 HO' HX' _))
        go_roundw
        case rel => exact ⟨i + 1, by omega, by go_num, by rw [ST.out]; exact HO', HX'⟩
        case measure => simp [intOf]; omega
    · have h1 : ¬ i < a.length := by omega
      have h2 : ¬ i < b.length := by omega
      have hE : (addL p a b).take i = addL p a b := List.take_of_length_le (by rw [addL_length]; omega)
      rw [hE] at HO
      have HI := Lib.hid (Ints.of_own HO)
      have HLL := Lib.hid (show (addL p a b).length ≤ 4294967295 by rw [addL_length]; omega)
      clear hE
      go_wp2_with (go_at_call 161; refine (rtrim_any p _ _ _ hp hp2 HI.out HLL.out).mono ?_; rintro e w2 ⟨u, rfl, hx2, hu⟩; have HU := Lib.hid hu; clear hu)
      go_ret
      exact .mk _ rfl (HX.trans hx2) HU.out

set_option maxRecDepth 100000 in
set_option maxHeartbeats 1000000 in
theorem rscaled_any (p c : Int) (k : Nat) (va : Value) (a : List Int) (w : World) (hp : 2 ≤ p) (hp2 : p ≤ 2147483647) (ha : Ints w va a) (hs : a.length ≤ 1000000) (hk : k ≤ 1000000) :
    Calls Tryz.prog 143 #[.int .i64 p, va, .int .i64 c, .int .i64 k] w (Gives w fun u w' => Ints w' u (scaledL p a c k)) := by
  have hla := ha.run_len (P := Tryz.prog) slInts
  have HA := Lib.hid ha; clear ha
  go_enter Tryz.func143, Tryz.ntmps143
  go_wp2_with (refine wpList_mkn rfl _ _ 23 rfl slInts (Ext.refl w) rfl rfl (by omega) (by omega) (by omega) ?_; intro v1 w1 HO HX _; rw [Int.toNat_natCast, zeros_made] at HO)
  go_loopw [9, 10, 11] (fun x9 x10 _ wr => ∃ i : Nat, i ≤ a.length ∧ x10 = .int .i64 i ∧ wr.ownsRow w.heap.size 3 1 x9 (k + i) ((List.replicate k (0 : Int) ++ (a.take i).map (fmul p · c)).map (Value.int .i64)) ∧ Ext w wr) (fun _ x10 _ _ => a.length - (intOf x10).toNat)
  case atStart => exact ⟨0, Nat.zero_le _, rfl, HO, HX⟩
  case round =>
    obtain ⟨i, hi, rfl, HO1, HX1⟩ := hrel
    by_cases hlt : i < a.length
    · have hix := HA.out.run_index (P := Tryz.prog) slInts i hlt
      have hc := (HA.out.ext HX1).cell i hlt
      have ST := Lib.hid (scl_step p c a k hlt)
      go_wp2_with (first | (go_at_call 33; refine (rmul_any _ _ _ _ hp hp2).mono ?_; rintro e w' ⟨rfl, rfl⟩) | (at_builtin; refine wpList_app1 rfl _ _ 23 rfl slInts rfl HX1 HO1 rfl _ rfl rfl (by omega) (by omega) ?_; intro v' w2 HO' HX' _))
      go_roundw
      case rel => exact ⟨i + 1, by omega, by go_num, by rw [ST.out]; exact HO', HX'⟩
      case measure => simp [intOf]; omega
    · obtain rfl : i = a.length := by omega
      rw [List.take_length] at HO1
      have HI := Lib.hid (Ints.of_own HO1)
      have HLL := Lib.hid (show (List.replicate k (0 : Int) ++ a.map (fmul p · c)).length ≤ 4294967295 by simp; omega)
      go_wp2_with (go_at_call 161; refine (rtrim_any p _ _ _ hp hp2 HI.out HLL.out).mono ?_; rintro e w2 ⟨u, rfl, hx2, hu⟩; have HU := Lib.hid hu; clear hu)
      go_ret
      exact .mk _ rfl (HX1.trans hx2) HU.out

set_option maxRecDepth 100000 in
set_option maxHeartbeats 1000000 in
theorem rtimes_any (p : Int) (va vb : Value) (a b : List Int) (w : World) (hp : 2 ≤ p) (hp2 : p ≤ 2147483647) (ha : Ints w va a) (hb : Ints w vb b) (hs : a.length ≤ 400000) (hs2 : b.length ≤ 400000) :
    Calls Tryz.prog 160 #[.int .i64 p, va, vb] w (Gives w fun u w' => Ints w' u (timesL p a b)) := by
  have hla := ha.run_len (P := Tryz.prog) slInts
  have HA := Lib.hid ha; have HB := Lib.hid hb; clear ha hb
  go_enter Tryz.func160, Tryz.ntmps160
  go_wp2_with fail
  go_loopw [7, 8, 9] (fun x7 x8 _ wr => ∃ i : Nat, i ≤ a.length ∧ x8 = .int .i64 i ∧ Ints wr x7 (timesS p a b i) ∧ Ext w wr) (fun _ x8 _ _ => a.length - (intOf x8).toNat)
  case atStart => exact ⟨0, Nat.zero_le _, rfl, Ints.nil _, Ext.refl _⟩
  case round =>
    obtain ⟨i, hi, rfl, hT, HX⟩ := hrel
    have HT := Lib.hid hT; clear hT
    by_cases hlt : i < a.length
    · have hix := HA.out.run_index (P := Tryz.prog) slInts i hlt
      have hc := (HA.out.ext HX).cell i hlt
      have HL1 := Lib.hid (show (timesS p a b i).length ≤ 1000000 by have := timesS_length p a b i; omega)
      have HL2 := Lib.hid (show (scaledL p b (nth a i) i).length ≤ 1000000 by have := scaledL_length p b (nth a i) i; omega)
      go_wp2_with (first | (go_at_call 143; refine (rscaled_any p _ i _ b _ hp hp2 (HB.out.ext HX) (by omega) (by omega)).mono ?_; rintro e w2 ⟨u2, rfl, hx2, hu⟩; have HU2 := Lib.hid hu; clear hu) | (go_at_call 144; refine (rplus_any p _ _ _ _ _ hp hp2 (HT.out.ext hx2) HU2.out HL1.out HL2.out).mono ?_; rintro e w3 ⟨u3, rfl, hx3, hu⟩; have HU3 := Lib.hid hu; clear hu))
      go_roundw
      case rel => exact ⟨i + 1, by omega, by go_num, HU3.out, HX.trans (hx2.trans hx3)⟩
      case measure => simp [intOf]; omega
    · obtain rfl : i = a.length := by omega
      go_wp2_with fail
      go_ret
      exact .mk _ rfl HX HT.out

set_option maxRecDepth 100000 in
set_option maxHeartbeats 1000000 in
theorem reval_any (p x : Int) (va : Value) (a : List Int) (w : World) (hp : 2 ≤ p) (hp2 : p ≤ 2147483647) (ha : Ints w va a) : Calls Tryz.prog 110 #[.int .i64 p, va, .int .i64 x] w fun e w' => e = .returned (.int .i64 (ev a x % p)) ∧ w = w' := by
  have hla := ha.run_len (P := Tryz.prog) slInts
  have hlen := ha.len
  have h1p : (1 : Int) % p = 1 := one_mod hp
  have HA := Lib.hid ha; have EV := Lib.hid (ev_sumN a x a.length (Nat.le_refl _)); have H1P := Lib.hid h1p; clear ha h1p
  go_enter Tryz.func110, Tryz.ntmps110
  go_wp2_with fail
  go_loop [7, 8, 9, 10] (fun x7 x8 x9 _ => ∃ i : Nat, i ≤ a.length ∧ x9 = .int .i64 i ∧ x8 = .int .i64 (x ^ i % p) ∧ x7 = .int .i64 (sumN (fun i => nth a i * x ^ i) i % p)) (fun _ _ x9 _ => a.length - (intOf x9).toNat)
  case atStart => exact ⟨0, Nat.zero_le _, rfl, by rw [Int.pow_zero, H1P.out], by simp [sumN]⟩
  case round =>
    obtain ⟨i, hi, rfl, rfl, rfl⟩ := hrel
    by_cases hlt : i < a.length
    · have hix := HA.out.run_index (P := Tryz.prog) slInts i hlt
      have hc := HA.out.cell i hlt
      have S1 := Lib.hid (ev_stepN p a x i)
      have S2 := Lib.hid (pow_stepN p x i)
      have hb1 := mod_bd hp (sumN (fun i => nth a i * x ^ i) i)
      have hb2 := fmul_bd hp (nth a i) (x ^ i % p)
      generalize sumN (fun i => nth a i * x ^ i) i % p = A at *
      generalize x ^ i % p = W at *
      generalize nth a i = c at *
      generalize hF : fmul p c W = F at *
      have HF := Lib.hid hF; clear hF
      obtain ⟨Z, hZ⟩ : ∃ Z, sumN (fun i => nth a i * x ^ i) (i + 1) % p = Z := ⟨_, rfl⟩
      rw [hZ] at S1
      obtain ⟨Y, hY⟩ : ∃ Y, x ^ (i + 1) % p = Y := ⟨_, rfl⟩
      rw [hY] at S2
      have HZ := Lib.hid hZ; have HY := Lib.hid hY; clear hZ hY
      go_wp2_with (first | (go_at_call_of 33 c; refine (rmul_any _ c _ _ hp hp2).mono ?_; rw [HF.out]; rintro e w' ⟨rfl, rfl⟩) | (go_at_call 33; refine (rmul_any _ W _ _ hp hp2).mono ?_; rw [S2.out]; rintro e w' ⟨rfl, rfl⟩))
      go_round
      case rel => exact ⟨i + 1, by omega, by go_num, by rw [HY.out], by rw [HZ.out, S1.out]⟩
      case measure => simp [intOf]; omega
    · obtain rfl : i = a.length := by omega
      go_wp2_with fail
      go_ret
      exact ⟨ret_int (by rw [EV.out]), rfl⟩
end Go.Proofs.YtaajjaadlpgbiaaGreatDoor
end
section
namespace Go.Att
open Go.RowKit
theorem ints_clip {w : World} {ao : Option Addr} {cap : Nat} {l : List Int} (h : Ints w (.slice ao l.length cap) l) : Ints w (.slice ao l.length l.length) l := by
  obtain ⟨ao', cap', e, h2, h3, h4, h5⟩ := h
  injection e with e1 e2 e3
  subst e1 e3
  exact ⟨ao, l.length, rfl, h2, Nat.le_refl _, by omega, h5⟩
/-- The coefficients, each times a power of the shift, up to i. -/
def shoU (p sh : Int) (l : List Int) (n i : Nat) : List Int := (List.range n).map fun j => if j < i then fadd p 0 (fmul p (ptAt p 1 sh j) (nth l j)) else 0
theorem shoU_length (p sh : Int) (l : List Int) (n i : Nat) : (shoU p sh l n i).length = n := by simp [shoU]
theorem shoU_nth (p sh : Int) (l : List Int) (n i : Nat) {j : Nat} (h : j < n) : nth (shoU p sh l n i) j = if j < i then fadd p 0 (fmul p (ptAt p 1 sh j) (nth l j)) else 0 := nth_map_range _ _ _ h
theorem shoU_zero (p sh : Int) (l : List Int) (n : Nat) : shoU p sh l n 0 = List.replicate n 0 := by
  unfold shoU
  apply List.ext_getElem (by simp)
  intro i h1 h2
  simp
theorem set_mid {l : List Int} {i : Nat} (hi : i < l.length) (x : Int) : (l.map (Value.int .i64)).take (i * 1) ++ (Value.cells (.int .i64 x)).toList ++ (l.map (Value.int .i64)).drop (i * 1 + 1) = (l.set i x).map (Value.int .i64) := by
  rw [Nat.mul_one, List.map_set]
  have h2 : i < (l.map (Value.int .i64)).length := by simpa using hi
  rw [List.set_eq_take_append_cons_drop, if_pos h2]
  simp [Value.cells]
theorem shoU_set (p sh : Int) (l : List Int) (n i : Nat) (_hi : i < n) : (shoU p sh l n i).set i (fadd p 0 (fmul p (ptAt p 1 sh i) (nth l i))) = shoU p sh l n (i + 1) := by
  apply List.ext_getElem (by simp [shoU])
  intro j h1 h2
  rw [List.getElem_set]
  simp only [shoU, List.getElem_map, List.getElem_range]
  by_cases e : i = j
  · subst e; rw [if_pos rfl, if_pos (by omega)]
  · rw [if_neg e]
    by_cases h : j < i
    · rw [if_pos h, if_pos (by omega)]
    · rw [if_neg h, if_neg (by omega)]
theorem ev_sum (l : List Int) (x : Int) : ev l x = sumN (fun i => nth l i * x ^ i) l.length := by
  rw [← ev_range]
  congr 1
  apply List.ext_getElem (by simp)
  intro i h1 h2
  simp [nth_eq h1]
theorem ev_long (l : List Int) (x : Int) {n : Nat} (h : l.length ≤ n) : ev l x = sumN (fun i => nth l i * x ^ i) n := by
  obtain ⟨m, rfl⟩ := Nat.le.dest h
  rw [ev_sum, sumN_split]
  have e : sumN (fun i => nth l (i + l.length) * x ^ (i + l.length)) m = 0 := by
    rw [sumN_congr (g := fun _ => 0) m fun i _ => ?_, sumN_zero]
    have : nth l (i + l.length) = 0 := by unfold nth; rw [List.getD_eq_getElem?_getD, List.getElem?_eq_none (by omega)]; rfl
    rw [this]; simp
  rw [e]; simp
/-- What spread makes of these is what the polynomial is at all points. -/
theorem vals_fin {p sh r : Int} {K : Nat} {l L : List Int} (hl : l.length ≤ 2 ^ K) (hr : ∀ m, K = m + 1 → r ^ (2 ^ m) % p = (-1) % p) (hL : L.length = 2 ^ K) (hm : ∀ j, j < 2 ^ K → nth L j % p = sprZ K (nth (shoU p sh l (2 ^ K) l.length)) r j % p) (hb : ∀ j, j < 2 ^ K → 0 ≤ nth L j ∧ nth L j < p) : L = valsL p sh r (2 ^ K) l := by
  apply List.ext_getElem (by rw [hL, valsL_length])
  intro j h1 h2
  rw [← nth_eq h1, ← nth_eq h2]
  have hj : j < 2 ^ K := by omega
  rw [valsL_nth _ _ _ _ _ hj]
  have := hb j hj
  rw [← Int.emod_eq_of_lt this.1 this.2, hm j hj, sprZ_dft K _ _ hr j hj, ev_long l _ hl]
  refine sumN_mod p _ fun i hi => ?_
  have e1 : nth (shoU p sh l (2 ^ K) l.length) i % p = (nth l i * sh ^ i) % p := by
    rw [shoU_nth _ _ _ _ _ hi]
    split
    · simp only [fadd, fmul, ptAt, Int.zero_add, e_idem, Int.one_mul]
      rw [em_l, Int.mul_comm]
    · have : nth l i = 0 := by unfold nth; rw [List.getD_eq_getElem?_getD, List.getElem?_eq_none (by omega)]; rfl
      rw [this]; simp
  refine (mmul e1 rfl).trans ?_
  have e2 : ptAt p sh r j ^ i % p = (sh * r ^ j) ^ i % p := pow_mod _ _ _
  refine Eq.trans ?_ (mmul rfl e2.symm)
  rw [Int.mul_pow, ← Int.pow_mul, Nat.mul_comm j i, Int.mul_assoc]
end Go.Att
namespace Go.Proofs.YtaajjaadlpgbiaaGreatDoor
open Go.RowKit Go.Att
set_option maxRecDepth 100000 in
theorem clipW_any (b off n cap : Nat) (w : World) (h : n ≤ cap) (_h2 : cap ≤ maxLen) :
    Calls Tryz.prog 60 #[.slice (some ⟨b, off, none⟩) n cap] w fun e w' => e = .returned (.slice (some ⟨b, off, none⟩) n n) ∧ w = w' := by
  go_enter Tryz.func60, Tryz.ntmps60
  go_wp2_with fail
  go_ret
  exact ⟨rfl, rfl⟩
set_option maxRecDepth 100000 in
set_option maxHeartbeats 4000000 in
theorem values_any {w : World} {d : Value} {bf : Nat} {p g0 n sh r : Int} {fs : List Int} (hd : DomOf w d (.pointer (some ⟨bf, 0, none⟩)) n sh r) (hf : Fld w (.pointer (some ⟨bf, 0, none⟩)) p g0 fs) (K : Nat) (hK1 : 1 ≤ K) (hK : K ≤ 16) (hn : n = (2 : Int) ^ K) {va : Value} {l : List Int} (hl : Ints w va l) (hlen : l.length ≤ 2 ^ K) (hr : ∀ m, K = m + 1 → r ^ (2 ^ m) % p = (-1) % p) :
    Calls Tryz.prog 82 #[d, va] w (Gives w fun v w' => Ints w' v (valsL p sh r (2 ^ K) l) ∧ NewIn w v) := by
  have hp1 : 1 ≤ 2 ^ K := Nat.one_le_two_pow
  have hp2 : 2 ^ K ≤ 65536 := by
    have e1 : 2 ^ K ≤ 2 ^ 16 := Nat.pow_le_pow_right (by decide) hK
    have e2 : (2 : Nat) ^ 16 = 65536 := by decide
    omega
  have hnn : n = ((2 ^ K : Nat) : Int) := by rw [hn]; norm_cast
  have HK := Lib.hid hK; have HK1 := Lib.hid hK1; have HR := Lib.hid hr
  have hll := hl.run_len (P := Tryz.prog) slInts
  obtain ⟨h, hh⟩ : ∃ h, 2 ^ K = h := ⟨_, rfl⟩
  rw [hh] at hp1 hp2 hnn hlen
  have HH := Lib.hid hh; have HNN := Lib.hid hnn
  have hn1 : 1 ≤ n := by omega
  have hn2 : n ≤ 65536 := by omega
  have HD := Lib.hid hd; have C := Lib.hid hf; have HL := Lib.hid hl
  obtain ⟨b, rfl⟩ := hd.ptr
  obtain ⟨bb, hbb, d1, d2, d3, d4⟩ := hd
  obtain rfl : b = bb := by simpa using hbb
  clear hbb hf hl hn hh hK hK1 hr hnn
  go_enter Tryz.func82, Tryz.ntmps82
  go_wp2_with (refine wpList_mkn rfl _ _ 23 rfl slInts (Ext.refl w) rfl rfl (by omega) (by omega) (by omega) ?_; intro v1 w1 HO1 HX1 _; rw [show n.toNat = h by (have := HNN.out; omega)] at HO1)
  have HO := Lib.hid (show w1.ownsRow w.heap.size 3 1 v1 h ((shoU p sh l h 0).map (Value.int .i64)) by
    rw [shoU_zero]
    have e1 : (madeCells (Value.cells (.int .i64 0)) (h * 1)).toList = (List.replicate h (0 : Int)).map (Value.int .i64) := by simp [madeCells, Value.cells, Nat.mod_one, List.map_const']
    rw [← e1]; exact HO1)
  have HX := Lib.hid HX1
  clear HO1 HX1 d1 d2 d3 d4
  have HP1 := Lib.hid (show ptAt p 1 sh 0 = 1 by unfold ptAt; rw [Int.pow_zero, Int.mul_one]; exact one_mod C.out.two)
  go_loopw [6, 7, 8, 16] (fun x6 _ _ x16 wr => ∃ i : Nat, i ≤ l.length ∧ x16 = .int .i64 i ∧ x6 = .int .i64 (ptAt p 1 sh i) ∧ wr.ownsRow w.heap.size 3 1 v1 h ((shoU p sh l h i).map (Value.int .i64)) ∧ Ext w wr) (fun _ _ _ x16 _ => l.length - (intOf x16).toNat)
  case atStart => exact ⟨0, Nat.zero_le _, rfl, by rw [HP1.out], HO.out, HX.out⟩
  case round =>
    clear HO HX
    obtain ⟨i, hi, rfl, rfl, HO, HX⟩ := hrel
    by_cases hil : i < l.length
    · have hih : i < h := by omega
      have hix := HL.out.run_index (P := Tryz.prog) slInts i hil
      have hc := (HL.out.ext HX).cell i hil
      have hio := Ints.of_own HO
      have hixA := hio.run_index (P := Tryz.prog) slInts i (by rw [shoU_length]; exact hih)
      have hcA := hio.cell i (by rw [shoU_length]; exact hih)
      rw [shoU_nth p sh l h i hih, if_neg (by omega)] at hcA
      have ST := Lib.hid (show ((shoU p sh l h i).map (Value.int .i64)).take (i * 1) ++ (Value.cells (.int .i64 (fadd p 0 (fmul p (ptAt p 1 sh i) (nth l i))))).toList ++ ((shoU p sh l h i).map (Value.int .i64)).drop (i * 1 + 1) = (shoU p sh l h (i + 1)).map (Value.int .i64) by rw [set_mid (by rw [shoU_length]; exact hih), shoU_set p sh l h i hih])
      have HPS := Lib.hid (ptAt_succ p 1 sh i)
      obtain ⟨bb, hbb, d1, d2, d3, -⟩ := HD.out.ext HX
      obtain rfl : b = bb := by simpa using hbb
      have HF := Lib.hid (C.out.ext HX)
      have hm : (i : Int) % n = i := Int.emod_eq_of_lt (by omega) (by have := HNN.out; omega)
      have hm2 : (i : Int).tmod n = i := by rw [Int.tmod_eq_emod_of_nonneg (by omega)]; exact hm
      clear hbb hio
      go_wp2_with fail
      refine wp_region_quiet_tail 29 (by kernel_rfl) (by kernel_rfl) ?_
      simp only [List.take_succ_cons, List.take_zero, List.drop_succ_cons, List.drop_zero]
      repeat (go_big_quiet_step ((first | (go_at_call 71; exact mul_q HF.out _ _ _) | (go_at_call 70; exact add_q HF.out _ _ _))))
      refine wpQuiet_nil ?_
      rintro _ ⟨nq, rfl⟩
      have HO4 := own_ext HO (Ext.drewN wr nq)
      have HX4 := HX.trans (Ext.drewN wr nq)
      clear hix hc hixA hcA d1 d2 d3 HO HX HF
      go_wp2_with (refine wpList_set rfl rfl _ _ 3 rfl slInts HO4 i hih rfl (.int .i64 (fadd p 0 (fmul p (ptAt p 1 sh i) (nth l i)))) rfl rfl (by intro u hu; simp [Value.cells] at hu; subst hu; rfl) ?_; intro w7 HO7 HG7)
      rw [ST.out] at HO7
      have HX7 := Ext.own_grown HX4 HO4 HG7
      obtain ⟨bb, hbb, d1, d2, d3, -⟩ := HD.out.ext HX7
      obtain rfl : b = bb := by simpa using hbb
      have HF := Lib.hid (C.out.ext HX7)
      clear hbb HO4 HX4 HG7
      go_wp2_with fail
      go_quiet ((go_at_call 71; exact mul_q HF.out _ _ _))
      have HO8 := own_ext HO7 (Ext.drewN w7 nq)
      have HX8 := HX7.trans (Ext.drewN w7 nq)
      clear d1 d2 d3 HO7 HX7 HF
      go_wp2_with fail
      go_roundw
      case rel => exact ⟨i + 1, by omega, by go_num, by rw [HPS.out], HO8, HX8⟩
      case measure => simp [intOf]; omega
    · obtain rfl : i = l.length := by omega
      have HI := Ints.of_own HO
      obtain ⟨bb, hbb, d1, d2, d3, d4⟩ := HD.out.ext HX
      obtain rfl : b = bb := by simpa using hbb
      clear hbb hil hi HO
      go_wp2_with fail
      refine (spread_any K _ _ bf p g0 n sh r fs (HD.out.ext HX) (C.out.ext HX) v1 (shoU p sh l h l.length) r HI (by rw [shoU_length]; exact HH.out.symm) (Nat.le_trans HK.out (by omega))).mono ?_
      rintro e w3 ⟨u3, rfl, hx3, L, hI3, hL3, hm3, hcase⟩
      obtain ⟨ho3, hb3⟩ : w3.ownsRow _ 3 1 u3 (2 ^ K) (L.map (Value.int .i64)) ∧ ∀ j, j < 2 ^ K → 0 ≤ nth L j ∧ nth L j < p := by
        rcases hcase with ⟨h0, _⟩ | ⟨_, h⟩
        · have := HK1.out; omega
        · exact h
      rw [← HH.out] at hm3 hlen
      have hfin := vals_fin hlen HR.out hL3 hm3 hb3
      subst hfin
      obtain ⟨gb, cap, cur, hv, hbg, hg, hn', hm', -⟩ := elt_own ho3 (show 0 < 2 ^ K by have := HH.out; omega)
      subst hv
      have HI4 := Lib.hid hI3
      have HX3 := Lib.hid (HX.trans hx3)
      have HBG := Lib.hid (show w.heap.size ≤ gb by have := HX.size; omega)
      clear hI3 hL3 hm3 hcase ho3 hb3 hx3 d1 d2 d3 d4 HX
      go_wp2_with (go_at_call 60; refine (clipW_any gb 0 _ cap _ (by omega) (by omega)).mono ?_; rintro e w4 ⟨rfl, rfl⟩)
      go_ret
      refine .mk _ rfl HX3.out ⟨?_, fun k hk => ?_⟩
      · have hl2 := valsL_length p sh r (2 ^ K) l
        have := ints_clip (by rw [hl2]; exact HI4.out)
        rwa [hl2] at this
      · simp [Value.ownBlock] at hk
        have := HBG.out; omega
end Go.Proofs.YtaajjaadlpgbiaaGreatDoor
end
