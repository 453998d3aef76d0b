/- Domains of the document: points, values, coefficients: contracts. -/
import Derived.Test.YtcpnidomdkaefaaGreatDoorWv
import Derived.Test.YtcpnidomdkaefaaGreatDoorZx9
namespace Go.Att
open Go.RowKit
/-- A coefficient. -/
def cofF (p r : Int) (N : Nat) (n sh : Int) (l : List Int) (j : Nat) : Int := sumN (fun i => nth l i * finv p r ^ (i * j)) N * ptAt p (finv p n) (finv p sh) j % p
theorem cofL_eq (p r : Int) (K : Nat) (n sh : Int) (l : List Int) : cofL p r K n sh l = (List.range (2 ^ K)).map (cofF p r (2 ^ K) n sh l) := rfl
theorem cof_at (p r : Int) (N : Nat) (n sh : Int) (l : List Int) (j : Nat) : fmul p (sumN (fun m => nth l m * ptAt p 1 (finv p r) j ^ m) N % p) (ptAt p (finv p n) (finv p sh) j) = cofF p r N n sh l j := by
  unfold fmul cofF
  rw [em_l]
  refine mmul (sumN_mod p _ fun m _ => mmul rfl ?_) rfl
  unfold ptAt
  rw [pow_mod, Int.one_mul, ← Int.pow_mul, Nat.mul_comm]
theorem cof_sum (p s v x : Int) (i : Nat) (S : Int) (hs : s = S % p) (hx : x = ptAt p 1 v i) (y : Int) : (s + fmul p y x) % p = (S + y * v ^ i) % p := by
  subst hs hx
  unfold fmul ptAt
  rw [ea_l, ea_r, Int.one_mul, Int.add_emod, em_r, ← Int.add_emod]
theorem range_snoc (f : Nat → Int) (j : Nat) : ((List.range (j + 1)).map f).map (Value.int .i64) = ((List.range j).map f).map (Value.int .i64) ++ [.int .i64 (f j)] := by rw [List.range_succ]; simp
/-- The values, up to i; the points behind. -/
def valU (p sh r : Int) (a : List Int) (n i : Nat) : List Int := (List.range n).map fun j => if j < i then ev a (ptAt p sh r j) % p else ptAt p sh r j
theorem valU_length (p sh r : Int) (a : List Int) (n i : Nat) : (valU p sh r a n i).length = n := by simp [valU]
theorem valU_nth (p sh r : Int) (a : List Int) (n i : Nat) {j : Nat} (h : j < n) : nth (valU p sh r a n i) j = if j < i then ev a (ptAt p sh r j) % p else ptAt p sh r j := nth_map_range _ _ _ h
theorem valU_zero (p sh r : Int) (a : List Int) (n : Nat) : valU p sh r a n 0 = points p sh r n := by unfold valU points; congr 1
theorem valU_all (p sh r : Int) (a : List Int) (n : Nat) : valU p sh r a n n = valsL p sh r n a := by
  unfold valU valsL
  apply List.map_congr_left
  intro j hj
  rw [if_pos (List.mem_range.1 hj)]
theorem valU_set (p sh r : Int) (a : List Int) (n i : Nat) (_hi : i < n) : (valU p sh r a n i).set i (ev a (ptAt p sh r i) % p) = valU p sh r a n (i + 1) := by
  apply List.ext_getElem (by simp [valU])
  intro j h1 h2
  rw [List.getElem_set]
  simp only [valU, List.getElem_map, List.getElem_range]
  by_cases e : i = j
  · subst e; rw [if_pos rfl, if_pos (by omega)]
  · rw [if_neg e]
    by_cases h : j < i
    · rw [if_pos h, if_pos (by omega)]
    · rw [if_neg h, if_neg (by omega)]
end Go.Att
namespace Go.Proofs.YtcpnidomdkaefaaGreatDoor
open Go.RowKit Go.Att
theorem reval_q (p x : Int) (va : Value) (a : List Int) (w : World) (hp : 2 ≤ p) (hp2 : p ≤ 2147483647) (ha : Ints w va a) (m : Nat) : Calls Tryz.prog 108 #[.int .i64 p, va, .int .i64 x] (w.drewN m) fun e w' => e = .returned (.int .i64 (ev a x % p)) ∧ ∃ k, w' = w.drewN k := (reval_any p x va a _ hp hp2 (ha.drewN m)).mono fun _ _ h => ⟨h.1, m, h.2.symm⟩
set_option maxRecDepth 100000 in
set_option maxHeartbeats 4000000 in
theorem rpoints_any (p n sh r : Int) (w : World) (hp : 2 ≤ p) (hp2 : p ≤ 2147483647) (h0 : 0 ≤ n) (hn : n ≤ 65536) (hsh : 0 ≤ sh ∧ sh < p) :
    Calls Tryz.prog 107 #[.agg #[.int .i64 p, .int .i64 n, .int .i64 sh, .int .i64 r]] w (Gives w fun v w' => w'.ownsRow w.heap.size 3 1 v n.toNat ((points p sh r n.toNat).map (Value.int .i64))) := by
  have HB := Lib.hid (BlkOf.new w [.int .i64 p, .int .i64 n, .int .i64 sh, .int .i64 r] 37)
  have HX0 := Lib.hid (Ext.alloc w (Obj.cells #[.int .i64 p, .int .i64 n, .int .i64 sh, .int .i64 r] 37))
  have HS0 := Lib.hid (ptAt_zero (r := r) hsh)
  go_enter Tryz.func107, Tryz.ntmps107
  have e2 : (w.alloc (Obj.cells #[.int .i64 p, .int .i64 n, .int .i64 sh, .int .i64 r] 37)).cell? ⟨w.heap.size, 2, none⟩ = some (.int .i64 sh) := HB.out.cell 2
  go_wp2_with fail
  clear e2
  generalize hqb : w.heap.size = qb at *
  generalize w.alloc (Obj.cells #[.int .i64 p, .int .i64 n, .int .i64 sh, .int .i64 r] 37) = W at *
  have HQ := Lib.hid hqb
  clear hqb
  go_loopw [3, 4, 5] (fun x3 x4 x5 wr => ∃ i : Nat, (i : Int) ≤ n ∧ x5 = .int .i64 i ∧ x4 = .int .i64 (ptAt p sh r i) ∧ wr.ownsRow W.heap.size 3 1 x3 i ((points p sh r i).map (Value.int .i64)) ∧ Ext W wr) (fun _ _ x5 _ => n.toNat - (intOf x5).toNat)
  case atStart => exact ⟨0, by omega, rfl, by rw [HS0.out], World.ownsRow_nil _ _ _ _, Ext.refl _⟩
  case round =>
    obtain ⟨i, hi, rfl, rfl, HO, HX⟩ := hrel
    have hb := HB.out.ext HX
    have e0 : wr.cell? ⟨qb, 0, none⟩ = some (.int .i64 p) := hb.cell 0
    have e1 : wr.cell? ⟨qb, 1, none⟩ = some (.int .i64 n) := hb.cell 1
    have e3 : wr.cell? ⟨qb, 3, none⟩ = some (.int .i64 r) := hb.cell 3
    clear hb
    by_cases hlt : (i : Int) < n
    · have ST := Lib.hid (points_succ p sh r i)
      have PS := Lib.hid (ptAt_succ p sh r i)
      go_wp2_with (first | (at_builtin; refine wpList_app1 rfl _ _ 22 rfl slInts rfl HX HO rfl _ rfl rfl (by omega) (by omega) ?_; intro v' w2 HO2 HX2 _; clear e0 e1 e3; have hb := HB.out.ext HX2; have e0 : w2.cell? ⟨qb, 0, none⟩ = some (.int .i64 p) := hb.cell 0; have e3 : w2.cell? ⟨qb, 3, none⟩ = some (.int .i64 r) := hb.cell 3; clear hb) | (go_at_call 109; refine (rmul_any _ _ _ _ hp hp2).mono ?_; rintro e w3 ⟨rfl, rfl⟩))
      go_roundw
      case rel => exact ⟨i + 1, by omega, by go_num, by rw [PS.out], by rw [ST.out]; exact HO2, HX2⟩
      case measure => simp [intOf]; omega
    · obtain rfl : n = i := by omega
      go_wp2_with fail
      go_ret
      refine .mk _ rfl (HX0.out.trans HX) ?_
      try rw [Int.toNat_natCast]
      exact own_base HO (by have := HX0.out.size; have := HQ.out; omega)
set_option maxRecDepth 100000 in
set_option maxHeartbeats 4000000 in
theorem rvals_any (p n sh r : Int) (va : Value) (a : List Int) (w : World) (hp : 2 ≤ p) (hp2 : p ≤ 2147483647) (h0 : 0 ≤ n) (hn : n ≤ 65536) (hsh : 0 ≤ sh ∧ sh < p) (ha : Ints w va a) :
    Calls Tryz.prog 55 #[.agg #[.int .i64 p, .int .i64 n, .int .i64 sh, .int .i64 r], va] w (Gives w fun v w' => Ints w' v (valsL p sh r n.toNat a) ∧ NewIn w v) := by
  have HA := Lib.hid ha
  have HB := Lib.hid (BlkOf.new w [.int .i64 p, .int .i64 n, .int .i64 sh, .int .i64 r] 37)
  have HX0 := Lib.hid (Ext.alloc w (Obj.cells #[.int .i64 p, .int .i64 n, .int .i64 sh, .int .i64 r] 37))
  obtain ⟨N, hN⟩ : ∃ N : Nat, n.toNat = N := ⟨_, rfl⟩
  clear ha
  go_enter Tryz.func55, Tryz.ntmps55
  have e0 : (w.alloc (Obj.cells #[.int .i64 p, .int .i64 n, .int .i64 sh, .int .i64 r] 37)).cell? ⟨w.heap.size, 0, none⟩ = some (.int .i64 p) := HB.out.cell 0
  have e1 : (w.alloc (Obj.cells #[.int .i64 p, .int .i64 n, .int .i64 sh, .int .i64 r] 37)).cell? ⟨w.heap.size, 1, none⟩ = some (.int .i64 n) := HB.out.cell 1
  have e2 : (w.alloc (Obj.cells #[.int .i64 p, .int .i64 n, .int .i64 sh, .int .i64 r] 37)).cell? ⟨w.heap.size, 2, none⟩ = some (.int .i64 sh) := HB.out.cell 2
  have e3 : (w.alloc (Obj.cells #[.int .i64 p, .int .i64 n, .int .i64 sh, .int .i64 r] 37)).cell? ⟨w.heap.size, 3, none⟩ = some (.int .i64 r) := HB.out.cell 3
  go_wp2_with fail
  clear e0 e1 e2 e3
  generalize hqb : w.heap.size = qb at *
  generalize w.alloc (Obj.cells #[.int .i64 p, .int .i64 n, .int .i64 sh, .int .i64 r] 37) = W at *
  have HQ := Lib.hid hqb
  clear hqb
  refine (rpoints_any p n sh r W hp hp2 h0 hn hsh).mono ?_
  rintro e w1 ⟨v1, rfl, hx1, HO1⟩
  rw [hN] at HO1
  have hl1 := (Ints.of_own HO1).run_len (P := Tryz.prog) slInts
  rw [points_length] at hl1
  have HO := Lib.hid (show w1.ownsRow W.heap.size 3 1 v1 N ((valU p sh r a N 0).map (Value.int .i64)) by rw [valU_zero]; exact HO1)
  have HX1 := Lib.hid hx1
  clear HO1 hx1
  have hNN : N ≤ 65536 := by omega
  go_wp2_with fail
  go_loopw [6] (fun x6 wr => ∃ i : Nat, i ≤ N ∧ x6 = .int .i64 i ∧ wr.ownsRow W.heap.size 3 1 v1 N ((valU p sh r a N i).map (Value.int .i64)) ∧ Ext W wr) (fun x6 _ => N - (intOf x6).toNat)
  case atStart => exact ⟨0, Nat.zero_le _, rfl, HO.out, HX1.out⟩
  case round =>
    clear HO HX1
    obtain ⟨i, hi, rfl, HO, HX⟩ := hrel
    by_cases hlt : i < N
    · have hio := Ints.of_own HO
      have hixA := hio.run_index (P := Tryz.prog) slInts i (by rw [valU_length]; exact hlt)
      have hcA := hio.cell i (by rw [valU_length]; exact hlt)
      rw [valU_nth p sh r a N i hlt, if_neg (by omega)] at hcA
      have e0 : wr.cell? ⟨qb, 0, none⟩ = some (.int .i64 p) := (HB.out.ext HX).cell 0
      have ST := Lib.hid (show ((valU p sh r a N i).map (Value.int .i64)).take (i * 1) ++ (Value.cells (.int .i64 (ev a (ptAt p sh r i) % p))).toList ++ ((valU p sh r a N i).map (Value.int .i64)).drop (i * 1 + 1) = (valU p sh r a N (i + 1)).map (Value.int .i64) by rw [set_mid (by rw [valU_length]; exact hlt), valU_set p sh r a N i hlt])
      clear hio
      go_wp2_with fail
      refine wp_region_quiet_tail 11 (by kernel_rfl) (by kernel_rfl) ?_
      simp only [List.take_succ_cons, List.take_zero, List.drop_succ_cons, List.drop_zero]
      repeat (go_big_quiet_step ((go_at_call 108; exact reval_q p _ va a wr hp hp2 (HA.out.ext (HX0.out.trans HX)) _)))
      refine wpQuiet_nil ?_
      rintro _ ⟨nq, rfl⟩
      have HO4 := own_ext HO (Ext.drewN wr nq)
      have HX4 := HX.trans (Ext.drewN wr nq)
      clear hixA hcA e0 HO HX
      go_wp2_with (refine wpList_set rfl rfl _ _ 3 rfl slInts HO4 i hlt rfl (.int .i64 (ev a (ptAt p sh r i) % p)) rfl rfl (by intro u hu; simp [Value.cells] at hu; subst hu; rfl) ?_; intro w7 HO7 HG7)
      rw [ST.out] at HO7
      have HX7 := Ext.own_grown HX4 HO4 HG7
      go_roundw
      case rel => exact ⟨i + 1, by omega, by go_num, HO7, HX7⟩
      case measure => simp [intOf]; omega
    · obtain rfl : i = N := by omega
      go_wp2_with fail
      go_ret
      refine .mk _ rfl (HX0.out.trans HX) ⟨?_, fun k hk => ?_⟩
      · have := Ints.of_own HO
        rw [valU_all, ← hN] at this
        exact this
      · have h1 := (HO.lt k hk).1
        have := HX0.out.size; have := HQ.out; omega
end Go.Proofs.YtcpnidomdkaefaaGreatDoor
