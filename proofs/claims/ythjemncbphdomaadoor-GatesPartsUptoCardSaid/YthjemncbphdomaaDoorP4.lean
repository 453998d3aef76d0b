/- A layer's sum, the document's side: the digits of a number; the sum over the places whose first variables are fixed. -/
import Derived.Test.YthjemncbphdomaaDoorP2
namespace Go.Att
open Go.RowKit
theorem made_zeros (n : Nat) : (madeCells (Value.cells (.int .i64 0)) (n * 1)).toList = (List.replicate n (0 : Int)).map (Value.int .i64) := by
  simp [madeCells, Value.cells, Nat.mod_one, List.map_const']
theorem bits_start (n A : Nat) : (List.replicate n (0 : Int)).map (Value.int .i64) = (List.replicate (n - 0) 0 ++ bitsL 0 A).map (Value.int .i64) := by simp [bitsL]
theorem bits_set (r m A : Nat) : ((List.replicate (r + 1) (0 : Int) ++ bitsL m A).map (Value.int .i64)).take (r * 1) ++ (Value.cells (.int .i64 (((A / 2 ^ m : Nat) : Int) % 2))).toList ++ ((List.replicate (r + 1) (0 : Int) ++ bitsL m A).map (Value.int .i64)).drop (r * 1 + 1) = (List.replicate r 0 ++ bitsL (m + 1) A).map (Value.int .i64) := by
  simp [bitsL, Value.cells, List.take_append_of_le_length, List.drop_append_of_le_length, List.take_replicate, List.drop_replicate, Nat.mul_one]
theorem set_step (xs at0 : List Int) (k : Nat) (hk : k < xs.length) (h0 : k < at0.length) : ((xs.take k ++ at0.drop k).map (Value.int .i64)).take (k * 1) ++ (Value.cells (.int .i64 (nth xs k))).toList ++ ((xs.take k ++ at0.drop k).map (Value.int .i64)).drop (k * 1 + 1) = (xs.take (k + 1) ++ at0.drop (k + 1)).map (Value.int .i64) := by
  have hl : (xs.take k).length = k := by simp; omega
  have e1 : ((xs.take k ++ at0.drop k).map (Value.int .i64)).take (k * 1) = (xs.take k).map (Value.int .i64) := by
    rw [Nat.mul_one, List.map_append, List.take_append_of_le_length (by simp; omega), List.take_of_length_le (by simp; omega)]
  have e2 : ((xs.take k ++ at0.drop k).map (Value.int .i64)).drop (k * 1 + 1) = (at0.drop (k + 1)).map (Value.int .i64) := by
    have e3 : (xs.take k).drop (k + 1) = [] := List.drop_of_length_le (by omega)
    rw [Nat.mul_one, ← List.map_drop, List.drop_append, e3, hl, List.drop_drop, List.nil_append]
    congr 2; omega
  have e4 : (Value.cells (.int .i64 (nth xs k))).toList = [Value.int .i64 xs[k]] := by simp [Value.cells, nth, hk]
  rw [e1, e2, e4, List.take_succ_eq_append_getElem hk, List.map_append, List.map_append]
  rfl
theorem at_take (n A B : Nat) (xs : List Int) (h : xs.length ≤ 2 * n) : (xs ++ (bitsL n A ++ bitsL n B).drop xs.length).take n = xs.take n ++ bitsL (n - (xs.take n).length) A := by
  by_cases hn : xs.length ≤ n
  · rw [List.drop_append_of_le_length (by rw [bitsL_length]; exact hn), bitsL_drop _ _ _ hn, List.take_of_length_le hn, ← List.append_assoc, List.take_append_of_le_length (by rw [List.length_append, bitsL_length]; omega), List.take_of_length_le (by rw [List.length_append, bitsL_length]; omega)]
  · have e : (xs.take n).length = n := by simp; omega
    rw [List.take_append_of_le_length (by omega), e, Nat.sub_self]; simp [bitsL]
theorem at_drop (n A B : Nat) (xs : List Int) (h : xs.length ≤ 2 * n) : (xs ++ (bitsL n A ++ bitsL n B).drop xs.length).drop n = xs.drop n ++ bitsL (n - (xs.drop n).length) B := by
  by_cases hn : xs.length ≤ n
  · have e0 : (bitsL n A ++ bitsL n B).drop xs.length = bitsL (n - xs.length) A ++ bitsL n B := by rw [List.drop_append_of_le_length (by rw [bitsL_length]; exact hn), bitsL_drop _ _ _ hn]
    rw [e0, ← List.append_assoc]
    have e : (xs ++ bitsL (n - xs.length) A).length = n := by rw [List.length_append, bitsL_length]; omega
    rw [List.drop_append_of_le_length (by omega), List.drop_of_length_le (by omega), List.drop_of_length_le hn]; simp
  · have e : (bitsL n A ++ bitsL n B).drop xs.length = bitsL (2 * n - xs.length) B := by
      have e1 : (bitsL n A).drop xs.length = [] := List.drop_of_length_le (by rw [bitsL_length]; omega)
      rw [List.drop_append, e1, bitsL_length, bitsL_drop _ _ _ (by omega), List.nil_append]
      congr 1; omega
    rw [e, List.drop_append_of_le_length (by omega), List.length_drop]
    congr 2; omega
theorem fac_step0 (p : Int) (W : Int) (at0 xs : List Int) (k : Nat) (h : nth at0 k = 0) : fmul p ((W * facN at0 xs k) % p) (fsub p 1 (nth xs k)) = (W * facN at0 xs (k + 1)) % p := by
  simp only [facN, h, if_true, fmul, fsub, em_l, em_r, Int.mul_assoc]
theorem fac_step1 (p : Int) (W : Int) (at0 xs : List Int) (k : Nat) (h : nth at0 k ≠ 0) : fmul p ((W * facN at0 xs k) % p) (fof p (nth xs k)) = (W * facN at0 xs (k + 1)) % p := by
  simp only [facN, if_neg h, fmul, fof, em_l, em_r, Int.mul_assoc]
theorem part_step_mul (p : Int) (l : List Tri) (n : Nat) (t z xs : List Int) (i : Nat) (h : xs.length ≤ 2 * n) (hk : (nthT l i).1 = 1) :
    fadd p (partS l n t z xs i % p) (fmul p ((wgt z i * facN (bitsL n (nthT l i).2.1.toNat ++ bitsL n (nthT l i).2.2.toNat) xs xs.length) % p) (fmul p (sd n t (xs.take n) (nthT l i).2.1.toNat % p) (sd n t (xs.drop n) (nthT l i).2.2.toNat % p))) = partS l n t z xs (i + 1) % p := by
  rw [fac_shs _ _ _ _ h]
  simp only [partS, sumN, fadd, fmul, ea_l, ea_r, em_l, em_r]
  rw [show l.getD i (0, 0, 0) = nthT l i from rfl]
  simp only [partT, gop, hk, if_true]
theorem part_step_add (p : Int) (l : List Tri) (n : Nat) (t z xs : List Int) (i : Nat) (h : xs.length ≤ 2 * n) (hk : (nthT l i).1 ≠ 1) :
    fadd p (partS l n t z xs i % p) (fmul p ((wgt z i * facN (bitsL n (nthT l i).2.1.toNat ++ bitsL n (nthT l i).2.2.toNat) xs xs.length) % p) (fadd p (sd n t (xs.take n) (nthT l i).2.1.toNat % p) (sd n t (xs.drop n) (nthT l i).2.2.toNat % p))) = partS l n t z xs (i + 1) % p := by
  rw [fac_shs _ _ _ _ h]
  simp only [partS, sumN, fadd, fmul, ea_l, ea_r, em_l, em_r]
  rw [show l.getD i (0, 0, 0) = nthT l i from rfl]
  simp only [partT, gop, if_neg hk]
end Go.Att
namespace Go.Proofs.YthjemncbphdomaaDoor
open Go.RowKit Go.Att

set_option maxRecDepth 100000 in
set_option maxHeartbeats 2000000 in
theorem rbits_any (A n : Nat) (w : World) (hA : A ≤ 4611686018427387904) (hn : n ≤ 60) : Calls Tryd.prog 115 #[.int .i64 A, .int .i64 n] w (Gives w fun v w' => Ints w' v (bitsL n A)) := by
  go_enter Tryd.func115, Tryd.ntmps115
  go_wp2_with (refine wpList_mkn rfl _ _ 23 rfl slInts (Ext.refl w) rfl rfl (by omega) (by omega) (by omega) ?_; intro v1 w1 HO HX _; rw [Int.toNat_natCast, made_zeros, bits_start n A] at HO)
  go_loopw [0, 6] (fun x0 x6 wr => ∃ (m : Nat) (j : Int), m ≤ n ∧ j + m + 1 = n ∧ x6 = .int .i64 j ∧ x0 = .int .i64 ((A / 2 ^ m : Nat) : Int) ∧ wr.ownsRow w.heap.size 3 1 v1 n ((List.replicate (n - m) 0 ++ bitsL m A).map (Value.int .i64)) ∧ Ext w wr) (fun _ x6 _ => (intOf x6 + 1).toNat)
  case atStart => exact ⟨0, (n : Int) - 1, by omega, by omega, rfl, by simp, HO, HX⟩
  case round =>
    obtain ⟨m, j, hm, hj, rfl, rfl, HO1, HX1⟩ := hrel
    have hd : A / 2 ^ m ≤ 4611686018427387904 := Nat.le_trans (Nat.div_le_self _ _) hA
    by_cases hj0 : 0 ≤ j
    · obtain ⟨r, rfl⟩ := Int.eq_ofNat_of_zero_le hj0
      rw [show n - m = r + 1 by omega] at HO1
      have hix := (Sl.of_own HO1 (by omega)).run_index (P := Tryd.prog) slInts r (by omega) (by omega)
      rw [Int.toNat_natCast] at hix
      have BS := Lib.hid (bits_set r m A)
      have HD := Lib.hid (show A / 2 ^ m / 2 = A / 2 ^ (m + 1) by rw [Nat.div_div_eq_div_mul, Nat.pow_succ])
      generalize hq : A / 2 ^ m = q at *
      go_wp2_with (refine wpList_set rfl rfl _ _ 3 rfl slInts HO1 r (by omega) rfl (.int .i64 ((q : Int) % 2)) rfl rfl (by intro u hu; simp [Value.cells] at hu; subst hu; rfl) ?_; intro w2 HO2 HG2; rw [BS.out] at HO2; have HX2 := Ext.own_grown HX1 HO1 HG2)
      go_roundw
      case rel => exact ⟨m + 1, (r : Int) - 1, by omega, by omega, by go_num, by rw [← HD.out]; go_num, by rw [show n - (m + 1) = r by omega]; exact HO2, HX2⟩
      case measure => simp [intOf]
    · obtain rfl : m = n := by omega
      have HI := Lib.hid (Ints.of_own HO1)
      rw [Nat.sub_self, List.replicate_zero, List.nil_append] at HI
      go_wp2_with fail
      go_ret
      exact .mk _ rfl HX1 HI.out
end Go.Proofs.YthjemncbphdomaaDoor
