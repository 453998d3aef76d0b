/- Pairs, their numbers, their products: contracts. -/
import Derived.Test.YthjemncbphdomaaDoorF7
namespace Go.Att
/-- What a pair comes to with y. -/
def numb (p y : Int) (c : Int × Int) : Int := (c.1 + c.2 * y) % p
def fprod (p y x : Int) (l : List (Int × Int)) : Int := (prodL (l.map fun c => x - numb p y c)) % p
theorem fprod_nil {p y x : Int} (hp : 2 ≤ p) : fprod p y x [] = 1 := one_mod hp
theorem prodL_append (l m : List Int) : prodL (l ++ m) = prodL l * prodL m := by
  induction l with
  | nil => simp [prodL]
  | cons c l ih => simp only [prodL, List.cons_append, List.foldr_cons] at *; rw [ih, Int.mul_assoc]
theorem fprod_step {p y x : Int} {l : List (Int × Int)} {i : Nat} (h : i < l.length) : fprod p y x (l.take (i + 1)) = fmul p (fprod p y x (l.take i)) (fsub p x (numb p y (nthP l i))) := by
  rw [List.take_succ_eq_append_getElem h, ← nthP_eq h]
  unfold fprod fmul fsub
  rw [List.map_append, prodL_append, Int.mul_emod]
  simp [prodL, Int.mul_emod]
end Go.Att
namespace Go.Proofs.YthjemncbphdomaaDoor
open Go.RowKit Go.Att
theorem slCells : SlT Tryd.prog 22 29 2 16 (.agg #[.int .i64 0, .int .i64 0]) := SlT.mk' Tryd.underlying22 (by kernel_rfl) (by decide)

set_option maxHeartbeats 400000 in
theorem number_any (p y : Int) (c : Int × Int) (w : World) (hp : 2 ≤ p) (hp2 : p ≤ 2147483647) :
    Calls Tryd.prog 14 #[.int .i64 p, .agg #[.int .i64 c.1, .int .i64 c.2], .int .i64 y] w fun e w' => e = .returned (.int .i64 (numb p y c)) ∧ Ext w w' := by
  go_enter Tryd.func14, Tryd.ntmps14
  go_wp2_with (first | (go_at_call 57; refine (rmul_any _ _ _ _ hp hp2).mono ?_; rintro e w' ⟨rfl, rfl⟩) | (go_at_call 48; refine (radd_any _ _ _ _ hp hp2).mono ?_; rintro e w' ⟨rfl, rfl⟩))
  go_ret
  refine ⟨ret_int ?_, Ext.alloc _ _⟩
  unfold fadd fmul numb
  rw [Int.add_comm, Int.add_emod_emod]

set_option maxHeartbeats 1000000 in
theorem make_any (p x y : Int) (v : Value) (l : List (Int × Int)) (w : World) (hv : Prs w v l) (hp : 2 ≤ p) (hp2 : p ≤ 2147483647) :
    Calls Tryd.prog 17 #[.int .i64 p, v, .int .i64 x, .int .i64 y] w fun e w' => e = .returned (.int .i64 (fprod p y x l)) ∧ Ext w w' := by
  have hl := hv.run_len (P := Tryd.prog) slCells
  have hlen := hv.len
  have HV := Lib.hid hv; clear hv
  go_enter Tryd.func17, Tryd.ntmps17
  go_wp2
  go_loopw [9, 10] (fun x9 x10 wr => ∃ i : Nat, x9 = .int .i64 (fprod p y x (l.take i)) ∧ x10 = .int .i64 i ∧ i ≤ l.length ∧ Ext w wr) (fun _ x10 _ => l.length - (intOf x10).toNat)
  case atStart => exact ⟨0, by rw [List.take_zero, fprod_nil hp], rfl, Nat.zero_le _, Ext.refl _⟩
  case round =>
    obtain ⟨i, rfl, rfl, hi1, hx⟩ := hrel
    by_cases hlt : i < l.length
    · have hix := HV.out.run_index (P := Tryd.prog) slCells i hlt
      have hc1 := (HV.out.ext hx).fst i hlt
      have hc2 := (HV.out.ext hx).snd i hlt
      have HE := Lib.hid (fprod_step (p := p) (y := y) (x := x) hlt)
      go_wp2_with (first | (go_at_call 14; refine (number_any _ _ _ _ hp hp2).mono ?_; rintro e w1 ⟨rfl, hx1⟩; clear hc1 hc2) | (go_at_call 63; refine (rsub_any _ _ _ _ hp hp2).mono ?_; rintro e w' ⟨rfl, rfl⟩) | (go_at_call 57; refine (rmul_any _ _ _ _ hp hp2).mono ?_; rintro e w' ⟨rfl, rfl⟩))
      go_roundw
      case rel => exact ⟨i + 1, by rw [HE.out], by go_num, by omega, hx.trans hx1⟩
      case measure => simp [intOf]; omega
    · obtain rfl : i = l.length := by omega
      go_wp2_with fail
      go_ret
      exact ⟨ret_int (by rw [List.take_length]), hx⟩
end Go.Proofs.YthjemncbphdomaaDoor
