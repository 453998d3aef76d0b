/- Powers, primes, the making of a field: contracts. -/
import Derived.Test.YthjemncbphdomaaDoorF1
import Derived.Test.YthjemncbphdomaaDoorPrim
namespace Go.Proofs.YthjemncbphdomaaDoor
open Go.RowKit Go.Att

section
variable {w : World} {f : Value} {p g : Int} {fs : List Int}
set_option maxHeartbeats 1000000 in
theorem power_any (hf : Fld w f p g fs) (a : Int) (n : Nat) (hn : n ≤ 9223372036854775807) :
    Calls Tryd.prog 142 #[f, .int .i64 a, .int .i64 n] w (Rd w (.int .i64 (fpow p a n))) := by
  have C := Lib.hid hf
  have hx := fof_bd hf.two a
  obtain ⟨⟨b', v, hf', hc, -, -, -⟩, -, lo, hi⟩ := hf
  subst hf'
  go_enter Tryd.func142, Tryd.ntmps142
  go_wp2_with (go_at_call 91; refine (of_any C.out _).mono ?_; rintro e w' ⟨rfl, m, rfl⟩)
  go_loopw [1, 2, 7] (fun x1 x2 x7 wr => ∃ (A X : Int) (k m : Nat), x1 = .int .i64 A ∧ x2 = .int .i64 k ∧ x7 = .int .i64 X ∧ 0 ≤ A ∧ A < p ∧ 0 ≤ X ∧ X < p ∧ k ≤ n ∧ Hid ((X * A ^ k) % p = fpow p a n) ∧ wr = w.drewN m) (fun _ x2 _ _ => (intOf x2).toNat)
  case atStart => exact ⟨_, _, n, _, rfl, rfl, rfl, hx.1, hx.2, by omega, by omega, Nat.le_refl _, Lib.hid (by simp [fof, fpow, pow_mod]), rfl⟩
  case round =>
    obtain ⟨A, X, k, m', rfl, rfl, rfl, hA0, hA1, hX0, hX1, hkn, H, rfl⟩ := hrel
    have hmA := mul_small (show 2 ≤ p by omega) hi ⟨hA0, hA1⟩ ⟨hA0, hA1⟩
    have hmX := mul_small (show 2 ≤ p by omega) hi ⟨hX0, hX1⟩ ⟨hA0, hA1⟩
    have bA := mod_bd (show 2 ≤ p by omega) (A * A)
    have bX := mod_bd (show 2 ≤ p by omega) (X * A)
    by_cases hk : 0 < k
    · have H2 := Lib.hid (pow_step H.out)
      rcases Nat.mod_two_eq_zero_or_one k with ho | ho
      · have hb : (bits BinOp.and IntKind.i64 (↑k) 1 == 1) = false := by rw [i64_and_one k (by omega), ho]; rfl
        have HO := Lib.hid ho; clear ho H
        go_wp2
        go_roundw
        case rel => exact ⟨_, _, k / 2, _, rfl, by go_num, rfl, bA.1, bA.2, hX0, hX1, by omega, Lib.hid (by have := H2.out; rw [HO.out, Int.pow_zero, Int.mul_one, Int.emod_eq_of_lt hX0 hX1] at this; exact this), rfl⟩
        case measure => simp [intOf]; omega
      · have hb : (bits BinOp.and IntKind.i64 (↑k) 1 == 1) = true := by rw [i64_and_one k (by omega), ho]; rfl
        have HO := Lib.hid ho; clear ho H
        go_wp2
        go_roundw
        case rel => exact ⟨_, _, k / 2, _, rfl, by go_num, rfl, bA.1, bA.2, bX.1, bX.2, by omega, Lib.hid (by have := H2.out; rw [HO.out, Int.pow_succ, Int.pow_zero, Int.one_mul] at this; exact this), rfl⟩
        case measure => simp [intOf]; omega
    · obtain rfl : k = 0 := by omega
      go_wp2
      go_ret
      exact .more _ (ret_int (by have := H.out; rw [Int.pow_zero, Int.mul_one, Int.emod_eq_of_lt hX0 hX1] at this; exact this))
theorem power_q (hf : Fld w f p g fs) (a : Int) (n : Nat) (hn : n ≤ 9223372036854775807) (m : Nat) :
    Calls Tryd.prog 142 #[f, .int .i64 a, .int .i64 n] (w.drewN m) fun e w'' => e = .returned (.int .i64 (fpow p a n)) ∧ ∃ m, w'' = w.drewN m := Calls.quiet_of (power_any (hf.drewN m) a n hn)
end
end Go.Proofs.YthjemncbphdomaaDoor
