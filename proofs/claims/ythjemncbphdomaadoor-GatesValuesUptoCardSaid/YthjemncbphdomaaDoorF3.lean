/- Whether a number is a prime; the primes that divide one: contracts. -/
import Derived.Test.YthjemncbphdomaaDoorF2
import Derived.Test.YthjemncbphdomaaDoorVoc2
namespace Go.Proofs.YthjemncbphdomaaDoor
open Go.RowKit Go.Att

theorem slInts : SlT Tryd.prog 23 3 1 8 (.int .i64 0) := SlT.mk' Tryd.underlying23 (by kernel_rfl) (by decide)

/-- A prime that may be. -/
def okP (p : Int) : Prop := Pr p ∧ 3 ≤ p ∧ p ≤ 2147483647
noncomputable def okB (p : Int) : Bool := @decide (okP p) (Classical.propDecidable _)
theorem okB_true {p : Int} (h : okP p) : okB p = true := @decide_eq_true _ (Classical.propDecidable _) h
theorem okB_false {p : Int} (h : ¬ okP p) : okB p = false := @decide_eq_false _ (Classical.propDecidable _) h

theorem sq_le {k p : Int} (h0 : 0 ≤ k) (h : k * k ≤ p) (hp : p ≤ 2147483647) : k ≤ 46340 := by
  rcases Int.lt_or_le 46340 k with h1 | h1
  · have : 46341 * 46341 ≤ k * k := Int.mul_le_mul (by omega) (by omega) (by omega) h0
    omega
  · exact h1
theorem sq_bd {k : Int} (h0 : 0 ≤ k) (h : k ≤ 46341) : 0 ≤ k * k ∧ k * k ≤ 2147488281 := by
  have h1 : k * k ≤ 46341 * 46341 := Int.mul_le_mul h h h0 (by omega)
  exact ⟨Int.mul_nonneg h0 h0, by omega⟩
/-- No divisor up to the root: a prime. -/
theorem prime_end {p k : Int} (hp : 2 ≤ p) (hk : p < k * k) (hk0 : 2 ≤ k) (h : ∀ d : Int, 2 ≤ d → d < k → ¬ d ∣ p) : Pr p := by
  refine ⟨hp, fun d h2 hd => h d h2 ?_⟩
  rcases Int.lt_or_le d k with h1 | h1
  · exact h1
  · have : k * k ≤ d * d := Int.mul_le_mul h1 h1 (by omega) (by omega)
    omega
theorem not_div_step {p k : Int} (h : ∀ d : Int, 2 ≤ d → d < k → ¬ d ∣ p) (hk : ¬ k ∣ p) : ∀ d : Int, 2 ≤ d → d < k + 1 → ¬ d ∣ p := by
  intro d h2 hd
  rcases Int.lt_or_eq_of_le (show d ≤ k by omega) with h1 | rfl
  · exact h d h2 h1
  · exact hk

set_option maxHeartbeats 1000000 in
/-- The document's test. -/
theorem rprime_any (p : Int) (w : World) :
    Calls Tryd.prog 56 #[.int .i64 p] w fun e w' => e = .returned (.bool (okB p)) ∧ w = w' := by
  by_cases h3 : p < 3
  · have HB := Lib.hid <| okB_false (fun h : okP p => by have := h.2.1; omega)
    go_enter Tryd.func56, Tryd.ntmps56
    go_wp2
    go_ret; exact ⟨ret_bool HB.out.symm, rfl⟩
  · by_cases h4 : 2147483647 < p
    · have HB := Lib.hid <| okB_false (fun h : okP p => by have := h.2.2; omega)
      go_enter Tryd.func56, Tryd.ntmps56
      go_wp2
      go_ret; exact ⟨ret_bool HB.out.symm, rfl⟩
    · go_enter Tryd.func56, Tryd.ntmps56
      go_wp2
      go_loop [3] (fun x => ∃ k : Int, x = .int .i64 k ∧ 2 ≤ k ∧ k ≤ 46341 ∧ Hid (∀ d : Int, 2 ≤ d → d < k → ¬ d ∣ p)) (fun x => (46341 - intOf x).toNat)
      case atStart => exact ⟨2, rfl, by omega, by omega, Lib.hid (fun d h1 h2 => by omega)⟩
      case round =>
        obtain ⟨k, rfl, hk2, hk3, H⟩ := hrel
        have hs := sq_bd (show 0 ≤ k by omega) hk3
        by_cases hle : k * k ≤ p
        · have hk4 := sq_le (show 0 ≤ k by omega) hle (by omega)
          by_cases hd : k ∣ p
          · have HB := Lib.hid <| okB_false (fun h : okP p => h.1.no k hk2 hle hd)
            have hm : (p % k == 0) = true := by rw [beq_iff_eq]; exact Int.emod_eq_zero_of_dvd hd
            go_wp2
            go_ret; exact ⟨ret_bool HB.out.symm, rfl⟩
          · have hm : (p % k == 0) = false := by rw [beq_eq_false_iff_ne]; exact fun h => hd (Int.dvd_of_emod_eq_zero h)
            have H' := Lib.hid (not_div_step H.out hd)
            clear hd
            go_wp2
            go_round
            case rel => exact ⟨k + 1, rfl, by omega, by omega, H'⟩
            case measure => simp [intOf]; omega
        · have HB := Lib.hid <| okB_true (show okP p from ⟨prime_end (by omega) (by omega) hk2 H.out, by omega, by omega⟩)
          go_wp2
          go_ret; exact ⟨ret_bool HB.out.symm, rfl⟩

set_option maxHeartbeats 1000000 in
/-- The program's test, of numbers that are not too great. -/
theorem prime_any (p : Int) (w : World) (h3 : 3 ≤ p) (h4 : p ≤ 2147483647) :
    Calls Tryd.prog 134 #[.int .i64 p] w fun e w' => e = .returned (.bool (okB p)) ∧ w = w' := by
  go_enter Tryd.func134, Tryd.ntmps134
  go_wp2
  go_loop [3] (fun x => ∃ k : Int, x = .int .i64 k ∧ 2 ≤ k ∧ k ≤ 46341 ∧ Hid (∀ d : Int, 2 ≤ d → d < k → ¬ d ∣ p)) (fun x => (46341 - intOf x).toNat)
  case atStart => exact ⟨2, rfl, by omega, by omega, Lib.hid (fun d h1 h2 => by omega)⟩
  case round =>
    obtain ⟨k, rfl, hk2, hk3, H⟩ := hrel
    have hs := sq_bd (show 0 ≤ k by omega) hk3
    by_cases hle : k * k ≤ p
    · have hk4 := sq_le (show 0 ≤ k by omega) hle (by omega)
      by_cases hd : k ∣ p
      · have HB := Lib.hid <| okB_false (fun h : okP p => h.1.no k hk2 hle hd)
        have hm : (p % k == 0) = true := by rw [beq_iff_eq]; exact Int.emod_eq_zero_of_dvd hd
        go_wp2
        go_ret; exact ⟨ret_bool HB.out.symm, rfl⟩
      · have hm : (p % k == 0) = false := by rw [beq_eq_false_iff_ne]; exact fun h => hd (Int.dvd_of_emod_eq_zero h)
        have H' := Lib.hid (not_div_step H.out hd)
        clear hd
        go_wp2
        go_round
        case rel => exact ⟨k + 1, rfl, by omega, by omega, H'⟩
        case measure => simp [intOf]; omega
    · have HB := Lib.hid <| okB_true (show okP p from ⟨prime_end (by omega) (by omega) hk2 H.out, by omega, by omega⟩)
      go_wp2
      go_ret; exact ⟨ret_bool (by rw [HB.out]; simp; omega), rfl⟩
end Go.Proofs.YthjemncbphdomaaDoor
