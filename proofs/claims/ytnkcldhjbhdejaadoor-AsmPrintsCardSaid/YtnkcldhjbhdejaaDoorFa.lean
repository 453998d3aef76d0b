/- The numbers modulo a prime, as the document has them and as the program has them: contracts. -/
import Derived.Test.YtnkcldhjbhdejaaDoorVc
import Derived.Test.YtnkcldhjbhdejaaDoorProg
import Derived.Test.YtnkcldhjbhdejaaDoorPl
/-! The numbers modulo a prime, as the document has them and as the program has them: contracts. -/
namespace Go.Proofs.YtnkcldhjbhdejaaDoor
open Go.RowKit Go.Att

/-! The program's. -/
section
variable {w : World} {f : Value} {p g : Int} {fs : List Int}
end
end Go.Proofs.YtnkcldhjbhdejaaDoor
/-! The document's sums and products in a region that draws. -/
namespace Go.Proofs.YtnkcldhjbhdejaaDoor
open Go.RowKit Go.Att
end Go.Proofs.YtnkcldhjbhdejaaDoor
/-! Powers, primes, the making of a field: contracts. -/
namespace Go.Proofs.YtnkcldhjbhdejaaDoor
open Go.RowKit Go.Att

section
variable {w : World} {f : Value} {p g : Int} {fs : List Int}
end
end Go.Proofs.YtnkcldhjbhdejaaDoor
/-! Whether a number is a prime; the primes that divide one: contracts. -/
namespace Go.Proofs.YtnkcldhjbhdejaaDoor
open Go.RowKit Go.Att

/-- A prime that may be. -/
def okP (p : Int) : Prop := Pr p ∧ 3 ≤ p ∧ p ≤ 2147483647
noncomputable def okB (p : Int) : Bool := @decide (okP p) (Classical.propDecidable _)
theorem okB_true {p : Int} (h : okP p) : okB p = true := @decide_eq_true _ (Classical.propDecidable _) h
theorem okB_false {p : Int} (h : ¬ okP p) : okB p = false := @decide_eq_false _ (Classical.propDecidable _) h

theorem sq_le {k p : Int} (h0 : 0 ≤ k) (h : k * k ≤ p) (hp : p ≤ 2147483647) : k ≤ 46340 := by
  rcases Int.lt_or_le 46340 k with h1 | h1
  · have : 46341 * 46341 ≤ k * k := Int.mul_le_mul (by omega) (by omega) (by omega) h0
    omega
  · exact h1
theorem sq_bd {k : Int} (h0 : 0 ≤ k) (h : k ≤ 46341) : 0 ≤ k * k ∧ k * k ≤ 2147488281 := by
  have h1 : k * k ≤ 46341 * 46341 := Int.mul_le_mul h h h0 (by omega)
  exact ⟨Int.mul_nonneg h0 h0, by omega⟩
/-- No divisor up to the root: a prime. -/
theorem prime_end {p k : Int} (hp : 2 ≤ p) (hk : p < k * k) (hk0 : 2 ≤ k) (h : ∀ d : Int, 2 ≤ d → d < k → ¬ d ∣ p) : Pr p := by
  refine ⟨hp, fun d h2 hd => h d h2 ?_⟩
  rcases Int.lt_or_le d k with h1 | h1
  · exact h1
  · have : k * k ≤ d * d := Int.mul_le_mul h1 h1 (by omega) (by omega)
    omega
theorem not_div_step {p k : Int} (h : ∀ d : Int, 2 ≤ d → d < k → ¬ d ∣ p) (hk : ¬ k ∣ p) : ∀ d : Int, 2 ≤ d → d < k + 1 → ¬ d ∣ p := by
  intro d h2 hd
  rcases Int.lt_or_eq_of_le (show d ≤ k by omega) with h1 | rfl
  · exact h d h2 h1
  · exact hk

end Go.Proofs.YtnkcldhjbhdejaaDoor
