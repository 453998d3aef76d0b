/- Plain algebra modulo a prime: Euclid's lemma, inverses, roots of polynomials; the operations of the field. No program in sight. -/

/-! Plain algebra modulo a prime: Euclid's lemma, inverses, roots of polynomials; the operations of the field. No program in sight. -/
namespace Go.Att

structure Pr (p : Int) : Prop where
  two : 2 ≤ p
  no : ∀ d : Int, 2 ≤ d → d * d ≤ p → ¬ d ∣ p

/-! The operations. -/
def fof (p n : Int) : Int := n % p
def fadd (p a b : Int) : Int := (a + b) % p
def fsub (p a b : Int) : Int := (a - b) % p
def fmul (p a b : Int) : Int := (a * b) % p
def finv (p a : Int) : Int := a ^ (p - 2).toNat % p
def fdiv (p a b : Int) : Int := (a * finv p b) % p

section
variable {p : Int} (hp : 2 ≤ p)
include hp
end

end Go.Att
/-! Remainders within sums and products. -/
namespace Go.Att
end Go.Att
/-! Fermat's theorem and the existence of a generator modulo a prime. Plain algebra, no program. -/
namespace Go.Att

/-! Lists that are permutations of one another. -/
theorem strip {q : Nat} (hq : 2 ≤ q) {n : Nat} (hn : 0 < n) : ∃ e m, n = q ^ e * m ∧ ¬ q ∣ m := by
  induction n using Nat.strongRecOn with
  | _ n ih =>
    by_cases h : q ∣ n
    · obtain ⟨k, hk⟩ := h
      have hk0 : 0 < k := by rcases Nat.eq_zero_or_pos k with h0 | h0; (subst h0; omega); exact h0
      have hkn : k < n := by rw [hk]; have := Nat.mul_le_mul_right k hq; omega
      obtain ⟨e, m, h1, h2⟩ := ih k hkn hk0
      exact ⟨e + 1, m, by rw [hk, h1, Nat.pow_succ, ← Nat.mul_assoc, Nat.mul_comm q]; , h2⟩
    · exact ⟨0, n, by simp, h⟩

end Go.Att
