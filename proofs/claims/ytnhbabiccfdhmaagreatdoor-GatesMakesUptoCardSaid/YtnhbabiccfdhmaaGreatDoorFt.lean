/- By halves: what spread comes to is what the polynomial is at the powers of a root: plain laws. No program in sight. -/
import Derived.Test.YtnhbabiccfdhmaaGreatDoorU6
import Derived.Test.YtnhbabiccfdhmaaGreatDoorV4
import Derived.Test.YtnhbabiccfdhmaaGreatDoorHb
namespace Go.Att
theorem sumN_two (f : Nat → Int) (n : Nat) : sumN f (2 * n) = sumN (fun i => f (2 * i)) n + sumN (fun i => f (2 * i + 1)) n := by
  induction n with
  | zero => rfl
  | succ n ih =>
    rw [show 2 * (n + 1) = 2 * n + 1 + 1 by omega]
    simp only [sumN]
    rw [ih]
    omega
theorem pow_dbl (g : Int) (n : Nat) : (g * g) ^ n = g ^ (2 * n) := by
  rw [Int.pow_mul, show g ^ 2 = g * g by rw [Int.pow_succ, Int.pow_succ, Int.pow_zero, Int.one_mul]]
theorem neg_pow_even (i : Nat) : ((-1 : Int)) ^ (2 * i) = 1 := by
  induction i with
  | zero => rfl
  | succ i ih => rw [show 2 * (i + 1) = 2 * i + 1 + 1 by omega, Int.pow_succ, Int.pow_succ, ih]; rfl
theorem neg_pow_odd (i : Nat) : ((-1 : Int)) ^ (2 * i + 1) = -1 := by rw [Int.pow_succ, neg_pow_even]; rfl
theorem pow_cong {p a b : Int} (h : a % p = b % p) (n : Nat) : a ^ n % p = b ^ n % p := by rw [← pow_mod p a n, h, pow_mod]
theorem sprZ_dft {p : Int} : ∀ (k : Nat) (a : Nat → Int) (g : Int), (∀ m, k = m + 1 → g ^ (2 ^ m) % p = (-1) % p) → ∀ j, j < 2 ^ k → sprZ k a g j % p = sumN (fun i => a i * g ^ (i * j)) (2 ^ k) % p := by
  intro k
  induction k with
  | zero =>
    intro a g _ j hj
    obtain rfl : j = 0 := by simpa using hj
    simp [sprZ, sumN]
  | succ k ih =>
    intro a g hg j hj
    have hg2 : ∀ m, k = m + 1 → (g * g) ^ (2 ^ m) % p = (-1) % p := fun m hm => by
      rw [pow_dbl, show 2 * 2 ^ m = 2 ^ k by rw [hm, Nat.pow_succ, Nat.mul_comm]]
      exact hg k rfl
    have hk := hg k rfl
    rw [Nat.pow_succ, Nat.mul_comm] at hj ⊢
    rw [sumN_two]
    simp only [sprZ]
    split
    · rename_i hlt
      refine madd ((ih _ _ hg2 j hlt).trans (congrArg (· % p) (sumN_congr _ fun i _ => ?_))) ((mmul rfl (ih _ _ hg2 j hlt)).trans (congrArg (· % p) ?_))
      · rw [pow_dbl, Nat.mul_assoc]
      · rw [sumN_mul]
        refine sumN_congr _ fun i _ => ?_
        rw [pow_dbl, Nat.add_mul, Int.pow_add, Nat.one_mul, Nat.mul_assoc]
        generalize g ^ (2 * (i * j)) = x
        generalize g ^ j = y
        rw [Int.mul_comm y, Int.mul_assoc]
    · rename_i hge
      obtain ⟨c, rfl⟩ : ∃ c, j = c + 2 ^ k := ⟨j - 2 ^ k, by omega⟩
      have hc : c < 2 ^ k := by omega
      rw [show c + 2 ^ k - 2 ^ k = c by omega]
      have e1 : ∀ i, g ^ ((2 * i) * (c + 2 ^ k)) % p = (g * g) ^ (i * c) % p := fun i => by
        rw [Nat.mul_add, Int.pow_add, pow_dbl, Nat.mul_assoc]
        have h2 : g ^ (2 * i * 2 ^ k) % p = 1 % p := by
          rw [Nat.mul_comm, Int.pow_mul, pow_cong hk, neg_pow_even]
        have := mmul (rfl : g ^ (2 * (i * c)) % p = g ^ (2 * (i * c)) % p) h2
        rw [Int.mul_one] at this
        exact this
      have e2 : ∀ i, g ^ ((2 * i + 1) * (c + 2 ^ k)) % p = (g ^ c * (g * g) ^ (i * c) * (-1)) % p := fun i => by
        rw [Nat.mul_add, Int.pow_add]
        have h2 : g ^ ((2 * i + 1) * 2 ^ k) % p = (-1) % p := by
          rw [Nat.mul_comm, Int.pow_mul, pow_cong hk, neg_pow_odd]
        refine (mmul rfl h2).trans (congrArg (· % p) ?_)
        congr 1
        rw [pow_dbl, ← Int.pow_add]
        congr 1
        rw [Nat.add_mul, Nat.one_mul, Nat.mul_assoc, Nat.add_comm]
      rw [show ∀ x y : Int, x - y = x + (-1) * y from fun x y => by omega]
      refine madd ((ih _ _ hg2 c hc).trans (sumN_mod p _ fun i _ => mmul rfl (e1 i).symm)) ?_
      rw [Int.mul_comm (-1), Int.mul_assoc, Int.mul_comm _ (-1), ← Int.mul_assoc]
      refine (mmul rfl (ih _ _ hg2 c hc)).trans ?_
      rw [sumN_mul]
      refine sumN_mod p _ fun i _ => ?_
      have := mmul (rfl : a (2 * i + 1) % p = a (2 * i + 1) % p) (e2 i)
      rw [this]
      congr 1
      generalize (g * g) ^ (i * c) = x
      generalize g ^ c = y
      generalize a (2 * i + 1) = z
      grind
end Go.Att
namespace Go.Proofs.YtnhbabiccfdhmaaGreatDoor
open Go.Att
/-- The half of a root's powers is -1. -/
theorem root_neg {p g : Int} (hp : Pr p) (hp3 : 3 ≤ p) (hg : IsGen p g) {n : Int} {m : Nat} (hn : n = 2 ^ (m + 1)) (hd : (p - 1) % n = 0) : froot p g n ^ (2 ^ m) % p = (-1) % p := by
  have hpos : (0 : Int) < 2 ^ m := Int.pow_pos (by decide)
  obtain ⟨c, hc⟩ := Int.dvd_of_emod_eq_zero hd
  have hn2 : n = 2 * 2 ^ m := by rw [hn, Int.pow_succ, Int.mul_comm]
  have hc0 : 0 < c := by
    apply Classical.byContradiction
    intro h
    have h0 : n * c ≤ 0 := by
      have := Int.mul_le_mul_of_nonneg_left (show c ≤ 0 by omega) (show 0 ≤ n by omega)
      simpa using this
    omega
  have hq : (p - 1) / n = c := by rw [hc]; exact Int.mul_ediv_cancel_left c (by omega)
  unfold froot fpow
  rw [hq, pow_cong (e_idem _ _), ← Int.pow_mul]
  obtain ⟨cn, rfl⟩ := Int.eq_ofNat_of_zero_le (show 0 ≤ c by omega)
  rw [Int.toNat_natCast]
  have hM : ((cn * 2 ^ m : Nat) : Int) = (cn : Int) * 2 ^ m := by push_cast; rfl
  have hM2 : 2 * ((cn * 2 ^ m : Nat) : Int) = p - 1 := by rw [hM, hc, hn2]; grind
  generalize cn * 2 ^ m = M at *
  have hf := fermat hp hg.1
  rw [show (p - 1).toNat = M + M by omega, Int.pow_add] at hf
  have h1 := hg.2 M (by omega) (by omega)
  have hdv : p ∣ (g ^ M - 1) * (g ^ M + 1) := by
    have e : (g ^ M - 1) * (g ^ M + 1) = g ^ M * g ^ M - 1 := by grind
    rw [e]
    exact dvd_sub_of_mod_eq (hf.trans (one_mod hp.two).symm)
  rcases hp.euclid hdv with h | h
  · exact absurd ((mod_eq_of_dvd_sub h).trans (one_mod hp.two)) h1
  · exact mod_eq_of_dvd_sub (by rw [show g ^ M - -1 = g ^ M + 1 by omega]; exact h)
end Go.Proofs.YtnhbabiccfdhmaaGreatDoor
namespace Go.Att
/-- .. and of what undoes it. -/
theorem inv_neg {p r : Int} (hp : Pr p) (h0 : ¬ p ∣ r) {N : Nat} (h : r ^ N % p = (-1) % p) : finv p r ^ N % p = (-1) % p := by
  have h1 := pow_cong ((finv_mul hp h0).trans (one_mod hp.two).symm) N
  rw [Int.mul_pow] at h1
  have h2 := mmul (rfl : finv p r ^ N % p = finv p r ^ N % p) h
  have h3 : (finv p r ^ N * -1) % p = 1 % p := by rw [← h2, h1, Int.one_pow]
  have h4 := mmul h3 (rfl : (-1 : Int) % p = (-1) % p)
  rw [show finv p r ^ N * -1 * -1 = finv p r ^ N by omega, show (1 : Int) * -1 = -1 by rfl] at h4
  exact h4
/-- What a polynomial is at all points. -/
def valsL (p sh r : Int) (n : Nat) (a : List Int) : List Int := (List.range n).map fun j => ev a (ptAt p sh r j) % p
theorem valsL_length (p sh r : Int) (n : Nat) (a : List Int) : (valsL p sh r n a).length = n := by simp [valsL]
theorem valsL_nth (p sh r : Int) (n : Nat) (a : List Int) {j : Nat} (h : j < n) : nth (valsL p sh r n a) j = ev a (ptAt p sh r j) % p := nth_map_range _ _ _ h
/-- The polynomial that has these values. -/
def cofL (p r : Int) (K : Nat) (n sh : Int) (l : List Int) : List Int := (List.range (2 ^ K)).map fun j => sumN (fun i => nth l i * finv p r ^ (i * j)) (2 ^ K) * ptAt p (finv p n) (finv p sh) j % p
theorem cofL_length (p r : Int) (K : Nat) (n sh : Int) (l : List Int) : (cofL p r K n sh l).length = 2 ^ K := by simp [cofL]
theorem cofL_nth (p r : Int) (K : Nat) (n sh : Int) (l : List Int) {j : Nat} (h : j < 2 ^ K) : nth (cofL p r K n sh l) j = sumN (fun i => nth l i * finv p r ^ (i * j)) (2 ^ K) * ptAt p (finv p n) (finv p sh) j % p := nth_map_range _ _ _ h
theorem degN_cong {p : Int} : ∀ {a b : List Int}, a.length = b.length → (∀ j, j < a.length → nth a j % p = nth b j % p) → degN p a = degN p b := fun {a b} hl h => by
  apply Nat.le_antisymm
  · rw [degN_bd]
    intro j h1 h2
    rw [h j h2]
    exact (degN_bd p b _).1 (Nat.le_refl _) j h1 (by omega)
  · rw [degN_bd]
    intro j h1 h2
    rw [← h j (by omega)]
    exact (degN_bd p a _).1 (Nat.le_refl _) j h1 (by omega)
theorem trimL_cong {p : Int} {a b : List Int} (hl : a.length = b.length) (h : ∀ j, j < a.length → nth a j % p = nth b j % p) : trimL p a = trimL p b := by
  unfold trimL
  rw [degN_cong hl h]
  apply List.ext_getElem (by simp [hl])
  intro i h1 h2
  simp only [List.length_map, List.length_take] at h1 h2
  have := h i (by omega)
  rw [nth_eq (by omega), nth_eq (by omega)] at this
  simp [fof, this]
theorem cofs_same {p r : Int} {K : Nat} {n sh : Int} {l M : List Int} (hg : ∀ m, K = m + 1 → finv p r ^ (2 ^ m) % p = (-1) % p) (hM : M.length = 2 ^ K) (h : ∀ j, j < 2 ^ K → nth M j % p = cz K (finv p r) (ptAt p (finv p n) (finv p sh)) l j % p) : trimL p M = trimL p (cofL p r K n sh l) := by
  have hc : ∀ j, j < 2 ^ K → nth M j % p = nth (cofL p r K n sh l) j % p := fun j hj => by
    rw [h j hj, cofL_nth _ _ _ _ _ _ hj, e_idem]
    unfold cz
    exact mmul (sprZ_dft K _ _ hg j hj) rfl
  exact trimL_cong (by rw [hM, cofL_length]) (fun j hj => hc j (by omega))
end Go.Att
