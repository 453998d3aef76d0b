/- A word's coefficients are linear in the word; sums of rows by powers. Plain laws. No program in sight. -/
import Derived.Test.YthlnjfnlhgnblaaDoorU1
namespace Go.Att
/-- By halves: what the program's spread comes to, unreduced. -/
def sprZ : Nat → (Nat → Int) → Int → Nat → Int
  | 0, a, _, j => a j
  | k + 1, a, g, j =>
    if j < 2 ^ k then sprZ k (fun i => a (2 * i)) (g * g) j + g ^ j * sprZ k (fun i => a (2 * i + 1)) (g * g) j
    else sprZ k (fun i => a (2 * i)) (g * g) (j - 2 ^ k) - g ^ (j - 2 ^ k) * sprZ k (fun i => a (2 * i + 1)) (g * g) (j - 2 ^ k)
theorem sprZ_congr (k : Nat) {a b : Nat → Int} (g : Int) (h : ∀ i, i < 2 ^ k → a i = b i) (j : Nat) (hj : j < 2 ^ k) : sprZ k a g j = sprZ k b g j := by
  induction k generalizing a b g j with
  | zero => exact h j hj
  | succ k ih =>
    rw [Nat.pow_succ] at h hj
    have e1 := fun j hj => ih (g * g) (a := fun i => a (2 * i)) (b := fun i => b (2 * i)) (fun i hi => h _ (by omega)) j hj
    have e2 := fun j hj => ih (g * g) (a := fun i => a (2 * i + 1)) (b := fun i => b (2 * i + 1)) (fun i hi => h _ (by omega)) j hj
    simp only [sprZ]
    split
    · rw [e1 j (by assumption), e2 j (by assumption)]
    · rw [e1 _ (by omega), e2 _ (by omega)]
theorem sprZ_mod (p : Int) (k : Nat) {a b : Nat → Int} {g g' : Int} (hg : g % p = g' % p) (h : ∀ i, i < 2 ^ k → a i % p = b i % p) (j : Nat) (hj : j < 2 ^ k) : sprZ k a g j % p = sprZ k b g' j % p := by
  induction k generalizing a b g g' j with
  | zero => exact h j hj
  | succ k ih =>
    rw [Nat.pow_succ] at h hj
    have hgg : (g * g) % p = (g' * g') % p := mmul hg hg
    have e1 := fun j hj => ih hgg (a := fun i => a (2 * i)) (b := fun i => b (2 * i)) (fun i hi => h _ (by omega)) j hj
    have e2 := fun j hj => ih hgg (a := fun i => a (2 * i + 1)) (b := fun i => b (2 * i + 1)) (fun i hi => h _ (by omega)) j hj
    have hpw : ∀ n : Nat, g ^ n % p = g' ^ n % p := fun n => by rw [← pow_mod p g n, hg, pow_mod]
    simp only [sprZ]
    split
    · exact madd (e1 j (by assumption)) (mmul (hpw _) (e2 j (by assumption)))
    · rw [Int.sub_emod, e1 _ (by omega), mmul (hpw _) (e2 _ (by omega)), ← Int.sub_emod]
theorem sprZ_zero (k : Nat) (g : Int) (j : Nat) : sprZ k (fun _ => 0) g j = 0 := by
  induction k generalizing g j with
  | zero => rfl
  | succ k ih => simp only [sprZ, ih]; split <;> simp
theorem sprZ_lin (k : Nat) (a b : Nat → Int) (c g : Int) (j : Nat) : sprZ k (fun i => a i + c * b i) g j = sprZ k a g j + c * sprZ k b g j := by
  induction k generalizing a b g j with
  | zero => rfl
  | succ k ih =>
    simp only [sprZ]
    rw [ih (fun i => a (2 * i)) (fun i => b (2 * i)), ih (fun i => a (2 * i + 1)) (fun i => b (2 * i + 1)), ih (fun i => a (2 * i)) (fun i => b (2 * i)), ih (fun i => a (2 * i + 1)) (fun i => b (2 * i + 1))]
    split <;> grind
theorem sprZ_sum (k : Nat) (F : Nat → Nat → Int) (c : Nat → Int) (g : Int) (n j : Nat) : sprZ k (fun i => sumN (fun m => c m * F m i) n) g j = sumN (fun m => c m * sprZ k (F m) g j) n := by
  induction n with
  | zero => simp only [sumN]; exact sprZ_zero k g j
  | succ n ih =>
    simp only [sumN]
    rw [sprZ_lin k (fun i => sumN (fun m => c m * F m i) n) (F n) (c n), ih]
/-- A polynomial that is not 0 has few roots. -/
theorem few_of {p : Int} (hp : Pr p) (q : List Int) (hc : ∃ c ∈ q, ¬ p ∣ c) (P : Nat → Bool) (n : Nat) (hn : (n : Int) ≤ p) (hP : ∀ i, i < n → P i = true → ev q (i : Int) % p = 0) : cntN P n < q.length := by
  rw [← such_length]
  refine roots hp q hc (such P n) ?_ ?_
  · unfold such
    rw [List.pairwise_map]
    refine List.Pairwise.imp_of_mem ?_ ((List.nodup_range (n := n)).filter P)
    intro a b ha hb hab hd
    have ha' := List.mem_range.1 (List.mem_filter.1 ha).1
    have hb' := List.mem_range.1 (List.mem_filter.1 hb).1
    obtain ⟨k, hk⟩ := hd
    have hp2 := hp.two
    have h1 : ((a : Int) - b) < p := by omega
    have h2 : -p < ((a : Int) - b) := by omega
    rw [hk] at h1 h2
    have k0 : k = 0 := by
      rcases Int.lt_trichotomy k 0 with h | h | h
      · have : p * k ≤ p * (-1) := Int.mul_le_mul_of_nonneg_left (by omega) (by omega)
        omega
      · exact h
      · have : p * 1 ≤ p * k := Int.mul_le_mul_of_nonneg_left (by omega) (by omega)
        omega
    rw [k0] at hk
    exact hab (by omega)
  · intro x hx
    obtain ⟨i, hi, rfl⟩ := List.mem_map.1 hx
    obtain ⟨h1, h2⟩ := List.mem_filter.1 hi
    exact Int.dvd_of_emod_eq_zero (hP i (List.mem_range.1 h1) h2)
end Go.Att
