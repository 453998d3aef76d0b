/- The matrix of inverses 1 / (i + j + 8) can be undone: no pivot is 0. Plain laws. No program in sight. -/
import Derived.Test.YthlnjfnlhgnblaaDoorLa
namespace Go.Att
/-- The products of x - l, of x + l + 8. -/
def cA (x : Int) : Nat → Int
  | 0 => 1
  | i + 1 => cA x i * (x - i)
def cB (x : Int) : Nat → Int
  | 0 => 1
  | i + 1 => cB x i * (x + i + 8)
theorem pr_mul {p : Int} (hp : Pr p) {a b : Int} (ha : ¬ p ∣ a) (hb : ¬ p ∣ b) : ¬ p ∣ a * b := fun h => (hp.euclid h).elim ha hb
theorem pr_small {p a : Int} (h1 : 0 < a) (h2 : a < p) : ¬ p ∣ a := fun h => by have := Int.le_of_dvd h1 h; omega
theorem cA_unit {p : Int} (hp : Pr p) (h23 : 23 ≤ p) (x i : Nat) (hx : x < 8) (hi : i ≤ x) : ¬ p ∣ cA x i := by
  induction i with
  | zero => exact (pr_small (by decide) (by omega) : ¬ p ∣ (1 : Int))
  | succ i ih => exact pr_mul hp (ih (by omega)) (pr_small (by omega) (by omega))
theorem cB_unit {p : Int} (hp : Pr p) (h23 : 23 ≤ p) (x i : Nat) (hx : x < 8) (hi : i ≤ 8) : ¬ p ∣ cB x i := by
  induction i with
  | zero => exact (pr_small (by decide) (by omega) : ¬ p ∣ (1 : Int))
  | succ i ih => exact pr_mul hp (ih (by omega)) (pr_small (by omega) (by omega))
/-- What is left of the matrix behind i steps. -/
def Left (p : Int) (i : Nat) (m : Nat → Nat → Int) : Prop :=
  ∀ r j : Nat, i ≤ r → r < 8 → i ≤ j → j < 8 → (m r j * (((r : Int) + j + 8) * (cB r i * cB j i))) % p = (cA r i * cA j i) % p
theorem left_start {p : Int} (hp : Pr p) (h23 : 23 ≤ p) (m : Nat → Nat → Int) (h : ∀ r j : Nat, r < 8 → j < 8 → m r j = finv p ((r : Int) + j + 8)) : Left p 0 m := by
  intro r j _ hr _ hj
  rw [h r j hr hj]
  simp only [cA, cB, Int.mul_one]
  rw [finv_mul hp (pr_small (by omega) (by omega)), one_mod hp.two]
theorem left_pivot {p : Int} (hp : Pr p) (h23 : 23 ≤ p) {m : Nat → Nat → Int} {i : Nat} (hi : i < 8) (h : Left p i m) : ¬ p ∣ m i i := by
  intro hd
  have h1 := h i i (Nat.le_refl _) hi (Nat.le_refl _) hi
  have h2 : p ∣ m i i * (((i : Int) + i + 8) * (cB i i * cB i i)) := Int.dvd_mul_of_dvd_left hd
  rw [Int.emod_eq_zero_of_dvd h2] at h1
  have h3 : p ∣ cA i i * cA i i := Int.dvd_of_emod_eq_zero h1.symm
  exact pr_mul hp (cA_unit hp h23 i i hi (Nat.le_refl _)) (cA_unit hp h23 i i hi (Nat.le_refl _)) h3
theorem mod_cancel {p : Int} (hp : Pr p) {a b c : Int} (hc : ¬ p ∣ c) (h : (a * c) % p = (b * c) % p) : a % p = b % p := by
  have h1 := dvd_sub_of_mod_eq h
  rw [← Int.sub_mul] at h1
  exact mod_eq_of_dvd_sub ((hp.euclid h1).resolve_right hc)
/-- A step: the row of the pivot is made 1 there, and goes from the others. -/
theorem left_step {p : Int} (hp : Pr p) (h23 : 23 ≤ p) {m m' : Nat → Nat → Int} {i : Nat} (hi : i < 8) (h : Left p i m) (by_ : Int) (hby : (by_ * m i i) % p = 1 % p)
    (hm : ∀ r j : Nat, i < r → r < 8 → i < j → j < 8 → m' r j % p = (m r j - m r i * (m i j * by_)) % p) : Left p (i + 1) m' := by
  intro r j hr hr8 hj hj8
  have ha := h r j (by omega) hr8 (by omega) hj8
  have hb := h r i (by omega) hr8 (Nat.le_refl _) hi
  have hc := h i j (Nat.le_refl _) hi (by omega) hj8
  have hP := h i i (Nat.le_refl _) hi (Nat.le_refl _) hi
  have hu := cB_unit hp h23 i i hi (by omega)
  have hm' := hm r j (by omega) hr8 (by omega) hj8
  generalize m r j = a at *
  generalize m r i = b at *
  generalize m i j = c at *
  generalize m i i = P at *
  simp only [cA, cB]
  generalize cB (r : Int) i = Br at *
  generalize cB (j : Int) i = Bj at *
  generalize cB (i : Int) i = Bi at *
  generalize cA (r : Int) i = Ar at *
  generalize cA (j : Int) i = Aj at *
  generalize cA (i : Int) i = Ai at *
  generalize (r : Int) = r at *
  generalize (j : Int) = j at *
  generalize (i : Int) = i at *
  -- the pivot's part
  have e1 : (b * (c * by_) * ((r + j + 8) * ((Br * (r + i + 8)) * (Bj * (j + i + 8))))) % p = (Ar * Aj * ((i + i + 8) * (r + j + 8))) % p := by
    refine mod_cancel hp (pr_mul hp hu hu) ?_
    have s1 : b * (c * by_) * ((r + j + 8) * ((Br * (r + i + 8)) * (Bj * (j + i + 8)))) * (Bi * Bi) = (b * ((r + i + 8) * (Br * Bi))) * ((c * ((i + j + 8) * (Bi * Bj))) * (by_ * (r + j + 8))) := by grind
    have s2 : (Ar * Ai) * ((Ai * Aj) * (by_ * (r + j + 8))) = (Ai * Ai) * (Ar * Aj * (by_ * (r + j + 8))) := by grind
    have s3 : (P * ((i + i + 8) * (Bi * Bi))) * (Ar * Aj * (by_ * (r + j + 8))) = (by_ * P) * (Ar * Aj * ((i + i + 8) * (r + j + 8)) * (Bi * Bi)) := by grind
    rw [s1, mmul hb (mmul hc rfl), s2, ← mmul hP rfl, s3, mmul hby rfl, Int.one_mul]
  have e2 : (a * ((r + j + 8) * ((Br * (r + i + 8)) * (Bj * (j + i + 8))))) % p = (Ar * Aj * ((r + i + 8) * (j + i + 8))) % p := by
    have s1 : a * ((r + j + 8) * ((Br * (r + i + 8)) * (Bj * (j + i + 8)))) = (a * ((r + j + 8) * (Br * Bj))) * ((r + i + 8) * (j + i + 8)) := by grind
    rw [s1, mmul ha rfl]
  rw [mmul hm' rfl, Int.sub_mul, Int.sub_emod, e1, e2, ← Int.sub_emod]
  congr 1
  grind
end Go.Att
