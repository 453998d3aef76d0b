/- Tables, the program's side: how many variables they have; one of them fixed. -/
import Derived.Test.YthlnjfnlhgnblaaDoorVc
import Derived.Test.YthlnjfnlhgnblaaDoorLa
import Derived.Test.YthlnjfnlhgnblaaDoorHb
import Derived.Test.YthlnjfnlhgnblaaDoorQt
namespace Go.Att
open Go.RowKit
/-- How many times 2 a number is, up to 12; -1: it is none. -/
def varUp : Nat → Int → Int
  | 0, _ => -1
  | k + 1, n => if n = 2 ^ k then k else varUp k n
def varOf (n : Int) : Int := varUp 13 n
theorem varUp_bd (k : Nat) (n : Int) : -1 ≤ varUp k n ∧ varUp k n < k := by
  induction k with
  | zero => simp [varUp]
  | succ k ih => simp only [varUp]; split <;> omega
theorem varOf_bd (n : Int) : -1 ≤ varOf n ∧ varOf n ≤ 12 := by have := varUp_bd 13 n; unfold varOf; omega
theorem varUp_pow {k : Nat} {n : Int} (h : 0 ≤ varUp k n) : n = 2 ^ (varUp k n).toNat := by
  induction k with
  | zero => simp [varUp] at h
  | succ k ih =>
    simp only [varUp] at *
    by_cases e : n = 2 ^ k
    · rw [if_pos e, Int.toNat_natCast]; exact e
    · rw [if_neg e] at h ⊢; exact ih h
theorem varOf_pow {n : Int} (h : 0 ≤ varOf n) : n = 2 ^ (varOf n).toNat := varUp_pow h
theorem le12 {k : Nat} (h : k ≤ 12) : k = 0 ∨ k = 1 ∨ k = 2 ∨ k = 3 ∨ k = 4 ∨ k = 5 ∨ k = 6 ∨ k = 7 ∨ k = 8 ∨ k = 9 ∨ k = 10 ∨ k = 11 ∨ k = 12 := by omega
theorem varOf_of (k : Nat) (h : k ≤ 12) : varOf (2 ^ k) = k := by
  rcases le12 h with rfl | rfl | rfl | rfl | rfl | rfl | rfl | rfl | rfl | rfl | rfl | rfl | rfl <;> rfl
theorem varOf_le {n : Int} (h : 0 ≤ varOf n) : 1 ≤ n ∧ n ≤ 4096 := by
  have h1 := varOf_pow h
  have h2 := varOf_bd n
  have h3 : (2 : Nat) ^ (varOf n).toNat ≤ 2 ^ 12 := Nat.pow_le_pow_right (by decide) (by omega)
  have h4 : 1 ≤ (2 : Nat) ^ (varOf n).toNat := Nat.one_le_two_pow
  have h5 : ((2 ^ (varOf n).toNat : Nat) : Int) = (2 : Int) ^ (varOf n).toNat := by simp
  omega
theorem varOf_no {n : Int} (h : ∀ k : Nat, k ≤ 12 → (2 : Int) ^ k ≠ n) : varOf n = -1 := by
  apply Classical.byContradiction
  intro hc
  have h1 := varOf_bd n
  have h2 := varOf_pow (n := n) (by omega)
  exact h (varOf n).toNat (by omega) h2.symm
theorem varOf_out {n : Int} (h : n < 1 ∨ 4096 < n) : varOf n = -1 := by
  have h1 := varOf_bd n
  apply Classical.byContradiction
  intro hc
  have := varOf_le (n := n) (by omega)
  omega
theorem var_two {n : Int} (h1 : 1 ≤ n) (h2 : n ≤ 4096) : twoB n = decide (0 ≤ varOf n) := by
  by_cases h : 0 ≤ varOf n
  · rw [decide_eq_true h]
    have hp := varOf_pow h
    have hb := varOf_bd n
    simp only [twoB, twoUp, List.any_eq_true, List.mem_range, beq_iff_eq]
    exact ⟨(varOf n).toNat, by omega, hp.symm⟩
  · rw [decide_eq_false h, Bool.eq_false_iff]
    intro hc
    simp only [twoB, twoUp, List.any_eq_true, List.mem_range, beq_iff_eq] at hc
    obtain ⟨k, hk, rfl⟩ := hc
    have hk6 : k ≤ 12 := by
      apply Classical.byContradiction
      intro hc2
      have h3 : (2 : Nat) ^ 13 ≤ 2 ^ k := Nat.pow_le_pow_right (by decide) (by omega)
      have h4 : ((2 ^ k : Nat) : Int) = (2 : Int) ^ k := by simp
      omega
    rw [varOf_of k hk6] at h; omega
theorem fixL_step (p : Int) (t : List Int) (r : Int) {i : Nat} (h : i < t.length / 2) : (((fixL p t r).take (i + 1)).map (Value.int .i64)) = ((fixL p t r).take i).map (Value.int .i64) ++ [.int .i64 (fadd p (fmul p (nth t i) (fsub p 1 r)) (fmul p (nth t (i + t.length / 2)) r))] := by
  have hl : i < (fixL p t r).length := by rw [fixL_length]; exact h
  rw [List.take_succ_eq_append_getElem hl]
  simp [fixL]
end Go.Att
namespace Go.Proofs.YthlnjfnlhgnblaaDoor
open Go.RowKit Go.Att

section
variable {w : World} {f : Value} {p g : Int} {fs : List Int}
end
end Go.Proofs.YthlnjfnlhgnblaaDoor
