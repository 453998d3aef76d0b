/- The cells of a step, as they lie. -/
import Derived.Test.YtainhfnanamobaaGreatDoorMh
namespace Go.Att
open Go.RowKit
theorem flatS_at : ∀ (l : List Stp) (i k : Nat) (h : i < l.length), k < 10 → (flatS l)[i * 10 + k]? = (l[i].nums.map (Value.int .i64))[k]?
  | [], i, k, h, _ => by simp at h
  | t :: l, 0, k, _, hk => by
    have h10 : (t.nums.map (Value.int .i64)).length = 10 := by simp [Stp.nums]
    simp only [flatS, List.flatMap_cons, Nat.zero_mul, Nat.zero_add, List.getElem_cons_zero]
    rw [List.getElem?_append_left (by omega)]
  | t :: l, i + 1, k, h, hk => by
    have h10 : (t.nums.map (Value.int .i64)).length = 10 := by simp [Stp.nums]
    have ih := flatS_at l i k (by simpa using h) hk
    simp only [flatS, List.flatMap_cons, List.getElem_cons_succ] at ih ⊢
    rw [List.getElem?_append_right (by omega), h10, show (i + 1) * 10 + k - 10 = i * 10 + k by omega]
    exact ih
/-- A step's place and what it is, as they lie. -/
theorem stp_at {w : World} {v : Value} {l : List Stp} (h : Sl w 10 v l.length (flatS l)) (i j : Nat) (hi : i < l.length) (hj : j < 3) :
    w.cell? ⟨(elt v i 10).block, (elt v i 10).off + (4 + j), none⟩ = some (.int .i64 (accA l[i].acc j)) ∧ w.cell? ⟨(elt v i 10).block, (elt v i 10).off + (7 + j), none⟩ = some (.int .i64 (accI l[i].acc j)) := by
  have h3 : j = 0 ∨ j = 1 ∨ j = 2 := by omega
  rcases h3 with rfl | rfl | rfl
  · exact ⟨stp_c h i 4 hi (by omega) (by omega) (by rw [flatS_at l i 4 hi (by omega)]; rfl), stp_c h i 7 hi (by omega) (by omega) (by rw [flatS_at l i 7 hi (by omega)]; rfl)⟩
  · exact ⟨stp_c h i 5 hi (by omega) (by omega) (by rw [flatS_at l i 5 hi (by omega)]; rfl), stp_c h i 8 hi (by omega) (by omega) (by rw [flatS_at l i 8 hi (by omega)]; rfl)⟩
  · exact ⟨stp_c h i 6 hi (by omega) (by omega) (by rw [flatS_at l i 6 hi (by omega)]; rfl), stp_c h i 9 hi (by omega) (by omega) (by rw [flatS_at l i 9 hi (by omega)]; rfl)⟩
/-- The last step tells the outcome. -/
theorem flatS_fin {l' : List Stp} {t : Stp} : (flatS (l' ++ [t]))[l'.length * 10 + 7]? = some (.int .i64 (accI t.acc 0)) := by
  rw [flatS_snoc, List.getElem?_append_right (by rw [flatS_length]; omega), flatS_length]
  simp [Stp.nums, accI]
/-- All ten cells of a step. -/
theorem stp_all {w : World} {v : Value} {l : List Stp} (h : Sl w 10 v l.length (flatS l)) (i : Nat) (hi : i < l.length) :
    w.cell? (elt v i 10) = some (.int .i64 l[i].pc) ∧ w.cell? ⟨(elt v i 10).block, (elt v i 10).off + 1, none⟩ = some (.int .i64 l[i].fp) ∧ w.cell? ⟨(elt v i 10).block, (elt v i 10).off + 2, none⟩ = some (.int .i64 l[i].ap) ∧ w.cell? ⟨(elt v i 10).block, (elt v i 10).off + 3, none⟩ = some (.int .i64 l[i].rv) ∧
    w.cell? ⟨(elt v i 10).block, (elt v i 10).off + 4, none⟩ = some (.int .i64 (accA l[i].acc 0)) ∧ w.cell? ⟨(elt v i 10).block, (elt v i 10).off + 5, none⟩ = some (.int .i64 (accA l[i].acc 1)) ∧ w.cell? ⟨(elt v i 10).block, (elt v i 10).off + 6, none⟩ = some (.int .i64 (accA l[i].acc 2)) ∧
    w.cell? ⟨(elt v i 10).block, (elt v i 10).off + 7, none⟩ = some (.int .i64 (accI l[i].acc 0)) ∧ w.cell? ⟨(elt v i 10).block, (elt v i 10).off + 8, none⟩ = some (.int .i64 (accI l[i].acc 1)) ∧ w.cell? ⟨(elt v i 10).block, (elt v i 10).off + 9, none⟩ = some (.int .i64 (accI l[i].acc 2)) := by
  obtain ⟨a0, b0⟩ := stp_at h i 0 hi (by omega)
  obtain ⟨a1, b1⟩ := stp_at h i 1 hi (by omega)
  obtain ⟨a2, b2⟩ := stp_at h i 2 hi (by omega)
  exact ⟨stp_c0 h i hi (by have := flatS_at l i 0 hi (by omega); rw [Nat.add_zero] at this; rw [this]; rfl), stp_c h i 1 hi (by omega) (by omega) (by rw [flatS_at l i 1 hi (by omega)]; rfl), stp_c h i 2 hi (by omega) (by omega) (by rw [flatS_at l i 2 hi (by omega)]; rfl), stp_c h i 3 hi (by omega) (by omega) (by rw [flatS_at l i 3 hi (by omega)]; rfl), a0, a1, a2, b0, b1, b2⟩
end Go.Att
