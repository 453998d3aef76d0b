/- How wide a layer is, the program's side: contracts of size, and of the search for a layer that is none. -/
import Derived.Test.YthlnjfnlhgnblaaDoorC3
import Derived.Test.YthlnjfnlhgnblaaDoorHb
/-! How wide a layer is, the program's side: contracts of size, and of the search for a layer that is none. -/
namespace Go.Att
open Go.RowKit
/-- A power of two up to 64 is wide; what is wide is one. -/
theorem wide_two {n : Int} (h1 : 1 ≤ n) (h2 : n ≤ 64) : twoB n = decide (0 ≤ wideOf n) := by
  by_cases h : 0 ≤ wideOf n
  · rw [decide_eq_true h]
    have hp := wideOf_pow h
    have hb := wideOf_bd n
    simp only [twoB, twoUp, List.any_eq_true, List.mem_range, beq_iff_eq]
    exact ⟨(wideOf n).toNat, by omega, hp.symm⟩
  · rw [decide_eq_false h, Bool.eq_false_iff]
    intro hc
    simp only [twoB, twoUp, List.any_eq_true, List.mem_range, beq_iff_eq] at hc
    obtain ⟨k, hk, rfl⟩ := hc
    have hk6 : k ≤ 6 := by
      apply Classical.byContradiction
      intro hc2
      have h3 : (2 : Nat) ^ 7 ≤ 2 ^ k := Nat.pow_le_pow_right (by decide) (by omega)
      have h4 : ((2 ^ k : Nat) : Int) = (2 : Int) ^ k := by simp
      omega
    rw [wideOf_of k hk6] at h; omega
theorem wide_out {n : Int} (h : n < 1 ∨ 64 < n) : wideOf n = -1 := by
  have h1 := wideOf_bd n
  apply Classical.byContradiction
  intro hc
  have := wideOf_le (n := n) (by omega)
  omega
/-- Is a layer of no size? -/
def badLy (l : List Tri) : Bool := decide (wideOf l.length < 0)
end Go.Att
namespace Go.Proofs.YthlnjfnlhgnblaaDoor
open Go.RowKit Go.Att

end Go.Proofs.YthlnjfnlhgnblaaDoor
/-! What is wrong with a circuit, the program's side: contract of checked. -/
namespace Go.Att
theorem sizes_any {wd : Int} {Ls : List (List Tri)} (h : Ls.any badLy = true) : ¬ cirSizes wd Ls := by
  intro hc
  obtain ⟨l, hl, h2⟩ := List.any_eq_true.1 h
  obtain ⟨i, hi, rfl⟩ := List.getElem_of_mem hl
  have := hc.2.2.2.2 i hi
  rw [nthY_eq hi] at this
  unfold badLy at h2
  simp only [decide_eq_true_eq] at h2
  omega
theorem sizes_of {wd : Int} {Ls : List (List Tri)} (h1 : 0 ≤ wd) (h2 : wd ≤ 6) (h3 : 1 ≤ (Ls.length : Int)) (h4 : (Ls.length : Int) ≤ 8) (h : Ls.any badLy = false) : cirSizes wd Ls := by
  refine ⟨h1, h2, by omega, by omega, fun i hi => ?_⟩
  rw [List.any_eq_false] at h
  have := h _ (nthY_mem hi)
  unfold badLy at this
  simp only [decide_eq_true_eq] at this
  omega
theorem below_succ (wd : Int) (Ls : List (List Tri)) (i : Nat) : below wd Ls (i + 1) = (nthY Ls i).length := by unfold below; rw [if_neg (by omega)]; rfl
end Go.Att
namespace Go.Proofs.YthlnjfnlhgnblaaDoor
open Go.RowKit Go.Att

end Go.Proofs.YthlnjfnlhgnblaaDoor
