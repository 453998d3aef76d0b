/- What is wrong with a circuit, the document's side: contract of Fault. How wide a layer is, the program's side: contracts of size, and of the search for a layer that is none. What the gates of a circuit are, the document's side: contracts. -/
import Derived.Test.YtcpnidomdkaefaaGreatDoorZx16
import Derived.Test.YtcpnidomdkaefaaGreatDoorZx2
import Derived.Test.YtcpnidomdkaefaaGreatDoorVc
import Derived.Test.YtcpnidomdkaefaaGreatDoorZx15
import Derived.Test.YtcpnidomdkaefaaGreatDoorZx5
import Derived.Test.YtcpnidomdkaefaaGreatDoorZx10
import Derived.Deep.RegionWith
section
namespace Go.Att
theorem sizes_not {wd : Int} {Ls : List (List Tri)} (h : wd < 0 ∨ 6 < wd ∨ (Ls.length : Int) < 1 ∨ 8 < (Ls.length : Int)) : ¬ cirSizes wd Ls := by
  intro hc
  unfold cirSizes at hc
  omega
theorem pow2_small {n : Nat} (h : n ≤ 6) : (1 : Int) ≤ 2 ^ n ∧ (2 : Int) ^ n ≤ 64 := by
  have : n = 0 ∨ n = 1 ∨ n = 2 ∨ n = 3 ∨ n = 4 ∨ n = 5 ∨ n = 6 := by omega
  rcases this with rfl | rfl | rfl | rfl | rfl | rfl | rfl <;> decide
end Go.Att
namespace Go.Proofs.YtcpnidomdkaefaaGreatDoor
open Go.RowKit Go.Att

end Go.Proofs.YtcpnidomdkaefaaGreatDoor
end
section
/-! How wide a layer is, the program's side: contracts of size, and of the search for a layer that is none. -/
namespace Go.Att
open Go.RowKit
/-- A power of two up to 64 is wide; what is wide is one. -/
theorem wide_two {n : Int} (h1 : 1 ≤ n) (h2 : n ≤ 64) : twoB n = decide (0 ≤ wideOf n) := by
  by_cases h : 0 ≤ wideOf n
  · rw [decide_eq_true h]
    have hp := wideOf_pow h
    have hb := wideOf_bd n
    simp only [twoB, twoUp, List.any_eq_true, List.mem_range, beq_iff_eq]
    exact ⟨(wideOf n).toNat, by omega, hp.symm⟩
  · rw [decide_eq_false h, Bool.eq_false_iff]
    intro hc
    simp only [twoB, twoUp, List.any_eq_true, List.mem_range, beq_iff_eq] at hc
    obtain ⟨k, hk, rfl⟩ := hc
    have hk6 : k ≤ 6 := by
      apply Classical.byContradiction
      intro hc2
      have h3 : (2 : Nat) ^ 7 ≤ 2 ^ k := Nat.pow_le_pow_right (by decide) (by omega)
      have h4 : ((2 ^ k : Nat) : Int) = (2 : Int) ^ k := by simp
      omega
    rw [wideOf_of k hk6] at h; omega
theorem wide_out {n : Int} (h : n < 1 ∨ 64 < n) : wideOf n = -1 := by
  have h1 := wideOf_bd n
  apply Classical.byContradiction
  intro hc
  have := wideOf_le (n := n) (by omega)
  omega
/-- Is a layer of no size? -/
def badLy (l : List Tri) : Bool := decide (wideOf l.length < 0)
end Go.Att
namespace Go.Proofs.YtcpnidomdkaefaaGreatDoor
open Go.RowKit Go.Att

end Go.Proofs.YtcpnidomdkaefaaGreatDoor
/-! What is wrong with a circuit, the program's side: contract of checked. -/
namespace Go.Att
theorem sizes_any {wd : Int} {Ls : List (List Tri)} (h : Ls.any badLy = true) : ¬ cirSizes wd Ls := by
  intro hc
  obtain ⟨l, hl, h2⟩ := List.any_eq_true.1 h
  obtain ⟨i, hi, rfl⟩ := List.getElem_of_mem hl
  have := hc.2.2.2.2 i hi
  rw [nthY_eq hi] at this
  unfold badLy at h2
  simp only [decide_eq_true_eq] at h2
  omega
theorem sizes_of {wd : Int} {Ls : List (List Tri)} (h1 : 0 ≤ wd) (h2 : wd ≤ 6) (h3 : 1 ≤ (Ls.length : Int)) (h4 : (Ls.length : Int) ≤ 8) (h : Ls.any badLy = false) : cirSizes wd Ls := by
  refine ⟨h1, h2, by omega, by omega, fun i hi => ?_⟩
  rw [List.any_eq_false] at h
  have := h _ (nthY_mem hi)
  unfold badLy at this
  simp only [decide_eq_true_eq] at this
  omega
theorem below_succ (wd : Int) (Ls : List (List Tri)) (i : Nat) : below wd Ls (i + 1) = (nthY Ls i).length := by unfold below; rw [if_neg (by omega)]; rfl
end Go.Att
namespace Go.Proofs.YtcpnidomdkaefaaGreatDoor
open Go.RowKit Go.Att

end Go.Proofs.YtcpnidomdkaefaaGreatDoor
end
section
namespace Go.Att
open Go.RowKit
/-- What a gate is, over the values beneath. -/
def gval (p : Int) (row : List Int) (g : Tri) : Int := if g.1 = 1 then fmul p (nth row g.2.1.toNat) (nth row g.2.2.toNat) else fadd p (nth row g.2.1.toNat) (nth row g.2.2.toNat)
def vrow (p : Int) (Ls : List (List Tri)) (inp : List Int) : Nat → List Int
  | 0 => inp.map (fof p)
  | i + 1 => (nthY Ls i).map (gval p (vrow p Ls inp i))
/-- All rows up to one. -/
def vals (p : Int) (Ls : List (List Tri)) (inp : List Int) (n : Nat) : List (List Int) := (List.range (n + 1)).map (vrow p Ls inp)
theorem vals_length (p : Int) (Ls : List (List Tri)) (inp : List Int) (n : Nat) : (vals p Ls inp n).length = n + 1 := by simp [vals]
theorem vals_succ (p : Int) (Ls : List (List Tri)) (inp : List Int) (n : Nat) : vals p Ls inp (n + 1) = vals p Ls inp n ++ [vrow p Ls inp (n + 1)] := by unfold vals; rw [List.range_succ, List.map_append]; rfl
theorem vals_nth (p : Int) (Ls : List (List Tri)) (inp : List Int) {n i : Nat} (h : i ≤ n) : nthL (vals p Ls inp n) i = vrow p Ls inp i := by rw [nthL_eq (by rw [vals_length]; omega)]; simp [vals]
theorem vrow_length {p wd : Int} {Ls : List (List Tri)} {inp : List Int} (h : (inp.length : Int) = 2 ^ wd.toNat) (i : Nat) : ((vrow p Ls inp i).length : Int) = below wd Ls i := by
  cases i with
  | zero => simp [vrow, below, h]
  | succ i => simp [vrow, below]
theorem vrow_step (p : Int) (row : List Int) {l : List Tri} {k : Nat} (h : k < l.length) : ((l.take (k + 1)).map (gval p row)).map (Value.int .i64) = ((l.take k).map (gval p row)).map (Value.int .i64) ++ [.int .i64 (gval p row (nthT l k))] := by
  rw [List.take_succ_eq_append_getElem h, ← nthT_eq h]; simp
theorem gval_mul {p : Int} {row : List Int} {a b : Nat} : gval p row (1, a, b) = fmul p (nth row a) (nth row b) := by simp [gval]
theorem gval_add {p : Int} {row : List Int} {k : Int} {a b : Nat} (h : k ≠ 1) : gval p row (k, a, b) = fadd p (nth row a) (nth row b) := by simp [gval, h]
end Go.Att
namespace Go.Proofs.YtcpnidomdkaefaaGreatDoor
open Go.RowKit Go.Att

end Go.Proofs.YtcpnidomdkaefaaGreatDoor
end
