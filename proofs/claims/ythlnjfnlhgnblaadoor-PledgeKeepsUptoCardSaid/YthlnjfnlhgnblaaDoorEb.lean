/- What a table is at a point, the document's side: contracts. -/
import Derived.Test.YthlnjfnlhgnblaaDoorLa
import Derived.Test.YthlnjfnlhgnblaaDoorFa
import Derived.Test.YthlnjfnlhgnblaaDoorVc
/-! What a table is at a point, the document's side: contracts. -/
namespace Go.Att
open Go.RowKit
theorem wD_step1 (p : Int) (l : List Int) (i m j : Nat) (h : j + m + 1 = l.length) (hb : i / 2 ^ m % 2 = 1) : fmul p (wD l i m % p) (fof p (nth l j)) = wD l i (m + 1) % p := by
  have e : l.length - 1 - m = j := by omega
  have d : dig l.length i j = 1 := by unfold dig; rw [show l.length - 1 - j = m by omega]; exact hb
  simp only [wD, e, wf, d, if_true, fmul, fof, em_l, em_r]
theorem wD_step0 (p : Int) (l : List Int) (i m j : Nat) (h : j + m + 1 = l.length) (hb : i / 2 ^ m % 2 = 0) : fmul p (wD l i m % p) (fsub p 1 (fof p (nth l j))) = wD l i (m + 1) % p := by
  have e : l.length - 1 - m = j := by omega
  have d : dig l.length i j ≠ 1 := by unfold dig; rw [show l.length - 1 - j = m by omega]; omega
  simp only [wD, e, wf, if_neg d, fmul, fsub, fof, es_r, em_l, em_r]
theorem exS_step (p : Int) (t l : List Int) (i : Nat) : (exS t l i % p + fmul p (nth t i) (wgt l i % p)) % p = exS t l (i + 1) % p := by
  simp only [exS, fmul, ea_l, ea_r, em_r]
theorem unit_cells (n i : Nat) (hi : i < n) : (madeCells (Value.cells (.int .i64 0)) (n * 1)).toList.take (i * 1) ++ (Value.cells (.int .i64 1)).toList ++ (madeCells (Value.cells (.int .i64 0)) (n * 1)).toList.drop (i * 1 + 1) = (unitT n i).map (Value.int .i64) := by
  have e : (madeCells (Value.cells (.int .i64 0)) (n * 1)).toList = List.replicate n (Value.int .i64 0) := by
    simp [madeCells, Value.cells, Nat.mod_one, List.map_const']
  rw [e]
  apply List.ext_getElem?
  intro j
  simp only [unitT, List.map_set, List.map_replicate, Nat.mul_one, Value.cells]
  rw [List.getElem?_set]
  by_cases h1 : j < i
  · rw [List.append_assoc, List.getElem?_append_left (by simp; omega), List.getElem?_take, if_pos h1]
    simp [show ¬ i = j by omega]
  · by_cases h2 : j = i
    · subst h2
      rw [List.append_assoc, List.getElem?_append_right (by simp; omega)]
      simp [hi, show min j n = j by omega]
    · rw [List.getElem?_append_right (by simp; omega)]
      simp only [List.length_append, List.length_take, List.length_replicate, List.getElem?_drop]
      rw [if_neg (show ¬ i = j by omega)]
      congr 1
      simp; omega
end Go.Att
namespace Go.Proofs.YthlnjfnlhgnblaaDoor
open Go.RowKit Go.Att

end Go.Proofs.YthlnjfnlhgnblaaDoor
/-! What a table that is 1 at a place is at a point, both sides: contracts. -/
namespace Go.Att
theorem wU_step1 (p : Int) (l : List Int) (i k : Nat) (h : i / 2 ^ (l.length - 1 - k) % 2 = 1) : fmul p (wU l i k % p) (nth l k) = wU l i (k + 1) % p := by
  have d : dig l.length i k = 1 := h
  simp only [wU, wf, d, if_true, fmul, em_l]
theorem wU_step0 (p : Int) (l : List Int) (i k : Nat) (h : i / 2 ^ (l.length - 1 - k) % 2 = 0) : fmul p (wU l i k % p) (fsub p 1 (nth l k)) = wU l i (k + 1) % p := by
  have d : dig l.length i k ≠ 1 := by unfold dig; omega
  simp only [wU, wf, if_neg d, fmul, fsub, em_l, em_r]
end Go.Att
namespace Go.Proofs.YthlnjfnlhgnblaaDoor
open Go.RowKit Go.Att

section
variable {w : World} {f : Value} {p g : Int} {fs : List Int}
end
end Go.Proofs.YthlnjfnlhgnblaaDoor
