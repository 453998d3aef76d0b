/- RulesBroken: two cells of a block of the call's own; what Broken tells, plain. -/
import Derived.Test.YtainhfnanamobaaGreatDoorK2
namespace Go.Att
open Go.RowKit
/-- Two cells of a block of the call's own. -/
structure C2 (w : World) (b : Nat) (x y : Value) : Prop where
  c0 : w.cell? ⟨b, 0, none⟩ = some x
  c1 : w.cell? ⟨b, 1, none⟩ = some y
  f0 : w.frozen? ⟨b, 0, none⟩ = false
  f1 : w.frozen? ⟨b, 1, none⟩ = false
section
variable {w w' : World} {b : Nat} {x y : Value}
theorem C2.new (w : World) (x y : Value) (t : TypeId) : C2 (w.alloc (Obj.cells #[x, y] t)) w.heap.size x y :=
  ⟨by rw [cell_new]; rfl, by rw [cell_new]; rfl, by simp, by simp⟩
theorem C2.ext (h : C2 w b x y) (hx : Ext w w') : C2 w' b x y := by
  have hb : b < w.heap.size := World.block_lt_of_cell? w ⟨b, 0, none⟩ h.c0
  exact ⟨hx.cell h.c0, hx.cell h.c1, (Below.frozen hx (p := ⟨b, 0, none⟩) hb).trans h.f0, (Below.frozen hx (p := ⟨b, 1, none⟩) hb).trans h.f1⟩
theorem C2.set0 (h : C2 w b x y) (v : Value) : C2 (w.setCell ⟨b, 0, none⟩ v) b v y :=
  ⟨World.cell?_setCell_same _ _ _ h.c0, by rw [World.cell?_setCell_other _ _ _ _ (by simp)]; exact h.c1, by rw [World.frozen?_setCell]; exact h.f0, by rw [World.frozen?_setCell]; exact h.f1⟩
theorem C2.set1 (h : C2 w b x y) (v : Value) : C2 (w.setCell ⟨b, 1, none⟩ v) b x v :=
  ⟨by rw [World.cell?_setCell_other _ _ _ _ (by simp)]; exact h.c0, World.cell?_setCell_same _ _ _ h.c1, by rw [World.frozen?_setCell]; exact h.f0, by rw [World.frozen?_setCell]; exact h.f1⟩
theorem C2.other (h : C2 w b x y) {b' k : Nat} (hne : b ≠ b') (v : Value) : C2 (w.setCell ⟨b', k, none⟩ v) b x y := by
  have hb := (setCell_grown w b' k v).block b (World.block_lt_of_cell? w ⟨b, 0, none⟩ h.c0) (fun e => hne (Option.some.inj e))
  exact ⟨by rw [World.cell?_of_block (a := ⟨b, 0, none⟩) hb]; exact h.c0, by rw [World.cell?_of_block (a := ⟨b, 1, none⟩) hb]; exact h.c1,
    by rw [World.frozen?_of_block (a := ⟨b, 0, none⟩) hb]; exact h.f0, by rw [World.frozen?_of_block (a := ⟨b, 1, none⟩) hb]; exact h.f1⟩
end
/-- Two boxes of two cells each. -/
theorem bx_new (w : World) (x y z u : Value) (t1 t2 : TypeId) : C2 ((w.alloc (Obj.cells #[x, y] t1)).alloc (Obj.cells #[z, u] t2)) w.heap.size x y ∧ C2 ((w.alloc (Obj.cells #[x, y] t1)).alloc (Obj.cells #[z, u] t2)) (w.heap.size + 1) z u ∧ Ext w ((w.alloc (Obj.cells #[x, y] t1)).alloc (Obj.cells #[z, u] t2)) := by
  refine ⟨(C2.new w x y t1).ext (Ext.alloc _ _), ?_, (Ext.alloc _ _).trans (Ext.alloc _ _)⟩
  have := C2.new (w.alloc (Obj.cells #[x, y] t1)) z u t2
  rwa [show (w.alloc (Obj.cells #[x, y] t1)).heap.size = w.heap.size + 1 by simp] at this
/-- Both cells anew. -/
theorem C2.both {w w0 : World} {b : Nat} {x y : Value} (h : C2 w b x y) (hx : Ext w0 w) (hb : w0.heap.size ≤ b) (u v : Value) : C2 ((w.setCell ⟨b, 0, none⟩ u).setCell ⟨b, 1, none⟩ v) b u v ∧ Ext w0 ((w.setCell ⟨b, 0, none⟩ u).setCell ⟨b, 1, none⟩ v) :=
  ⟨(h.set0 u).set1 v, Below.setCell (Below.setCell hx hb u) hb v⟩
/-- What Broken tells. -/
def BrkGot (p sz out : Int) (cd : List In4) (L : List (List Int)) (e : Ending) : Prop :=
  (shapeB cd L = true ∧ e = .returned (.agg #[.int .i64 (-2), .int .i64 0])) ∨
  (shapeB cd L = false ∧ ∃ o, FstBad (badB p sz out cd L) (fun k i => k < cd.length + 26 ∧ i < L.length) o ∧ e = .returned (.agg #[.int .i64 (toldB o).1, .int .i64 (toldB o).2]))
theorem BrkGot.one {p sz out : Int} {cd : List In4} {L : List (List Int)} {a b : Ending} (h1 : BrkGot p sz out cd L a) (h2 : BrkGot p sz out cd L b) : a = b := by
  rcases h1 with ⟨a1, rfl⟩ | ⟨a1, o, ho, rfl⟩ <;> rcases h2 with ⟨b1, rfl⟩ | ⟨b1, o', ho', rfl⟩
  · rfl
  · rw [a1] at b1; cases b1
  · rw [a1] at b1; cases b1
  · rw [ho.one ho']
theorem shapeB_full {cd : List In4} {L : List (List Int)} (h1 : 0 < L.length) (h2 : 0 < cd.length) (h : ∀ i, i < L.length → (nthL L i).length = 20 + cd.length) : shapeB cd L = false := by
  unfold shapeB
  rw [Bool.or_eq_false_iff, Bool.or_eq_false_iff]
  refine ⟨⟨by rw [beq_eq_false_iff_ne]; omega, by rw [beq_eq_false_iff_ne]; omega⟩, ?_⟩
  rw [List.any_eq_false]
  intro x hx
  obtain ⟨i, hi, rfl⟩ := List.mem_iff_getElem.1 hx
  have := h i hi
  simp only [nthL, List.getD_eq_getElem?_getD, List.getElem?_eq_getElem hi, Option.getD_some] at this
  simp [this]
theorem shapeB_row {cd : List In4} {L : List (List Int)} {i : Nat} (hi : i < L.length) (h : (nthL L i).length ≠ 20 + cd.length) : shapeB cd L = true := by
  unfold shapeB
  rw [Bool.or_eq_true]
  right
  rw [List.any_eq_true]
  refine ⟨L[i], List.getElem_mem hi, ?_⟩
  simp only [nthL, List.getD_eq_getElem?_getD, List.getElem?_eq_getElem hi, Option.getD_some] at h
  simpa using h
theorem shapeB_nil {cd : List In4} {L : List (List Int)} (h : L.length = 0 ∨ cd.length = 0) : shapeB cd L = true := by
  unfold shapeB
  rcases h with h | h <;> simp [h]
end Go.Att
