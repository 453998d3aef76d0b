/- Words for worlds: a matrix of eight rows of eight numbers in a block of its own. No program in sight. -/
import Derived.Test.YthlnjfnlhgnblaaDoorVc
namespace Go.Att
open Go.RowKit
def Mx (w : World) (b : Nat) (M : Nat → Nat → Int) : Prop := ∀ r j, r < 8 → j < 8 → w.cell? ⟨b, r * 8 + j, none⟩ = some (.int .i64 (M r j)) ∧ w.frozen? ⟨b, r * 8 + j, none⟩ = false
def upm (M : Nat → Nat → Int) (r j : Nat) (x : Int) : Nat → Nat → Int := fun r' j' => if r' = r ∧ j' = j then x else M r' j'
theorem Mx.ext {w w' : World} {b : Nat} {M : Nat → Nat → Int} (h : Mx w b M) (hx : Ext w w') : Mx w' b M := fun r j hr hj =>
  ⟨hx.cell (h r j hr hj).1, by rw [World.frozen?_of_block (hx.below.block b (World.block_lt_of_cell? w ⟨b, r * 8 + j, none⟩ (h r j hr hj).1))]; exact (h r j hr hj).2⟩
theorem Mx.set {w : World} {b : Nat} {M : Nat → Nat → Int} (h : Mx w b M) {r j : Nat} (hr : r < 8) (hj : j < 8) (x : Int) : Mx (w.setCell ⟨b, r * 8 + j, none⟩ (.int .i64 x)) b (upm M r j x) := fun r' j' hr' hj' => by
  refine ⟨?_, by rw [World.frozen?_setCell]; exact (h r' j' hr' hj').2⟩
  unfold upm
  by_cases e : r' = r ∧ j' = j
  · obtain ⟨rfl, rfl⟩ := e
    rw [if_pos ⟨rfl, rfl⟩]; exact World.cell?_setCell_same _ _ _ (h _ _ hr hj).1
  · rw [if_neg e, World.cell?_setCell_other _ _ _ _ (by first | (simp; omega) | simp)]; exact (h _ _ hr' hj').1
theorem Mx.other {w : World} {b b' k : Nat} {M : Nat → Nat → Int} (h : Mx w b M) (hb : b ≠ b') (v : Value) : Mx (w.setCell ⟨b', k, none⟩ v) b M := fun r j hr hj =>
  ⟨by rw [World.cell?_setCell_other _ _ _ _ (by simp [hb])]; exact (h r j hr hj).1, by rw [World.frozen?_setCell]; exact (h r j hr hj).2⟩
theorem Mx.size {w : World} {b : Nat} {M : Nat → Nat → Int} (h : Mx w b M) : b < w.heap.size := World.block_lt_of_cell? w ⟨b, 0 * 8 + 0, none⟩ (h 0 0 (by decide) (by decide)).1
theorem Mx.congr {w : World} {b : Nat} {M M' : Nat → Nat → Int} (h : Mx w b M) (he : ∀ r j, r < 8 → j < 8 → M r j = M' r j) : Mx w b M' := fun r j hr hj => by rw [← he r j hr hj]; exact h r j hr hj
end Go.Att
