/- A table's rows, the program's side: contract. -/
import Derived.Test.YtcpnidomdkaefaaGreatDoorJh
import Derived.Test.YtcpnidomdkaefaaGreatDoorGr
import Derived.Test.YtcpnidomdkaefaaGreatDoorSx
namespace Go.Att
open Go.RowKit
section
variable {w w' : World} {row : Option Nat}
/-- A block with cells is none of the walk's own. -/
theorem nc_ne (hr : ∀ r, row = some r → ∃ o : Obj, w.heap[r]? = some o ∧ o.isCells = false) {b off : Nat} {v : Value} (hc : w.cell? ⟨b, off, none⟩ = some v) : some b ≠ row := by
  intro e
  obtain ⟨o, ho, hn⟩ := hr b e.symm
  unfold World.cell? at hc
  rw [ho] at hc
  cases o <;> simp_all [Obj.isCells]
theorem ints_nc (hg : w.grownBy w' row) (hr : ∀ r, row = some r → ∃ o : Obj, w.heap[r]? = some o ∧ o.isCells = false) {v : Value} {l : List Int} (h : Ints w v l) : Ints w' v l := by
  obtain ⟨ao, cap, rfl, h2, h3, h4, h5⟩ := h
  refine ⟨ao, cap, rfl, h2, h3, h4, fun i hi => ?_⟩
  obtain ⟨q, off, rfl, hc⟩ := h5 i hi
  exact ⟨q, off, rfl, hg.cell hc (nc_ne hr hc)⟩
theorem own_nc (hg : w.grownBy w' row) (hr : ∀ r, row = some r → ∃ o : Obj, w.heap[r]? = some o ∧ o.isCells = false) {B e sz n : Nat} {v : Value} {xs : List Value} (h : w.ownsRow B e sz v n xs) : w'.ownsRow B e sz v n xs := by
  refine row_grown h hg fun k hk e1 => ?_
  obtain ⟨o, ho, hn⟩ := hr k e1.symm
  rcases h.2 with ⟨rfl, _⟩ | ⟨g, cap, cur, rfl, _, hgg, _⟩
  · cases hk
  · obtain rfl : g = k := Option.some.inj hk
    rw [hgg] at ho
    cases ho
    simp [Obj.isCells] at hn
theorem Grid.nc {B e : Nat} {v : Value} {L : List (List Int)} {R : Nat → Value} (h : Grid B w e v L R) (hg : w.grownBy w' row) (hr : ∀ r, row = some r → ∃ o : Obj, w.heap[r]? = some o ∧ o.isCells = false) : Grid B w' e v L R :=
  ⟨own_nc hg hr h.own, fun i hi => ints_nc hg hr (h.row i hi), fun i hi k hk => ⟨(h.lt i hi k hk).1, Nat.lt_of_lt_of_le (h.lt i hi k hk).2.1 hg.size, (h.lt i hi k hk).2.2⟩⟩
end
section
variable {F : Fence} {fn : Nat} {P : Program} {ops : Array Oper} {rest : List Oper} {o : Oper} {a : Act} {Q : Exit → Act → World → Prop}
end
end Go.Att
namespace Go.Proofs.YtcpnidomdkaefaaGreatDoor
open Go.RowKit Go.Att Go.Shelf
attribute [local go_sem] Oper.semAt_some
section
variable {w : World}
end
end Go.Proofs.YtcpnidomdkaefaaGreatDoor
