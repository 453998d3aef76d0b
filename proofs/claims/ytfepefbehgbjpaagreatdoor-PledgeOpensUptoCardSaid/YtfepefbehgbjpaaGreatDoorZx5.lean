/- What the gates of a circuit are, the program's side: the walker. How much of the gates there is anywhere, the program's side: contracts. How much of the gates there is anywhere, the program's side: Wire with its faults. -/
import Derived.Test.YtfepefbehgbjpaaGreatDoorZx4
import Derived.Test.YtfepefbehgbjpaaGreatDoorZx3
import Derived.Test.YtfepefbehgbjpaaGreatDoorZx19
section
/-! What the gates of a circuit are, the program's side: the walker. -/
namespace Go.Att
open Go.RowKit
structure Wlk (w : World) (b : Nat) (f : Value) (wd : Int) (lv vv : Value) : Prop where
  c0 : w.cell? ⟨b, 0, none⟩ = some f
  c1 : w.cell? ⟨b, 1, none⟩ = some (.int .i64 wd)
  c2 : w.cell? ⟨b, 2, none⟩ = some lv
  c3 : w.cell? ⟨b, 3, none⟩ = some vv
  fz : w.frozen? ⟨b, 3, none⟩ = false
theorem Wlk.ext {w w' : World} {b : Nat} {f : Value} {wd : Int} {lv vv : Value} (h : Wlk w b f wd lv vv) (hx : Ext w w') : Wlk w' b f wd lv vv :=
  ⟨hx.cell h.c0, hx.cell h.c1, hx.cell h.c2, hx.cell h.c3, by rw [World.frozen?_of_block (hx.below.block b (World.block_lt_of_cell? w ⟨b, 3, none⟩ h.c3))]; exact h.fz⟩
theorem Wlk.grown {w w' : World} {b : Nat} {f : Value} {wd : Int} {lv vv : Value} {r : Option Nat} (h : Wlk w b f wd lv vv) (hg : w.grownBy w' r) (hne : some b ≠ r) : Wlk w' b f wd lv vv :=
  ⟨hg.cell h.c0 hne, hg.cell h.c1 hne, hg.cell h.c2 hne, hg.cell h.c3 hne, by rw [World.frozen?_of_block (hg.block b (World.block_lt_of_cell? w ⟨b, 3, none⟩ h.c3) hne)]; exact h.fz⟩
theorem Wlk.set {w : World} {b : Nat} {f : Value} {wd : Int} {lv vv : Value} (h : Wlk w b f wd lv vv) (v' : Value) : Wlk (w.setCell ⟨b, 3, none⟩ v') b f wd lv v' := by
  refine ⟨?_, ?_, ?_, World.cell?_setCell_same _ _ _ h.c3, by rw [World.frozen?_setCell]; exact h.fz⟩
  · rw [World.cell?_setCell_other _ _ _ _ (by simp)]; exact h.c0
  · rw [World.cell?_setCell_other _ _ _ _ (by simp)]; exact h.c1
  · rw [World.cell?_setCell_other _ _ _ _ (by simp)]; exact h.c2
end Go.Att
namespace Go.Proofs.YtfepefbehgbjpaaGreatDoor
open Go.RowKit Go.Att

end Go.Proofs.YtfepefbehgbjpaaGreatDoor
/-! What the gates of a circuit are, the program's side: the walker of a circuit that is right. -/
namespace Go.Att
end Go.Att
namespace Go.Proofs.YtfepefbehgbjpaaGreatDoor
open Go.RowKit Go.Att

end Go.Proofs.YtfepefbehgbjpaaGreatDoor
/-! What the gates of a circuit are, the program's side: Values. -/
namespace Go.Att
open Go.RowKit
end Go.Att
namespace Go.Proofs.YtfepefbehgbjpaaGreatDoor
open Go.RowKit Go.Att

end Go.Proofs.YtfepefbehgbjpaaGreatDoor
end
section
/-! How much of the gates there is anywhere, the program's side: contracts. -/
namespace Go.Att
open Go.RowKit
end Go.Att
namespace Go.Proofs.YtfepefbehgbjpaaGreatDoor
open Go.RowKit Go.Att

end Go.Proofs.YtfepefbehgbjpaaGreatDoor
/-! How much of the gates there is anywhere, the document's side: contract. -/
namespace Go.Att
end Go.Att
namespace Go.Proofs.YtfepefbehgbjpaaGreatDoor
open Go.RowKit Go.Att

end Go.Proofs.YtfepefbehgbjpaaGreatDoor
end
section
/-! How much of the gates there is anywhere, the program's side: Wire with its faults. -/
namespace Go.Att
open Go.RowKit
end Go.Att
namespace Go.Proofs.YtfepefbehgbjpaaGreatDoor
open Go.RowKit Go.Att

end Go.Proofs.YtfepefbehgbjpaaGreatDoor
/-! How much of the gates there is anywhere, the program's side: Wire, the points' sizes. -/
namespace Go.Att
open Go.RowKit
end Go.Att
namespace Go.Proofs.YtfepefbehgbjpaaGreatDoor
open Go.RowKit Go.Att

end Go.Proofs.YtfepefbehgbjpaaGreatDoor
/-! How much of the gates there is anywhere, the program's side: Wire where all fits. -/
namespace Go.Proofs.YtfepefbehgbjpaaGreatDoor
open Go.RowKit Go.Att

end Go.Proofs.YtfepefbehgbjpaaGreatDoor
end
