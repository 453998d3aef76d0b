/- Code as text, the document's side: its two tables: contracts. Code as text, the document's side: a letter of what follows a word: how the machine reads it. Code as text, the document's side: whether an instruction can be written: contract. Code as text, the document's side: whether an instruction can be written, where its numbers fit: contract. -/
import Derived.Test.YtejkepihicphlaaGreatDoorZx5
section
namespace Go.Att
open Go.RowKit
def Strs (w : World) (v : Value) (L : List (List UInt8)) : Prop := Sl w 1 v L.length (L.map fun s => .string ⟨s.toArray⟩)
theorem Strs.ext {w w' : World} {v : Value} {L : List (List UInt8)} (h : Strs w v L) (hx : Ext w w') : Strs w' v L := Sl.ext h hx
theorem Strs.cell {w : World} {v : Value} {L : List (List UInt8)} (h : Strs w v L) {i : Nat} (hi : i < L.length) : w.cell? (elt v i 1) = some (.string ⟨L[i].toArray⟩) := by
  have := Sl.cell h i 0 hi (by omega)
  simp only [Addr.add, if_true, Nat.add_zero, Nat.mul_one] at this
  rw [this]; simp [hi]
end Go.Att
namespace Go.Proofs.YtejkepihicphlaaGreatDoor
open Go.RowKit Go.Att
end Go.Proofs.YtejkepihicphlaaGreatDoor
end
section
namespace Go.Proofs.YtejkepihicphlaaGreatDoor
open Go.RowKit Go.Att
end Go.Proofs.YtejkepihicphlaaGreatDoor
end
section
namespace Go.Att
open Go.RowKit
end Go.Att
namespace Go.Proofs.YtejkepihicphlaaGreatDoor
open Go.RowKit Go.Att
end Go.Proofs.YtejkepihicphlaaGreatDoor
end
section
namespace Go.Att
open Go.RowKit
end Go.Att
namespace Go.Proofs.YtejkepihicphlaaGreatDoor
open Go.RowKit Go.Att
end Go.Proofs.YtejkepihicphlaaGreatDoor
end
