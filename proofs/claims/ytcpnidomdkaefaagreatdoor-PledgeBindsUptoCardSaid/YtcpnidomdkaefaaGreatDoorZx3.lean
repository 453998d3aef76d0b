/- The document's polynomials: contracts. Tables, the program's side: how many variables they have; one of them fixed. The document's polynomials through points; points of a line; how many variables a table has: contracts. -/
import Derived.Test.YtcpnidomdkaefaaGreatDoorZx2
import Derived.Test.YtcpnidomdkaefaaGreatDoorZx9
import Derived.Test.YtcpnidomdkaefaaGreatDoorVc
import Derived.Test.YtcpnidomdkaefaaGreatDoorZx1
section
namespace Go.Att
open Go.RowKit
theorem zeros_made (n : Nat) : (madeCells (Value.cells (.int .i64 0)) (n * 1)).toList = (List.replicate n (0 : Int) ++ ([] : List Int)).map (Value.int .i64) := by
  simp [madeCells, Value.cells, Nat.mod_one, List.map_const']
theorem ints_lit1 (w : World) (x : Int) (ti : TypeId) : Ints (w.alloc (Obj.cells #[.int .i64 x] ti)) (.slice (some ⟨w.heap.size, 0, none⟩) 1 1) [x] := by
  refine ⟨_, _, rfl, rfl, Nat.le_refl _, by unfold maxLen; omega, fun i hi => ?_⟩
  have h0 : i = 0 := by simpa using hi
  subst h0
  exact ⟨_, _, rfl, cell_new w #[.int .i64 x] ti 0⟩
end Go.Att
namespace Go.Proofs.YtcpnidomdkaefaaGreatDoor
open Go.RowKit Go.Att

end Go.Proofs.YtcpnidomdkaefaaGreatDoor
end
section
namespace Go.Att
open Go.RowKit
end Go.Att
namespace Go.Proofs.YtcpnidomdkaefaaGreatDoor
open Go.RowKit Go.Att

section
variable {w : World} {f : Value} {p g : Int} {fs : List Int}
end
end Go.Proofs.YtcpnidomdkaefaaGreatDoor
end
section
namespace Go.Att
open Go.RowKit
end Go.Att
namespace Go.Proofs.YtcpnidomdkaefaaGreatDoor
open Go.RowKit Go.Att

end Go.Proofs.YtcpnidomdkaefaaGreatDoor
end
