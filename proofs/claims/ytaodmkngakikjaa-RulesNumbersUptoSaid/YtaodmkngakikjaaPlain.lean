/- For a seat with no listed variable: the world of a witness. -/
import Derived.Test.YtaodmkngakikjaaRows
import Derived.Test.YtaodmkngakikjaaWr
import Derived.LaidHandle
import Derived.Deep.DeepHandedRow
namespace Go.Proofs.Ytaodmkngakikjaa
open Go.ChangeShapes Go.WideShapes Go.RowKit Go.Att
theorem kOwn : ownKnob Try.prog.godebug = none := by kernel_rfl
theorem kLaidOut : laidOutB Try.prog = true := by kernel_rfl
noncomputable def laidWorld (os : Os) : World := World.holding Try.prog os ⟨#[], #[], []⟩
theorem laidWorld_met (os : Os) (args : Array Value) : laidMetH Try.prog [] ((laidWorld os).forCall (fun _ _ => 0) ⟨#[], args, []⟩).memory :=
  laidMetH_of_parts (laidMet_nil _ _) (by kernel_rfl)
end Go.Proofs.Ytaodmkngakikjaa
