/- Code as text, the document's side: the text of code: contract. -/
import Derived.Test.YtejkepihicphlaaGreatDoorZx7
import Derived.BigRegion
import Derived.BigQuiet
import Derived.Deep.RegionHeld3
import Derived.Deep.DrawnRows
namespace Go.Att
open Go.RowKit
end Go.Att
namespace Go.Proofs.YtejkepihicphlaaGreatDoor
open Go.RowKit Go.Att
section
variable {w : World} {sz : Int} {lv : Value} {l : List In4}
end
end Go.Proofs.YtejkepihicphlaaGreatDoor
