/- The document's Climb.Up: contract. -/
import Derived.Test.YtfepefbehgbjpaaGreatDoorZx15
import Derived.BigQuiet
import Derived.Deep.RegionHeld3
import Derived.Deep.DrawnRows
namespace Go.Att
open Go.RowKit
end Go.Att
namespace Go.Proofs.YtfepefbehgbjpaaGreatDoor
open Go.RowKit Go.Att
section
variable {w0 : World} {b : Nat} {p : Int} {k : Nat} {pl : List Int} {rows nodes : List (List Int)} {pv rv nv : Value} {RR NR : Nat → Value}
end
end Go.Proofs.YtfepefbehgbjpaaGreatDoor
