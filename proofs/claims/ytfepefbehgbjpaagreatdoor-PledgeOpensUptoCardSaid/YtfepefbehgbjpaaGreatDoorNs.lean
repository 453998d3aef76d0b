/- What a pledge says, the document's side: attestref12.Check where a table fits: contract. Printed by wip/mkns.py. -/
import Derived.Test.YtfepefbehgbjpaaGreatDoorZx17
namespace Go.Proofs.YtfepefbehgbjpaaGreatDoor
open Go.RowKit Go.Att
section
variable {w0 w : World} {b : Nat} {p : Int} {k : Nat} {D : List Int} {va r0 r1 r2 r3 r4 r5 : Value} {at_ : List Int} {o : Pld} {sh rt : Int}
end
end Go.Proofs.YtfepefbehgbjpaaGreatDoor
