/- A table's columns, the program's side: contract. -/
import Derived.Test.YtfepefbehgbjpaaGreatDoorJi
import Derived.Test.YtfepefbehgbjpaaGreatDoorJg
import Derived.Test.YtfepefbehgbjpaaGreatDoorZx12
import Derived.Test.YtfepefbehgbjpaaGreatDoorZx10
namespace Go.Proofs.YtfepefbehgbjpaaGreatDoor
open Go.RowKit Go.Att
section
variable {w : World}
end
end Go.Proofs.YtfepefbehgbjpaaGreatDoor
