/- What is wrong with a circuit, the document's side: contract of Fault. How wide a layer is, the program's side: contracts of size, and of the search for a layer that is none. What the gates of a circuit are, the document's side: contracts. -/
import Derived.Test.YtfepefbehgbjpaaGreatDoorZx19
import Derived.Test.YtfepefbehgbjpaaGreatDoorZx2
import Derived.Test.YtfepefbehgbjpaaGreatDoorZx1
import Derived.Test.YtfepefbehgbjpaaGreatDoorZx9
import Derived.Deep.RegionWith
section
namespace Go.Att
end Go.Att
namespace Go.Proofs.YtfepefbehgbjpaaGreatDoor
open Go.RowKit Go.Att

end Go.Proofs.YtfepefbehgbjpaaGreatDoor
end
section
/-! How wide a layer is, the program's side: contracts of size, and of the search for a layer that is none. -/
namespace Go.Att
open Go.RowKit
end Go.Att
namespace Go.Proofs.YtfepefbehgbjpaaGreatDoor
open Go.RowKit Go.Att

end Go.Proofs.YtfepefbehgbjpaaGreatDoor
/-! What is wrong with a circuit, the program's side: contract of checked. -/
namespace Go.Att
end Go.Att
namespace Go.Proofs.YtfepefbehgbjpaaGreatDoor
open Go.RowKit Go.Att

end Go.Proofs.YtfepefbehgbjpaaGreatDoor
end
section
namespace Go.Att
open Go.RowKit
end Go.Att
namespace Go.Proofs.YtfepefbehgbjpaaGreatDoor
open Go.RowKit Go.Att

end Go.Proofs.YtfepefbehgbjpaaGreatDoor
end
