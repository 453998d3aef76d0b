/- What is wrong with a circuit, the document's side: contract of Fault. How wide a layer is, the program's side: contracts of size, and of the search for a layer that is none. What the gates of a circuit are, the document's side: contracts. -/
import Derived.Test.YtcpnidomdkaefaaGreatDoorZx16
import Derived.Test.YtcpnidomdkaefaaGreatDoorZx2
import Derived.Test.YtcpnidomdkaefaaGreatDoorVc
import Derived.Test.YtcpnidomdkaefaaGreatDoorZx15
import Derived.Test.YtcpnidomdkaefaaGreatDoorZx5
import Derived.Test.YtcpnidomdkaefaaGreatDoorZx10
import Derived.Deep.RegionWith
section
namespace Go.Att
end Go.Att
namespace Go.Proofs.YtcpnidomdkaefaaGreatDoor
open Go.RowKit Go.Att

end Go.Proofs.YtcpnidomdkaefaaGreatDoor
end
section
/-! How wide a layer is, the program's side: contracts of size, and of the search for a layer that is none. -/
namespace Go.Att
open Go.RowKit
end Go.Att
namespace Go.Proofs.YtcpnidomdkaefaaGreatDoor
open Go.RowKit Go.Att

end Go.Proofs.YtcpnidomdkaefaaGreatDoor
/-! What is wrong with a circuit, the program's side: contract of checked. -/
namespace Go.Att
end Go.Att
namespace Go.Proofs.YtcpnidomdkaefaaGreatDoor
open Go.RowKit Go.Att

end Go.Proofs.YtcpnidomdkaefaaGreatDoor
end
section
namespace Go.Att
open Go.RowKit
end Go.Att
namespace Go.Proofs.YtcpnidomdkaefaaGreatDoor
open Go.RowKit Go.Att

end Go.Proofs.YtcpnidomdkaefaaGreatDoor
end
