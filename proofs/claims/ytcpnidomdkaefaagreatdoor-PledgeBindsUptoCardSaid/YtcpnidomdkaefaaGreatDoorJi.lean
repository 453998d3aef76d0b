/- A table's columns, the document's side: contract. -/
import Derived.Test.YtcpnidomdkaefaaGreatDoorWw
import Derived.Test.YtcpnidomdkaefaaGreatDoorZx15
import Derived.Test.YtcpnidomdkaefaaGreatDoorZx20
import Derived.Test.YtcpnidomdkaefaaGreatDoorZx10
import Derived.Test.YtcpnidomdkaefaaGreatDoorZx13
namespace Go.Att
open Go.RowKit
end Go.Att
namespace Go.Proofs.YtcpnidomdkaefaaGreatDoor
open Go.RowKit Go.Att
section
variable {w : World} {p sh r : Int}
end
end Go.Proofs.YtcpnidomdkaefaaGreatDoor
