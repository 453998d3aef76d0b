/- Sums of rows, each times a power: the document's side: Powers, Sum: contracts. -/
import Derived.Test.YtcpnidomdkaefaaGreatDoorJa
import Derived.Test.YtcpnidomdkaefaaGreatDoorZx3
namespace Go.Att
open Go.RowKit
end Go.Att
namespace Go.Proofs.YtcpnidomdkaefaaGreatDoor
open Go.RowKit Go.Att
section
variable {w : World} {p : Int}
end
end Go.Proofs.YtcpnidomdkaefaaGreatDoor
