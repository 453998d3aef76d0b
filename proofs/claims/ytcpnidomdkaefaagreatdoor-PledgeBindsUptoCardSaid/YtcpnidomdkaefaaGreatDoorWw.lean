/- Domains of the document: points, values, coefficients: contracts. -/
import Derived.Test.YtcpnidomdkaefaaGreatDoorWv
import Derived.Test.YtcpnidomdkaefaaGreatDoorZx9
namespace Go.Att
open Go.RowKit
end Go.Att
namespace Go.Proofs.YtcpnidomdkaefaaGreatDoor
open Go.RowKit Go.Att
end Go.Proofs.YtcpnidomdkaefaaGreatDoor
