/- Whether an opening shows rows of a tree, the document's side: attestref3.Check: contract. -/
import Derived.Test.YtcpnidomdkaefaaGreatDoorZx19
namespace Go.Proofs.YtcpnidomdkaefaaGreatDoor
open Go.RowKit Go.Att
end Go.Proofs.YtcpnidomdkaefaaGreatDoor
