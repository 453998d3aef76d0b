/- A table's columns, the program's side: contract. -/
import Derived.Test.YtcpnidomdkaefaaGreatDoorJi
import Derived.Test.YtcpnidomdkaefaaGreatDoorJg
import Derived.Test.YtcpnidomdkaefaaGreatDoorGr
import Derived.Test.YtcpnidomdkaefaaGreatDoorWv
namespace Go.Proofs.YtcpnidomdkaefaaGreatDoor
open Go.RowKit Go.Att
section
variable {w : World}
end
end Go.Proofs.YtcpnidomdkaefaaGreatDoor
