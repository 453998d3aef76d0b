/- The root of rows, the program's side: contracts. -/
import Derived.Test.YtcpnidomdkaefaaGreatDoorJd
import Derived.Test.YtcpnidomdkaefaaGreatDoorZx14
import Derived.Test.YtcpnidomdkaefaaGreatDoorZx20
namespace Go.Att
open Go.RowKit
end Go.Att
namespace Go.Proofs.YtcpnidomdkaefaaGreatDoor
open Go.RowKit Go.Att
section
variable {w0 : World} {bs : Nat} {p : Int} {k : Nat} {vr : Value} {rows : List (List Int)} {R : Nat → Value}
end
end Go.Proofs.YtcpnidomdkaefaaGreatDoor
