/- The root of a table, both sides: contracts. -/
import Derived.Test.YtcpnidomdkaefaaGreatDoorJf
import Derived.Test.YtcpnidomdkaefaaGreatDoorJk
import Derived.Test.YtcpnidomdkaefaaGreatDoorJl
namespace Go.Att
open Go.RowKit
end Go.Att
namespace Go.Proofs.YtcpnidomdkaefaaGreatDoor
open Go.RowKit Go.Att
section
variable {w : World}
set_option maxRecDepth 100000 in
theorem tright_any (n : Nat) (h1 : 1 ≤ n) (h2 : n ≤ 65536) : Calls Tryz.prog 111 #[.int .i64 n] w fun e w' => e = .returned (.bool true) ∧ w = w' := by
  go_enter Tryz.func111, Tryz.ntmps111
  go_wp2_with fail
  go_ret
  exact ⟨by first | rfl | (congr; simp; omega), rfl⟩
section
variable {d : Value} {bf : Nat} {p g0 n sh rt : Int} {fs : List Int}
end
end
end Go.Proofs.YtcpnidomdkaefaaGreatDoor
