/- A layer's sum, the program's side: one side of a wire. A layer's sum, the program's side: the sum over the wires. A layer's sum, the program's side: Part with its faults. What a table is at a point, the program's side: Extend. A circuit of one gate, built in place. -/
import Derived.Test.YtcpnidomdkaefaaGreatDoorZx3
import Derived.Test.YtcpnidomdkaefaaGreatDoorZx6
import Derived.Deep.RegionWith
section
namespace Go.Att
open Go.RowKit
end Go.Att
namespace Go.Proofs.YtcpnidomdkaefaaGreatDoor
open Go.RowKit Go.Att

end Go.Proofs.YtcpnidomdkaefaaGreatDoor
end
section
namespace Go.Att
open Go.RowKit
end Go.Att
namespace Go.Proofs.YtcpnidomdkaefaaGreatDoor
open Go.RowKit Go.Att

end Go.Proofs.YtcpnidomdkaefaaGreatDoor
end
section
namespace Go.Att
open Go.RowKit
end Go.Att
namespace Go.Proofs.YtcpnidomdkaefaaGreatDoor
open Go.RowKit Go.Att

end Go.Proofs.YtcpnidomdkaefaaGreatDoor
end
section
namespace Go.Att
open Go.RowKit
theorem own_grown {w w' : World} {B e sz n : Nat} {v : Value} {xs : List Value} {r : Option Nat} (h : w.ownsRow B e sz v n xs) (hg : w.grownBy w' r) (hne : ∀ k, v.ownBlock = some k → some k ≠ r) : w'.ownsRow B e sz v n xs := by
  refine ⟨h.1, ?_⟩
  rcases h.2 with h2 | ⟨g, cap, cur, hv, hb, hgt, hr⟩
  · exact .inl h2
  · exact .inr ⟨g, cap, cur, hv, hb, by rw [hg.block g (Array.getElem?_eq_some_iff.1 hgt).1 (hne g (by rw [hv]; rfl))]; exact hgt, hr⟩
end Go.Att
namespace Go.Att
open Go.RowKit
end Go.Att
namespace Go.Proofs.YtcpnidomdkaefaaGreatDoor
open Go.RowKit Go.Att
section
variable {w : World} {f : Value} {p g : Int} {fs : List Int}
end
end Go.Proofs.YtcpnidomdkaefaaGreatDoor
end
