/- Pairs of the call's own read as pairs. -/
import Derived.Test.YtainhfnanamobaaGreatDoorVc
namespace Go.Att
open Go.RowKit
theorem Prs.of_own {w : World} {B e n : Nat} {v : Value} {l : List (Int × Int)} (h : w.ownsRow B e 2 v n (flatP l)) : Prs w v l := by
  have hl : n = l.length := by have := h.1; rw [flatP_length] at this; omega
  subst hl
  exact Sl.of_own h (by omega)
end Go.Att
