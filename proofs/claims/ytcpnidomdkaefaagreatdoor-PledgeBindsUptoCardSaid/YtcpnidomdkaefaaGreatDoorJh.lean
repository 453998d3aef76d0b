/- What a table fits in; its rows: the document's side: contracts. -/
import Derived.Test.YtcpnidomdkaefaaGreatDoorJg
import Derived.Test.YtcpnidomdkaefaaGreatDoorZx5
import Derived.Test.YtcpnidomdkaefaaGreatDoorJd
namespace Go.Att
open Go.RowKit
/-- A part of a slice. -/
def sectV (v : Value) (i j : Nat) : Value := match v with
  | .slice a _ cap => sliced a i j cap 1
  | v => v
section
variable {P : Program} {w : World} {v : Value} {l : List Int}
theorem Ints.part (h : Ints w v l) (i j : Nat) (hij : i < j) (hj : j ≤ l.length) : Ints w (sectV v i j) ((l.drop i).take (j - i)) := by
  obtain ⟨ao, cap, rfl, h2, h3, h4, h5⟩ := h
  have hl : ((l.drop i).take (j - i)).length = j - i := by simp; omega
  obtain ⟨b, off, e1, _⟩ := h5 0 (by simp; omega)
  subst e1
  refine ⟨some ⟨b, off + i, none⟩, cap - i, ?_, by simp, by omega, by omega, fun q hq => ?_⟩
  · rw [hl]
    simp only [sectV, sliced, if_neg (show ¬ cap = i by omega), Option.map_some, Addr.add_lit, Nat.mul_one]
  · have hq' : q < j - i := by rw [List.length_map, hl] at hq; exact hq
    obtain ⟨b', off', e1, e2⟩ := h5 (i + q) (by simp; omega)
    injection e1 with e1; injection e1 with e1 e3
    subst e1 e3
    refine ⟨b, off + i, rfl, ?_⟩
    rw [Nat.add_assoc, e2]; simp
end
end Go.Att
namespace Go.Proofs.YtcpnidomdkaefaaGreatDoor
open Go.RowKit Go.Att
section
variable {w : World}
end
end Go.Proofs.YtcpnidomdkaefaaGreatDoor
