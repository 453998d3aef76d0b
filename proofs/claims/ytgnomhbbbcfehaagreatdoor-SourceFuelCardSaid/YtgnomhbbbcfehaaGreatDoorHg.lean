/- Listed variables that a law reads: what the condition gives. -/
import Derived.Test.YtgnomhbbbcfehaaGreatDoorZx18
import Derived.Test.YtgnomhbbbcfehaaGreatDoorRows
import Derived.LaidHandle
import Derived.Deep.DeepHandedRow
import Derived.Deep.DeepWitnessRowRef
import Derived.Lib.LaidTab
import Derived.OpenShut
import Derived.Lay
import Derived.MakeChecks
import Derived.ChangeMaps5
namespace Go.Att
open Go.RowKit
theorem laid_mem {P : Program} {w : World} : ∀ {L : List (String × DataW Unit)} {ps : List MemPlace}, DataW.LaidVars P w L ps → ∀ x ∈ L, ∃ g t cs fuel p, P.globalNamed x.1 = some g ∧ (P.globals[g]?).map (·.type) = some t ∧ w.var? P x.1 = some cs ∧ DataW.trod (fun _ => ()) P w 0 (fun _ => true) false fuel t cs.toList = some (x.2, p)
  | [], _, _, x, hx => by cases hx
  | (n, d) :: r, ps, h, x, hx => by
    obtain ⟨g, t, cs, fuel, p, q, h1, h2, h3, h4, h5, _⟩ := h
    rcases List.mem_cons.1 hx with rfl | hx
    · exact ⟨g, t, cs, fuel, p, h1, h2, h3, h4⟩
    · exact laid_mem h5 x hx
theorem laidH_data {P : Program} {w : World} {L : List (String × DataW Unit)} (h : laidMetH P L w) (x : String × DataW Unit) (hx : x ∈ L) (hn : x.2.handleName? = none) :
    ∃ g t cs fuel p, P.globalNamed x.1 = some g ∧ (P.globals[g]?).map (·.type) = some t ∧ w.var? P x.1 = some cs ∧ DataW.trod (fun _ => ()) P w 0 (fun _ => true) false fuel t cs.toList = some (x.2, p) := by
  unfold laidMetH at h
  generalize hfl : (L.filter fun x => x.2.handleName?.isSome) = fl at h
  cases fl with
  | nil =>
    obtain ⟨ps, hv, _⟩ := h
    exact laid_mem hv x hx
  | cons a r =>
    obtain ⟨⟨ps, hv, _⟩, _⟩ := h
    exact laid_mem hv x (List.mem_filter.2 ⟨hx, by rw [hn]; rfl⟩)
end Go.Att
namespace Go.Proofs.YtgnomhbbbcfehaaGreatDoor
open Go.ChangeShapes Go.WideShapes Go.RowKit Go.Att
theorem kOwn : ownKnob Tryz.prog.godebug = none := by kernel_rfl
theorem kSize : Tryz.prog.types.size = 307 := by kernel_rfl
theorem kLaidOut : laidOutB Tryz.prog = true := by kernel_rfl
end Go.Proofs.YtgnomhbbbcfehaaGreatDoor
