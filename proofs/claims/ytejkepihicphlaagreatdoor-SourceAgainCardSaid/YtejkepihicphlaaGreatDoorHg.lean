/- Listed variables that a law reads: what the condition gives. -/
import Derived.Test.YtejkepihicphlaaGreatDoorZx12
import Derived.Test.YtejkepihicphlaaGreatDoorZx8
import Derived.Test.YtejkepihicphlaaGreatDoorRows
import Derived.LaidHandle
import Derived.Deep.DeepHandedRow
import Derived.Deep.DeepWitnessRowRef
import Derived.Lib.LaidTab
import Derived.OpenShut
import Derived.Lay
import Derived.MakeChecks
import Derived.ChangeMaps5
namespace Go.Att
open Go.RowKit
theorem laid_mem {P : Program} {w : World} : ∀ {L : List (String × DataW Unit)} {ps : List MemPlace}, DataW.LaidVars P w L ps → ∀ x ∈ L, ∃ g t cs fuel p, P.globalNamed x.1 = some g ∧ (P.globals[g]?).map (·.type) = some t ∧ w.var? P x.1 = some cs ∧ DataW.trod (fun _ => ()) P w 0 (fun _ => true) false fuel t cs.toList = some (x.2, p)
  | [], _, _, x, hx => by cases hx
  | (n, d) :: r, ps, h, x, hx => by
    obtain ⟨g, t, cs, fuel, p, q, h1, h2, h3, h4, h5, _⟩ := h
    rcases List.mem_cons.1 hx with rfl | hx
    · exact ⟨g, t, cs, fuel, p, h1, h2, h3, h4⟩
    · exact laid_mem h5 x hx
theorem laidH_data {P : Program} {w : World} {L : List (String × DataW Unit)} (h : laidMetH P L w) (x : String × DataW Unit) (hx : x ∈ L) (hn : x.2.handleName? = none) :
    ∃ g t cs fuel p, P.globalNamed x.1 = some g ∧ (P.globals[g]?).map (·.type) = some t ∧ w.var? P x.1 = some cs ∧ DataW.trod (fun _ => ()) P w 0 (fun _ => true) false fuel t cs.toList = some (x.2, p) := by
  unfold laidMetH at h
  generalize hfl : (L.filter fun x => x.2.handleName?.isSome) = fl at h
  cases fl with
  | nil =>
    obtain ⟨ps, hv, _⟩ := h
    exact laid_mem hv x hx
  | cons a r =>
    obtain ⟨⟨ps, hv, _⟩, _⟩ := h
    exact laid_mem hv x (List.mem_filter.2 ⟨hx, by rw [hn]; rfl⟩)
end Go.Att
namespace Go.Proofs.YtejkepihicphlaaGreatDoor
open Go.ChangeShapes Go.WideShapes Go.RowKit Go.Att Go.Shelf
theorem kOwn : ownKnob Tryz.prog.godebug = none := by kernel_rfl
theorem kLaidOut : laidOutB Tryz.prog = true := by kernel_rfl
theorem kP10 : Tryz.prog.globalNamed "internal/strconv.uint64pow10" = some 3 := by kernel_rfl
theorem kP10t : (Tryz.prog.globals[3]?).map (·.type) = some 271 := by kernel_rfl
theorem tab_of_laid {L : List (String × DataW Unit)} {W : World} (h : laidMetH Tryz.prog L W) (hx : ("internal/strconv.uint64pow10", Rows.laid_internal_strconv_uint64pow10) ∈ L) : Tab10 W := by
  obtain ⟨g, t, cs, fuel, p, h1, h2, h3, h4⟩ := laidH_data h _ hx rfl
  obtain rfl := Option.some.inj (kP10.symm.trans h1)
  obtain rfl := Option.some.inj (kP10t.symm.trans h2)
  have h5 := Lib.cells_of_tab (k := .u64) (zs := Lib.pow10Tab) Tryz.underlying271 Tryz.underlying259 (by kernel_rfl) (by kernel_rfl) (show DataW.trod (fun _ => ()) Tryz.prog W 0 (fun _ => true) false fuel 271 cs.toList = some (Lib.tabData .u64 Lib.pow10Tab, p) from h4)
  show W.var? _ _ = _
  rw [h3, ← h5]
end Go.Proofs.YtejkepihicphlaaGreatDoor
