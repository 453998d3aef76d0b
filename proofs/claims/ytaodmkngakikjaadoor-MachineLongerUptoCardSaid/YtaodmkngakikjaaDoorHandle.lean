/- The one listed variable: errors.errorType: what the condition gives; a world that meets it. -/
import Derived.Test.YtaodmkngakikjaaDoorEr
import Derived.Test.YtaodmkngakikjaaDoorRows
import Derived.Test.YtaodmkngakikjaaDoorWr
import Derived.LaidHandle
import Derived.Deep.DeepHandedRow
namespace Go.Proofs.YtaodmkngakikjaaDoor
open Go.ChangeShapes Go.WideShapes Go.RowKit Go.Att

theorem kOwn : ownKnob Tryd.prog.godebug = none := by kernel_rfl
theorem kEt : Tryd.prog.globalNamed "errors.errorType" = some 0 := by kernel_rfl
theorem kRt : (Tryd.prog.cutTypes.find? (·.1 == "internal/reflectlite.rtype")).map (·.2) = some 124 := by kernel_rfl
theorem kOneRow : ((List.range 168).filter fun t => Tryd.prog.rowNamed t [101, 114, 114, 111, 114]) = [33] := by kernel_rfl
theorem kSize : Tryd.prog.types.size = 168 := by kernel_rfl
theorem kLaidOut : laidOutB Tryd.prog = true := by kernel_rfl

/-- What the condition gives a walk: the variable's one cell. -/
theorem handle_of_laid {W : World} (h : laidMetH Tryd.prog [("errors.errorType", Rows.laid_errors_errorType)] W) : Hnd W := by
  have h' : laidMet Tryd.prog [] W ∧ handlesMet Tryd.prog [("errors.errorType", Rows.laid_errors_errorType)] W := h
  obtain ⟨name, u, ty, e1, e2, e3, e4, e5⟩ := h'.2 _ (List.mem_singleton.2 rfl)
  have en : name = [101, 114, 114, 111, 114] := (Option.some.inj e1).symm
  subst en
  obtain rfl := Option.some.inj (kRt.symm.trans e2)
  have hm : ty ∈ (List.range 168).filter fun t => Tryd.prog.rowNamed t [101, 114, 114, 111, 114] := List.mem_filter.2 ⟨List.mem_range.2 (by rw [← kSize]; exact e3), e4⟩
  rw [kOneRow] at hm
  obtain rfl := List.mem_singleton.1 hm
  have hh : typeHandle Tryd.prog 33 = .pointer (some ⟨1, 33, none⟩) := by kernel_rfl
  rw [hh] at e5
  unfold Hnd
  simpa using World.var?_cell kEt e5 0

/-- A world that meets the condition: the settled one, the variable's cell laid. -/
noncomputable def laidWorld (os : Os) : World :=
  let w0 := World.holding Tryd.prog os ⟨#[], #[], []⟩
  { w0 with heap := w0.heap.modify 0 fun
      | .cells _ t frozen => .cells #[.iface 124 (.agg #[.pointer (some ⟨1, 33, none⟩)])] t frozen
      | o => o }
theorem laidWorld_met (os : Os) (args : Array Value) : laidMetH Tryd.prog [("errors.errorType", Rows.laid_errors_errorType)] ((laidWorld os).forCall (fun _ _ => 0) ⟨#[], args, []⟩).memory :=
  laidMetH_of_parts (laidMet_nil _ _) (by kernel_rfl)
end Go.Proofs.YtaodmkngakikjaaDoor
