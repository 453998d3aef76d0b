/- The listed handle of the type error: what the condition gives; a world that meets it beside other variables. -/
import Derived.Test.YtgnomhbbbcfehaaGreatDoorHg
import Derived.Test.YtgnomhbbbcfehaaGreatDoorEr
namespace Go.Att
open Go.RowKit
theorem laidH_handle {P : Program} {w : World} {L : List (String × DataW Unit)} (h : laidMetH P L w) (x : String × DataW Unit) (hx : x ∈ L) {nm : List UInt8} (hn : x.2.handleName? = some nm) (hf : x.2.funcsIn? = none) :
    ∃ u ty, (P.cutTypes.find? (·.1 == "internal/reflectlite.rtype")).map (·.2) = some u ∧ ty < P.types.size ∧ P.rowNamed ty nm = true ∧ w.var? P x.1 = some #[.iface u (.agg #[typeHandle P ty])] := by
  unfold laidMetH at h
  have hm : x ∈ L.filter fun x => x.2.handleName?.isSome := List.mem_filter.2 ⟨hx, by rw [hn]; rfl⟩
  generalize hfl : (L.filter fun x => x.2.handleName?.isSome) = fl at h hm
  cases fl with
  | nil => cases hm
  | cons a r =>
    have h2 := h.2 x hm
    rw [hf] at h2
    obtain ⟨name, u, ty, e1, e2, e3, e4, e5⟩ := h2
    obtain rfl := Option.some.inj (e1.symm.trans hn)
    exact ⟨u, ty, e2, e3, e4, e5⟩
noncomputable def setCells (h : Array Obj) (g : Nat) (cs : Array Value) : Array Obj := h.modify g fun
  | .cells _ t frozen => .cells cs t frozen
  | o => o
theorem laid_over {P : Program} {w0 : World} {L : List (String × DataW Unit)} (args : Array Value) (hf : w0.layFits P L [] = true) (hi : w0.layIfaces P L (w0.layVars P L) = true) : laidMet P L ((w0.layVars P L).forCall (fun _ _ => 0) ⟨#[], args, []⟩).memory := by
  have e1 : (L.filter fun x => (L.map (·.1)).contains x.1) = L := List.filter_eq_self.2 fun x hx => List.contains_iff_mem.2 (List.mem_map.2 ⟨x, hx, rfl⟩)
  have e2 : (L.filter fun x => !(L.map (·.1)).contains x.1) = [] := List.filter_eq_nil_iff.2 fun x hx => by rw [List.contains_iff_mem.2 (List.mem_map.2 ⟨x, hx, rfl⟩)]; simp
  have h : laidMet P L (w0.layVars P L) := laidMet_layVars (w0 := w0) (L.map (·.1)) [] (by rw [e1]) (by rw [e1]; exact hf) (by rw [e1]; exact hi) (by rw [e2]; exact LaidIn.none)
  exact h.of_heap (by simp [World.memory, World.forCall, Input.heap])
end Go.Att
namespace Go.Proofs.YtgnomhbbbcfehaaGreatDoor
open Go.ChangeShapes Go.WideShapes Go.RowKit Go.Att
theorem kEt : Tryz.prog.globalNamed "errors.errorType" = some 0 := by kernel_rfl
theorem kRt : (Tryz.prog.cutTypes.find? (·.1 == "internal/reflectlite.rtype")).map (·.2) = some 205 := by kernel_rfl
theorem kOneRow : ((List.range 307).filter fun t => Tryz.prog.rowNamed t [101, 114, 114, 111, 114]) = [28] := by kernel_rfl
theorem hnd_of_laid {L : List (String × DataW Unit)} {W : World} (h : laidMetH Tryz.prog L W) (hx : ("errors.errorType", Rows.laid_errors_errorType) ∈ L) : Hnd W := by
  obtain ⟨u, ty, e2, e3, e4, e5⟩ := laidH_handle h _ hx (nm := [101, 114, 114, 111, 114]) rfl rfl
  obtain rfl := Option.some.inj (kRt.symm.trans e2)
  have hm : ty ∈ (List.range 307).filter fun t => Tryz.prog.rowNamed t [101, 114, 114, 111, 114] := List.mem_filter.2 ⟨List.mem_range.2 (by rw [← kSize]; exact e3), e4⟩
  rw [kOneRow] at hm
  obtain rfl := List.mem_singleton.1 hm
  have hh : typeHandle Tryz.prog 28 = .pointer (some ⟨9, 28, none⟩) := by kernel_rfl
  rw [hh] at e5
  unfold Hnd
  simpa using World.var?_cell kEt e5 0
noncomputable def laidBase (os : Os) : World :=
  let w0 := World.holding Tryz.prog os ⟨#[], #[], []⟩
  { w0 with heap := setCells w0.heap 0 #[.iface 205 (.agg #[.pointer (some ⟨9, 28, none⟩)])] }
end Go.Proofs.YtgnomhbbbcfehaaGreatDoor
