/- The listed variables of a law on code as text: what the condition gives; a world that meets it. -/
import Derived.Test.YtnkcldhjbhdejaaDoorBr
import Derived.Test.YtnkcldhjbhdejaaDoorEr
import Derived.Test.YtnkcldhjbhdejaaDoorRows
import Derived.Test.YtnkcldhjbhdejaaDoorWr
import Derived.LaidHandle
import Derived.Deep.DeepHandedRow
import Derived.Lib.LaidTab
import Derived.OpenShut
namespace Go.Att
open Go.RowKit
theorem laid_mem {P : Program} {w : World} : ∀ {L : List (String × DataW Unit)} {ps : List MemPlace}, DataW.LaidVars P w L ps → ∀ x ∈ L, ∃ g t cs fuel p, P.globalNamed x.1 = some g ∧ (P.globals[g]?).map (·.type) = some t ∧ w.var? P x.1 = some cs ∧ DataW.trod (fun _ => ()) P w 0 (fun _ => true) false fuel t cs.toList = some (x.2, p)
  | [], _, _, x, hx => by cases hx
  | (n, d) :: r, ps, h, x, hx => by
    obtain ⟨g, t, cs, fuel, p, q, h1, h2, h3, h4, h5, _⟩ := h
    rcases List.mem_cons.1 hx with rfl | hx
    · exact ⟨g, t, cs, fuel, p, h1, h2, h3, h4⟩
    · exact laid_mem h5 x hx
theorem laidH_data {P : Program} {w : World} {L : List (String × DataW Unit)} (h : laidMetH P L w) (x : String × DataW Unit) (hx : x ∈ L) (hn : x.2.handleName? = none) :
    ∃ g t cs fuel p, P.globalNamed x.1 = some g ∧ (P.globals[g]?).map (·.type) = some t ∧ w.var? P x.1 = some cs ∧ DataW.trod (fun _ => ()) P w 0 (fun _ => true) false fuel t cs.toList = some (x.2, p) := by
  unfold laidMetH at h
  generalize hfl : (L.filter fun x => x.2.handleName?.isSome) = fl at h
  cases fl with
  | nil =>
    obtain ⟨ps, hv, _⟩ := h
    exact laid_mem hv x hx
  | cons a r =>
    obtain ⟨⟨ps, hv, _⟩, _⟩ := h
    exact laid_mem hv x (List.mem_filter.2 ⟨hx, by rw [hn]; rfl⟩)
theorem laidH_handle {P : Program} {w : World} {L : List (String × DataW Unit)} (h : laidMetH P L w) (x : String × DataW Unit) (hx : x ∈ L) {nm : List UInt8} (hn : x.2.handleName? = some nm) (hf : x.2.funcsIn? = none) :
    ∃ u ty, (P.cutTypes.find? (·.1 == "internal/reflectlite.rtype")).map (·.2) = some u ∧ ty < P.types.size ∧ P.rowNamed ty nm = true ∧ w.var? P x.1 = some #[.iface u (.agg #[typeHandle P ty])] := by
  unfold laidMetH at h
  have hm : x ∈ L.filter fun x => x.2.handleName?.isSome := List.mem_filter.2 ⟨hx, by rw [hn]; rfl⟩
  generalize hfl : (L.filter fun x => x.2.handleName?.isSome) = fl at h hm
  cases fl with
  | nil => cases hm
  | cons a r =>
    have h2 := h.2 x hm
    rw [hf] at h2
    obtain ⟨name, u, ty, e1, e2, e3, e4, e5⟩ := h2
    obtain rfl := Option.some.inj (e1.symm.trans hn)
    exact ⟨u, ty, e2, e3, e4, e5⟩
end Go.Att
namespace Go.Proofs.YtnkcldhjbhdejaaDoor
open Go.ChangeShapes Go.WideShapes Go.RowKit Go.Att Go.Shelf
theorem kOwn : ownKnob Tryd.prog.godebug = none := by kernel_rfl
theorem kEt : Tryd.prog.globalNamed "errors.errorType" = some 1 := by kernel_rfl
theorem kRt : (Tryd.prog.cutTypes.find? (·.1 == "internal/reflectlite.rtype")).map (·.2) = some 91 := by kernel_rfl
theorem kOneRow : ((List.range 141).filter fun t => Tryd.prog.rowNamed t [101, 114, 114, 111, 114]) = [26] := by kernel_rfl
theorem kSize : Tryd.prog.types.size = 141 := by kernel_rfl
theorem kLaidOut : laidOutB Tryd.prog = true := by kernel_rfl
theorem hnd_of_laid {L : List (String × DataW Unit)} {W : World} (h : laidMetH Tryd.prog L W) (hx : ("errors.errorType", Rows.laid_errors_errorType) ∈ L) : Hnd W := by
  obtain ⟨u, ty, e2, e3, e4, e5⟩ := laidH_handle h _ hx (nm := [101, 114, 114, 111, 114]) rfl rfl
  obtain rfl := Option.some.inj (kRt.symm.trans e2)
  have hm : ty ∈ (List.range 141).filter fun t => Tryd.prog.rowNamed t [101, 114, 114, 111, 114] := List.mem_filter.2 ⟨List.mem_range.2 (by rw [← kSize]; exact e3), e4⟩
  rw [kOneRow] at hm
  obtain rfl := List.mem_singleton.1 hm
  have hh : typeHandle Tryd.prog 26 = .pointer (some ⟨6, 26, none⟩) := by kernel_rfl
  rw [hh] at e5
  unfold Hnd
  simpa using World.var?_cell kEt e5 0
theorem kP10 : Tryd.prog.globalNamed "internal/strconv.uint64pow10" = some 2 := by kernel_rfl
theorem kP10t : (Tryd.prog.globals[2]?).map (·.type) = some 106 := by kernel_rfl
theorem tab_of_laid {L : List (String × DataW Unit)} {W : World} (h : laidMetH Tryd.prog L W) (hx : ("internal/strconv.uint64pow10", Rows.laid_internal_strconv_uint64pow10) ∈ L) : Tab10 W := by
  obtain ⟨g, t, cs, fuel, p, h1, h2, h3, h4⟩ := laidH_data h _ hx rfl
  obtain rfl := Option.some.inj (kP10.symm.trans h1)
  obtain rfl := Option.some.inj (kP10t.symm.trans h2)
  have h5 := Lib.cells_of_tab (k := .u64) (zs := Lib.pow10Tab) Tryd.underlying106 Tryd.underlying84 (by kernel_rfl) (by kernel_rfl) (show DataW.trod (fun _ => ()) Tryd.prog W 0 (fun _ => true) false fuel 106 cs.toList = some (Lib.tabData .u64 Lib.pow10Tab, p) from h4)
  show W.var? _ _ = _
  rw [h3, ← h5]
theorem kFm : Tryd.prog.globalNamed "attest/asm.forms" = some 0 := by kernel_rfl
theorem kFmt : (Tryd.prog.globals[0]?).map (·.type) = some 44 := by kernel_rfl
def formsD : DataW Unit := .agg ((List.range 14).map fun k => .agg [.lit (.string (wordA k)), .lit (.string (opLA k))])
theorem forms_eq : (Rows.laid_attest_asm_forms : DataW Unit) = formsD := by kernel_rfl
theorem cFm : Tryd.prog.cellsOf 43 = 2 := by kernel_rfl
theorem cSt : Tryd.prog.cellsOf 9 = 1 := by kernel_rfl
theorem forms_of_laid {L : List (String × DataW Unit)} {W : World} (h : laidMetH Tryd.prog L W) (hx : ("attest/asm.forms", Rows.laid_attest_asm_forms) ∈ L) : Forms W := by
  obtain ⟨g, t, cs, fuel, p, h1, h2, h3, h4⟩ := laidH_data h _ hx rfl
  obtain rfl := Option.some.inj (kFm.symm.trans h1)
  obtain rfl := Option.some.inj (kFmt.symm.trans h2)
  obtain ⟨xs, m, _, ex, _, hl, hel⟩ := DataW.trod_array Tryd.underlying44 h4
  have hcell := fun i => World.var?_cell kFm h3 i
  have e3 : xs.map (·.1) = (List.range 14).map fun k => (DataW.agg [.lit (.string (wordA k)), .lit (.string (opLA k))] : DataW Unit) := by
    have := (Prod.mk.inj ex).1
    change Rows.laid_attest_asm_forms = _ at this
    rw [forms_eq] at this
    exact (DataW.agg.inj this).symm
  have each : ∀ k, k < 14 → cs[2 * k]? = some (.string ⟨(wordA k).toArray⟩) ∧ cs[2 * k + 1]? = some (.string ⟨(opLA k).toArray⟩) := by
    intro k hk
    have hE := hel k hk
    rw [cFm, List.getElem?_eq_getElem (by omega)] at hE
    have hE1 : (xs[k]'(by omega)).1 = (DataW.agg [.lit (.string (wordA k)), .lit (.string (opLA k))] : DataW Unit) := by
      have := congrArg (fun l => l[k]?) e3
      simpa [List.getElem?_range hk, List.getElem?_eq_getElem (show k < xs.length by omega)] using this
    obtain ⟨ys, m2, _, hxy, _, hyl, hff⟩ := DataW.trod_struct Tryd.underlying43 hE
    match ys, hyl with
    | [y0, y1], _ =>
      have g0 := hff 0 _ rfl
      have g1 := hff 1 _ rfl
      simp [cSt] at g0 g1
      obtain ⟨s0, a0, b0, _⟩ := DataW.trod_string Tryd.underlying9 g0
      obtain ⟨s1, a1, b1, _⟩ := DataW.trod_string Tryd.underlying9 g1
      have hag := (congrArg Prod.fst hxy)
      rw [hE1] at hag
      simp only [List.map_cons, List.map_nil, DataW.agg.injEq, List.cons.injEq, and_true] at hag
      rw [b0, b1] at hag
      simp only [DataW.lit.injEq, Lit.string.injEq] at hag
      have q0 := congrArg (fun l => l[0]?) a0
      have q1 := congrArg (fun l => l[0]?) a1
      simp [List.getElem?_drop] at q0 q1
      rw [Nat.mul_comm k 2] at q0 q1
      refine ⟨?_, ?_⟩
      · rw [q0, hag.1]
      · rw [q1, hag.2]
  refine ⟨World.block_lt_of_cell? W ⟨0, 0, none⟩ (by rw [hcell]; exact (each 0 (by omega)).1), fun k hk => by rw [hcell]; exact (each k hk).1, fun k hk => by rw [hcell]; exact (each k hk).2⟩

/-- A world that meets the condition: the settled one, the variables' cells laid. -/
noncomputable def putCells (h : Array Obj) (g : Nat) (cs : Array Value) : Array Obj := h.modify g fun
  | .cells _ t frozen => .cells cs t frozen
  | o => o
noncomputable def laidWorld (os : Os) : World :=
  let w0 := World.holding Tryd.prog os ⟨#[], #[], []⟩
  { w0 with heap := (putCells (putCells (putCells (putCells (putCells w0.heap 1 #[.iface 91 (.agg #[.pointer (some ⟨6, 26, none⟩)])])
      0 ((List.range 14).flatMap fun k => [Value.string ⟨(wordA k).toArray⟩, .string ⟨(opLA k).toArray⟩]).toArray)
      2 (Lib.pow10Tab.map (Value.int .u64)).toArray)
      4 (([0, 1, 28, 2, 29, 14, 24, 3, 30, 22, 20, 15, 25, 17, 4, 8, 31, 27, 13, 23, 21, 19, 16, 7, 26, 12, 18, 6, 11, 5, 10, 9] : List Int).map (Value.int .u8)).toArray)
      5 (([0, 1, 56, 2, 57, 49, 28, 3, 61, 58, 42, 50, 38, 29, 17, 4, 62, 47, 59, 36, 45, 43, 51, 22, 53, 39, 33, 30, 24, 18, 12, 5, 63, 55, 48, 27, 60, 41, 37, 16, 46, 35, 44, 21, 52, 32, 23, 11, 54, 26, 40, 15, 34, 20, 31, 10, 25, 14, 19, 9, 13, 8, 7, 6] : List Int).map (Value.int .u8)).toArray) }
theorem laidWorld_met (os : Os) (args : Array Value) : laidMetH Tryd.prog Rows.asmPrintsRow.laid ((laidWorld os).forCall (fun _ _ => 0) ⟨#[], args, []⟩).memory :=
  laidMetH_of_parts (laidMet_of_run' 8 (by kernel_rfl) (by kernel_rfl)) (by kernel_rfl)
end Go.Proofs.YtnkcldhjbhdejaaDoor
