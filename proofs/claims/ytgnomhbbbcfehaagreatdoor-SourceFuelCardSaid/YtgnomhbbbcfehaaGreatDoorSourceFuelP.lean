/- SourceFuel: for every input the law returns true, and each argument reads afterwards as it did; the listed variables are tied to the program's text. No other condition. -/
import Derived.Test.YtgnomhbbbcfehaaGreatDoorSourceFuel
import Derived.Test.YtgnomhbbbcfehaaGreatDoorHh
import Derived.Test.YtgnomhbbbcfehaaGreatDoorCards
import Derived.Test.YtgnomhbbbcfehaaGreatDoorTie
namespace Go.Proofs.YtgnomhbbbcfehaaGreatDoor
open Go.ChangeShapes Go.WideShapes Go.RowKit Go.Att
theorem kErngF : Tryz.prog.globalNamed "strconv.ErrRange" = some 8 := by kernel_rfl
theorem kErngtF : (Tryz.prog.globals[8]?).map (·.type) = some 28 := by kernel_rfl
theorem errR_of_laidF {L : List (String × DataW Unit)} {W : World} (h : laidMetH Tryz.prog L W) (hx : ("strconv.ErrRange", Rows.laid_strconv_ErrRange) ∈ L) : ErrR W := by
  obtain ⟨g, t, cs, fuel, p, h1, h2, h3, h4⟩ := laidH_data h _ hx rfl
  obtain rfl := Option.some.inj (kErngF.symm.trans h1)
  obtain rfl := Option.some.inj (kErngtF.symm.trans h2)
  obtain ⟨f', u, v, e, _, _⟩ := iface_of_trod Tryz.underlying28 h4
  obtain ⟨l⟩ := cs
  have e2 : l = [.iface u v] := e
  subst e2
  exact ⟨u, v, h3⟩
end Go.Proofs.YtgnomhbbbcfehaaGreatDoor
namespace Go.Proofs.YtgnomhbbbcfehaaGreatDoor.sourceFuel
open Go.ChangeShapes Go.WideShapes Go.ChangeAt Go.RowKit Go.Att

set_option maxRecDepth 100000 in
theorem contract (H : Type) (enc : TypeId × Value → H) (W : World) (base : Nat) (args : Array Value) (ds gs : List (DataW H)) (before : List MemPlace)
    (hval : ∀ (j : Nat) t v, Tryz.f5.params[j]? = some t → args[j]? = some v → Value.okWide Tryz.prog W .any base t v)
    (hW : DataW.Whole enc Tryz.prog Tryz.f5.params.toList Rows.sourceFuelSpec.vars false W args.toList ds gs before) (hL : laidMetH Tryz.prog Rows.sourceFuelRow.laid W) :
    Calls Tryz.prog 5 args W fun e W' => ∃ v, e = .returned v ∧ Rows.sourceFuelSpec.post enc Tryz.prog Tryz.f5 false true false false W args v W' := by
  have hW' := hW
  obtain ⟨p, q, hA, hV, rfl, hfz, hnd⟩ := hW
  rw [Tryz.params5] at hA hval
  obtain ⟨v0, vs0, d0, ds0, p0, q0, hargs, rfl, rfl, h0, r0⟩ := trodAll_cons hA
  obtain ⟨v1, vs1, d1, ds1, p1, q1, rfl, rfl, rfl, h1, r1⟩ := trodAll_cons r0
  obtain ⟨v2, vs2, d2, ds2, p2, q2, rfl, rfl, rfl, h2, r2⟩ := trodAll_cons r1
  obtain ⟨v3, vs3, d3, ds3, p3, q3, rfl, rfl, rfl, h3, r3⟩ := trodAll_cons r2
  obtain ⟨v4, vs4, d4, ds4, p4, q4, rfl, rfl, rfl, h4, r4⟩ := trodAll_cons r3
  obtain ⟨rfl, rfl, rfl⟩ := trodAll_nil r4
  obtain rfl : args = #[v0, v1, v2, v3, v4] := by cases args; simp_all
  obtain ⟨x0, rfl, rfl, rfl, _⟩ := open_int Tryz.underlying3 (hval 0 3 v0 rfl rfl) h0
  obtain ⟨s1, rfl, rfl, rfl, _⟩ := ChangeMaps.open_string Tryz.underlying9 (hval 1 9 v1 rfl rfl) h1
  obtain ⟨ao2, n2, c2, rfl⟩ := okWide_slice Tryz.underlying22 (hval 2 22 v2 rfl rfl)
  obtain ⟨l2, hx2, _⟩ := open_Ints Tryz.underlying22 Tryz.underlying3 (by kernel_rfl) rfl h2
  obtain ⟨x3, rfl, rfl, rfl, _⟩ := open_int Tryz.underlying3 (hval 3 3 v3 rfl rfl) h3
  obtain ⟨x4, rfl, rfl, rfl, _⟩ := open_int Tryz.underlying3 (hval 4 3 v4 rfl rfl) h4
  have hm4 : ("errors.errorType", Rows.laid_errors_errorType) ∈ Rows.sourceFuelRow.laid := List.mem_cons_of_mem _ (List.mem_cons_of_mem _ (List.mem_cons_of_mem _ (List.mem_cons_of_mem _ (List.mem_cons_self ..))))
  have hm5 : ("strconv.ErrRange", Rows.laid_strconv_ErrRange) ∈ Rows.sourceFuelRow.laid := List.mem_cons_of_mem _ (List.mem_cons_of_mem _ (List.mem_cons_of_mem _ (List.mem_cons_of_mem _ (List.mem_cons_of_mem _ (List.mem_cons_self ..)))))
  have walk : Calls Tryz.prog 5 #[.int .i64 x0, .string s1, .slice ao2 n2 c2, .int .i64 x3, .int .i64 x4] W fun e w' => e = .returned (.bool true) ∧ Ext W w' := by
    by_cases hp : okP x0
    · obtain ⟨⟨l⟩⟩ := s1
      exact sourceFuel_ok x0 (L := l) x3 x4 W hp (hnd_of_laid hL hm4) (errR_of_laidF hL hm5) hx2
    · exact sourceFuel_bad x0 _ _ x3 x4 W hp
  refine walk.mono fun e W' ⟨he, hx'⟩ => ?_
  subst he
  exact ⟨_, rfl, law_post kLaidOut (by kernel_rfl) rfl Tryz.underlying4 rfl hW' rfl hx'⟩

noncomputable def start (os : Os) : World := (laidBase os).layVars Tryz.prog (Rows.sourceFuelRow.laid.filter fun x => x.2.handleName?.isNone)
def some5 : Array Value := #[.int .i64 0, .string ⟨#[]⟩, .slice none 0 0, .int .i64 0, .int .i64 0]
theorem start_os (os : Os) : (start os).os = os := World.layVars_os _ _ _
theorem start_met (os : Os) : laidMetH Tryz.prog Rows.sourceFuelRow.laid ((start os).forCall (fun _ _ => 0) ⟨#[], some5, []⟩).memory :=
  laidMetH_of_parts (laid_over some5 (by kernel_rfl) (by kernel_rfl)) (by kernel_rfl)
theorem reads (os : Os) {H : Type} (enc : TypeId × Value → H) : ∃ places, DataW.whole enc Tryz.prog ((start os).forCall (fun _ _ => 0) ⟨#[], some5, []⟩).memory Tryz.f5.params.toList Rows.sourceFuelSpec.vars false some5.toList 8 = some ([.lit (.int .i64 0), .lit (.string []), .nil, .lit (.int .i64 0), .lit (.int .i64 0)], [], places) :=
  ⟨[], by kernel_rfl⟩

set_option maxRecDepth 100000 in
theorem lifted (os : Os) (started : os.Started) (H : Type) (enc : TypeId × Value → H) (F : Stop.Interp) :
    ReturnsInHanded {} Tryz.checked os 5 .any ((OpenSpec.ofChange Rows.sourceFuelSpec).preRow enc Tryz.prog Tryz.f5 Rows.sourceFuelRow.domain false Rows.sourceFuelRow.laid) (((OpenSpec.ofChange Rows.sourceFuelSpec).at F).post enc Tryz.prog Tryz.f5 false true false false) := by
  obtain ⟨places, hx⟩ := reads os enc
  refine returnsInHanded_of_row (C := Tryz.checked) (s := OpenSpec.ofChange Rows.sourceFuelSpec) kOwn started (by kernel_rfl) Tryz.func5
    (witness_row_atRef (enc := enc) (C := Tryz.checked) false (start os) some5 (start_os os) (by kernel_rfl) (by kernel_rfl) (by kernel_rfl)
      (OpenSpec.preRow_of_cond 8 hx (by kernel_rfl) (fun k hk => by cases hk) (by kernel_rfl) (start_met os))) ?_
  intro W base args ds gs before hval hW _ _ _ hL _ _
  exact contract H enc W base args ds gs before hval hW hL

theorem said : Rows.SourceFuelSaid :=
  OpenClaim.holds_of_cond 5 Tryz.f5 rfl rfl rfl rfl rfl rfl rfl ⟨rfl, rfl, rfl, rfl, rfl⟩ rfl rfl rfl rfl rfl (by kernel_rfl) Tryz.func5 (by kernel_rfl)
    (of_decide_eq_true (by kernel_rfl)) (by unfold Func.isWrapper; rw [if_neg (of_decide_eq_false (by kernel_rfl))]; exact ⟨rfl, rfl⟩)
    (fun os started H enc _ F => by rw [OpenClaim.pre_eq_preRow]; exact lifted os started H enc F)

theorem plain (f : FuncId) (fn : Func) (hf : Tryz.pinned.checked.prog.funcNamed "attest/attestlaw6.SourceFuel" = some f) (hfn : Tryz.pinned.checked.prog.funcs[f]? = some fn) :
    true = Tryz.pinned.checked.prog.looks [] ∧ ∀ (j : Nat) t, fn.params[j]? = some t → Tryz.pinned.checked.prog.wantsStandIn t = false := by
  obtain rfl : f = 5 := Option.some.inj ((show Tryz.prog.funcNamed "attest/attestlaw6.SourceFuel" = some 5 by kernel_rfl).symm.trans hf) |>.symm
  obtain rfl : fn = Tryz.f5 := (Option.some.inj (Tryz.func5.symm.trans hfn)).symm
  refine ⟨by kernel_rfl, fun j t ht => ?_⟩
  have hall : Tryz.f5.params.toList.all (fun t => !Tryz.prog.wantsStandIn t) = true := by kernel_rfl
  have := List.all_eq_true.1 hall t (Array.mem_toList_iff.2 (Array.mem_of_getElem? ht))
  exact (show Tryz.prog.wantsStandIn t = false by simpa using this)

theorem card : Rows.SourceFuelCardSaid :=
  Claim7.holds_tied_plain_at .later [] _ _ _ _ said (fun _ h => by cases h) (by kernel_rfl) (fun _ h => by cases h) sourceFuel_row_tie rfl ⟨rfl, rfl⟩ (by kernel_rfl) rfl plain (by kernel_rfl)
end Go.Proofs.YtgnomhbbbcfehaaGreatDoor.sourceFuel
