/- RulesSame: for arguments of bulk at most 1048576 the law returns true, and each argument reads afterwards as it did; the listed variable is tied to the program's text. No other condition. -/
import Derived.Test.YthjemncbphdomaaDoorRulesSame
import Derived.Test.YthjemncbphdomaaDoorHandle
import Derived.Test.YthjemncbphdomaaDoorBulk
import Derived.Test.YthjemncbphdomaaDoorCards
import Derived.Test.YthjemncbphdomaaDoorTie
namespace Go.Proofs.YthjemncbphdomaaDoor.rulesSame
open Go.ChangeShapes Go.WideShapes Go.ChangeAt Go.RowKit Go.Att

set_option maxRecDepth 100000 in
theorem contract (H : Type) (enc : TypeId × Value → H) (W : World) (base : Nat) (args : Array Value) (ds gs : List (DataW H)) (before : List MemPlace)
    (hval : ∀ (j : Nat) t v, Tryd.f3.params[j]? = some t → args[j]? = some v → Value.okWide Tryd.prog W .any base t v)
    (hW : DataW.Whole enc Tryd.prog Tryd.f3.params.toList Rows.rulesSameSpec.vars false W args.toList ds gs before) (hL : laidMetH Tryd.prog Rows.rulesSameUptoRow.laid W) (hk : Rows.uptoSmall H (ds ++ gs) = true) :
    Calls Tryd.prog 3 args W fun e W' => ∃ v, e = .returned v ∧ Rows.rulesSameSpec.post enc Tryd.prog Tryd.f3 false true false false W args v W' := by
  have hW' := hW
  obtain ⟨p, q, hA, hV, rfl, hfz, hnd⟩ := hW
  rw [Tryd.params3] at hA hval
  obtain ⟨v0, vs0, d0, ds0, p0, q0, hargs, rfl, rfl, h0, r0⟩ := trodAll_cons hA
  obtain ⟨v1, vs1, d1, ds1, p1, q1, rfl, rfl, rfl, h1, r1⟩ := trodAll_cons r0
  obtain ⟨v2, vs2, d2, ds2, p2, q2, rfl, rfl, rfl, h2, r2⟩ := trodAll_cons r1
  obtain ⟨v3, vs3, d3, ds3, p3, q3, rfl, rfl, rfl, h3, r3⟩ := trodAll_cons r2
  obtain ⟨v4, vs4, d4, ds4, p4, q4, rfl, rfl, rfl, h4, r4⟩ := trodAll_cons r3
  obtain ⟨rfl, rfl, rfl⟩ := trodAll_nil r4
  obtain rfl : args = #[v0, v1, v2, v3, v4] := by cases args; simp_all
  obtain ⟨x, rfl, rfl, rfl, _⟩ := open_int Tryd.underlying3 (hval 0 3 v0 rfl rfl) h0
  obtain ⟨ao1, n1, c1, rfl⟩ := okWide_slice Tryd.underlying22 (hval 1 22 v1 rfl rfl)
  obtain ⟨ao2, n2, c2, rfl⟩ := okWide_slice Tryd.underlying22 (hval 2 22 v2 rfl rfl)
  obtain ⟨ao3, n3, c3, rfl⟩ := okWide_slice Tryd.underlying23 (hval 3 23 v3 rfl rfl)
  obtain ⟨y, rfl, rfl, rfl, _⟩ := open_int Tryd.underlying3 (hval 4 3 v4 rfl rfl) h4
  obtain ⟨la, ha, ea⟩ := open_Prs Tryd.underlying22 Tryd.underlying29 (by kernel_rfl) rfl rfl (by kernel_rfl) (by kernel_rfl) Tryd.underlying3 Tryd.underlying3 rfl h1
  obtain ⟨lb, hb, eb⟩ := open_Prs Tryd.underlying22 Tryd.underlying29 (by kernel_rfl) rfl rfl (by kernel_rfl) (by kernel_rfl) Tryd.underlying3 Tryd.underlying3 rfl h2
  obtain ⟨lx, hx, ex⟩ := open_Ints Tryd.underlying23 Tryd.underlying3 (by kernel_rfl) rfl h3
  have hg := handle_of_laid hL
  have hbulk := bulks.bound hk
  rw [bulks.append] at hbulk
  have len_of : ∀ {d : DataW H} {n : Nat}, (n = 0 ∨ ∃ es sp, d = .slice es sp ∧ es.length = n) → n ≤ Rows.uptoBulk d := by
    intro d n h
    rcases h with rfl | ⟨es, sp, rfl, rfl⟩
    · exact Nat.zero_le _
    · have := bulks.slice_le es sp; omega
  have b1 := len_of (d := d1) (n := la.length) (by rcases ea with rfl | ⟨es, sp, e1, e2⟩; exact .inl rfl; exact .inr ⟨es, sp, e1, e2⟩)
  have b2 := len_of (d := d2) (n := lb.length) (by rcases eb with rfl | ⟨es, sp, e1, e2⟩; exact .inl rfl; exact .inr ⟨es, sp, e1, e2⟩)
  have b3 := len_of (d := d3) (n := lx.length) (by rcases ex with rfl | ⟨es, sp, e1, e2⟩; exact .inl rfl; exact .inr ⟨es, sp, e1, e2⟩)
  simp only [Rows.uptoBulkAll] at hbulk
  have walk : Calls Tryd.prog 3 #[.int .i64 x, .slice ao1 n1 c1, .slice ao2 n2 c2, .slice ao3 n3 c3, .int .i64 y] W fun e w' => e = .returned (.bool true) ∧ Ext W w' := by
    by_cases hok : okP x
    · exact rulesSame_ok x _ _ _ la lb lx y W hok hg ha hb hx (by omega) (by omega) (by omega)
    · exact rulesSame_bad x _ _ _ y W hok hg
  refine walk.mono fun e W' ⟨he, hx'⟩ => ?_
  subst he
  exact ⟨_, rfl, law_post kLaidOut (by kernel_rfl) rfl Tryd.underlying4 rfl hW' rfl hx'⟩

theorem reads (os : Os) {H : Type} (enc : TypeId × Value → H) : ∃ places, DataW.whole enc Tryd.prog ((laidWorld os).forCall (fun _ _ => 0) ⟨#[], #[.int .i64 0, .slice none 0 0, .slice none 0 0, .slice none 0 0, .int .i64 0], []⟩).memory Tryd.f3.params.toList Rows.rulesSameSpec.vars false #[Value.int .i64 0, .slice none 0 0, .slice none 0 0, .slice none 0 0, .int .i64 0].toList 8 = some ([.lit (.int .i64 0), .nil, .nil, .nil, .lit (.int .i64 0)], [], places) :=
  ⟨[], by kernel_rfl⟩

set_option maxRecDepth 100000 in
theorem liftedUpto (os : Os) (started : os.Started) (H : Type) (enc : TypeId × Value → H) (F : Stop.Interp) :
    ReturnsInHanded {} Tryd.checked os 3 .any ((Rows.OpenSpec.upto Rows.rulesSameSpec).preRow enc Tryd.prog Tryd.f3 Rows.rulesSameUptoRow.domain false Rows.rulesSameUptoRow.laid) (((Rows.OpenSpec.upto Rows.rulesSameSpec).at F).post enc Tryd.prog Tryd.f3 false true false false) := by
  obtain ⟨places, hx⟩ := reads os enc
  refine returnsInHanded_of_row (C := Tryd.checked) (s := Rows.OpenSpec.upto Rows.rulesSameSpec) kOwn started (by kernel_rfl) Tryd.func3
    (witness_row_at (enc := enc) (C := Tryd.checked) false (laidWorld os) #[.int .i64 0, .slice none 0 0, .slice none 0 0, .slice none 0 0, .int .i64 0] rfl (by kernel_rfl) (by kernel_rfl) (by kernel_rfl)
      (OpenSpec.preRow_of_cond 8 hx (by kernel_rfl) (fun k hk => by cases hk; kernel_rfl) (by kernel_rfl) (laidWorld_met os _))) ?_
  intro W base args ds gs before hval hW _ hcond _ hL _ _
  exact contract H enc W base args ds gs before hval hW hL (hcond _ rfl)

theorem saidUpto : Rows.RulesSameUptoSaid :=
  OpenClaim.holds_of_cond 3 Tryd.f3 rfl rfl rfl rfl rfl rfl rfl ⟨rfl, rfl, rfl, rfl, rfl⟩ rfl rfl rfl rfl rfl (by kernel_rfl) Tryd.func3 (by kernel_rfl)
    (of_decide_eq_true (by kernel_rfl)) (by unfold Func.isWrapper; rw [if_neg (of_decide_eq_false (by kernel_rfl))]; exact ⟨rfl, rfl⟩)
    (fun os started H enc _ F => by rw [OpenClaim.pre_eq_preRow]; exact liftedUpto os started H enc F)

theorem plain (f : FuncId) (fn : Func) (hf : Tryd.pinned.checked.prog.funcNamed "attest/attestlaw7.RulesSame" = some f) (hfn : Tryd.pinned.checked.prog.funcs[f]? = some fn) :
    true = Tryd.pinned.checked.prog.looks [] ∧ ∀ (j : Nat) t, fn.params[j]? = some t → Tryd.pinned.checked.prog.wantsStandIn t = false := by
  obtain rfl : f = 3 := Option.some.inj ((show Tryd.prog.funcNamed "attest/attestlaw7.RulesSame" = some 3 by kernel_rfl).symm.trans hf) |>.symm
  obtain rfl : fn = Tryd.f3 := (Option.some.inj (Tryd.func3.symm.trans hfn)).symm
  refine ⟨by kernel_rfl, fun j t ht => ?_⟩
  have hall : Tryd.f3.params.toList.all (fun t => !Tryd.prog.wantsStandIn t) = true := by kernel_rfl
  have := List.all_eq_true.1 hall t (Array.mem_toList_iff.2 (Array.mem_of_getElem? ht))
  exact (show Tryd.prog.wantsStandIn t = false by simpa using this)

/-- The card. -/
theorem cardUpto : Rows.RulesSameUptoCardSaid :=
  Claim7.holds_tied_plain_at .later [] _ _ _ _ saidUpto (fun _ h => by cases h) (by kernel_rfl) (fun _ h => by cases h) rulesSameUpto_row_tie rfl ⟨rfl, rfl⟩ (by kernel_rfl) rfl plain (by kernel_rfl)
end Go.Proofs.YthjemncbphdomaaDoor.rulesSame
