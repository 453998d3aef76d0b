/- GatesTrue: for arguments of bulk at most 1048576 the law returns true, and each argument reads afterwards as it did; the listed variable is tied to the program's text. No other condition. -/
import Derived.Test.YtaajjaadlpgbiaaGreatDoorZx19
import Derived.Test.YtaajjaadlpgbiaaGreatDoorZx3
import Derived.Test.YtaajjaadlpgbiaaGreatDoorCards
import Derived.Test.YtaajjaadlpgbiaaGreatDoorTie
namespace Go.Proofs.YtaajjaadlpgbiaaGreatDoor.gatesTrue
open Go.ChangeShapes Go.WideShapes Go.ChangeAt Go.RowKit Go.Att

set_option maxRecDepth 100000 in
theorem contract (H : Type) (enc : TypeId × Value → H) (W : World) (base : Nat) (args : Array Value) (ds gs : List (DataW H)) (before : List MemPlace)
    (hval : ∀ (j : Nat) t v, Tryz.f5.params[j]? = some t → args[j]? = some v → Value.okWide Tryz.prog W .any base t v)
    (hW : DataW.Whole enc Tryz.prog Tryz.f5.params.toList Rows.gatesTrueSpec.vars false W args.toList ds gs before) (hL : laidMetH Tryz.prog Rows.gatesTrueUptoRow.laid W) (hk : Rows.uptoSmall H (ds ++ gs) = true) :
    Calls Tryz.prog 5 args W fun e W' => ∃ v, e = .returned v ∧ Rows.gatesTrueSpec.post enc Tryz.prog Tryz.f5 false true false false W args v W' := by
  have hW' := hW
  obtain ⟨p, q, hA, hV, rfl, hfz, hnd⟩ := hW
  rw [Tryz.params5] at hA hval
  obtain ⟨v0, vs0, d0, ds0, p0, q0, hargs, rfl, rfl, h0, r0⟩ := trodAll_cons hA
  obtain ⟨v1, vs1, d1, ds1, p1, q1, rfl, rfl, rfl, h1, r1⟩ := trodAll_cons r0
  obtain ⟨v2, vs2, d2, ds2, p2, q2, rfl, rfl, rfl, h2, r2⟩ := trodAll_cons r1
  obtain ⟨rfl, rfl, rfl⟩ := trodAll_nil r2
  obtain rfl : args = #[v0, v1, v2] := by cases args; simp_all
  obtain ⟨x0, rfl, rfl, rfl, _⟩ := open_int Tryz.underlying3 (hval 0 3 v0 rfl rfl) h0
  obtain ⟨cs1, rfl, hz1⟩ := okWide_agg Tryz.underlying48 (hval 1 48 v1 rfl rfl)
  obtain ⟨x1, sv1, da1, db1, pb1, fu1, rfl, rfl, hs1⟩ := open_pair Tryz.underlying48 rfl rfl (by kernel_rfl) (by kernel_rfl) Tryz.underlying3 hz1 rfl h1
  obtain ⟨l1, R1, hx1, e1⟩ := open_LysF Tryz.underlying46 Tryz.underlying62 Tryz.underlying61 (by kernel_rfl) (by kernel_rfl) rfl rfl rfl (by kernel_rfl) (by kernel_rfl) (by kernel_rfl) Tryz.underlying3 Tryz.underlying3 Tryz.underlying3 hs1
  obtain ⟨ao2, n2, c2, rfl⟩ := okWide_slice Tryz.underlying23 (hval 2 23 v2 rfl rfl)
  obtain ⟨l2, hx2, e2⟩ := open_Ints Tryz.underlying23 Tryz.underlying3 (by kernel_rfl) rfl h2
  have hg := handle_of_laid hL
  have hbulk := bulks.bound hk
  rw [bulks.append] at hbulk
  have len_of : ∀ {d : DataW H} {n : Nat}, (n = 0 ∨ ∃ es sp, d = .slice es sp ∧ es.length = n) → n ≤ Rows.uptoBulk d := by
    intro d n h
    rcases h with rfl | ⟨es, sp, rfl, rfl⟩
    · exact Nat.zero_le _
    · have := bulks.slice_le es sp; omega
  have b2 := len_of (d := d2) (n := l2.length) (by rcases e2 with rfl | ⟨es, sp, e1, e2⟩; exact .inl rfl; exact .inr ⟨es, sp, e1, e2⟩)
  simp only [Rows.uptoBulkAll] at hbulk
  have walk : Calls Tryz.prog 5 #[.int .i64 x0, .agg #[.int .i64 x1, sv1], .slice ao2 n2 c2] W fun e w' => e = .returned (.bool true) ∧ Ext W w' := by
    by_cases hok : okP x0 ∧ 23 ≤ x0
    · exact gatesTrue_w x0 x1 sv1 _ l1 R1 l2 W hok.1 hok.2 hg hx1 hx2
    · exact gatesTrue_bad x0 _ _ W x1 sv1 rfl hok hg
  refine walk.mono fun e W' ⟨he, hx'⟩ => ?_
  subst he
  exact ⟨_, rfl, law_post kLaidOut (by kernel_rfl) rfl Tryz.underlying4 rfl hW' rfl hx'⟩

theorem reads (os : Os) {H : Type} (enc : TypeId × Value → H) : ∃ places, DataW.whole enc Tryz.prog ((laidWorld os).forCall (fun _ _ => 0) ⟨#[], #[.int .i64 0, .agg #[.int .i64 0, .slice none 0 0], .slice none 0 0], []⟩).memory Tryz.f5.params.toList Rows.gatesTrueSpec.vars false #[Value.int .i64 0, .agg #[.int .i64 0, .slice none 0 0], .slice none 0 0].toList 8 = some ([.lit (.int .i64 0), .agg [.lit (.int .i64 0), .nil], .nil], [], places) :=
  ⟨[], by kernel_rfl⟩

set_option maxRecDepth 100000 in
theorem liftedUpto (os : Os) (started : os.Started) (H : Type) (enc : TypeId × Value → H) (F : Stop.Interp) :
    ReturnsInHanded {} Tryz.checked os 5 .any ((Rows.OpenSpec.upto Rows.gatesTrueSpec).preRow enc Tryz.prog Tryz.f5 Rows.gatesTrueUptoRow.domain false Rows.gatesTrueUptoRow.laid) (((Rows.OpenSpec.upto Rows.gatesTrueSpec).at F).post enc Tryz.prog Tryz.f5 false true false false) := by
  obtain ⟨places, hx⟩ := reads os enc
  refine returnsInHanded_of_row (C := Tryz.checked) (s := Rows.OpenSpec.upto Rows.gatesTrueSpec) kOwn started (by kernel_rfl) Tryz.func5
    (witness_row_at (enc := enc) (C := Tryz.checked) false (laidWorld os) #[.int .i64 0, .agg #[.int .i64 0, .slice none 0 0], .slice none 0 0] rfl (by kernel_rfl) (by kernel_rfl) (by kernel_rfl)
      (OpenSpec.preRow_of_cond 8 hx (by kernel_rfl) (fun k hk => by cases hk; kernel_rfl) (by kernel_rfl) (laidWorld_met os _))) ?_
  intro W base args ds gs before hval hW _ hcond _ hL _ _
  exact contract H enc W base args ds gs before hval hW hL (hcond _ rfl)

theorem saidUpto : Rows.GatesTrueUptoSaid :=
  OpenClaim.holds_of_cond 5 Tryz.f5 rfl rfl rfl rfl rfl rfl rfl ⟨rfl, rfl, rfl, rfl, rfl⟩ rfl rfl rfl rfl rfl (by kernel_rfl) Tryz.func5 (by kernel_rfl)
    (of_decide_eq_true (by kernel_rfl)) (by unfold Func.isWrapper; rw [if_neg (of_decide_eq_false (by kernel_rfl))]; exact ⟨rfl, rfl⟩)
    (fun os started H enc _ F => by rw [OpenClaim.pre_eq_preRow]; exact liftedUpto os started H enc F)

theorem plain (f : FuncId) (fn : Func) (hf : Tryz.pinned.checked.prog.funcNamed "attest/attestlaw10.GatesTrue" = some f) (hfn : Tryz.pinned.checked.prog.funcs[f]? = some fn) :
    true = Tryz.pinned.checked.prog.looks [] ∧ ∀ (j : Nat) t, fn.params[j]? = some t → Tryz.pinned.checked.prog.wantsStandIn t = false := by
  obtain rfl : f = 5 := Option.some.inj ((show Tryz.prog.funcNamed "attest/attestlaw10.GatesTrue" = some 5 by kernel_rfl).symm.trans hf) |>.symm
  obtain rfl : fn = Tryz.f5 := (Option.some.inj (Tryz.func5.symm.trans hfn)).symm
  refine ⟨by kernel_rfl, fun j t ht => ?_⟩
  have hall : Tryz.f5.params.toList.all (fun t => !Tryz.prog.wantsStandIn t) = true := by kernel_rfl
  have := List.all_eq_true.1 hall t (Array.mem_toList_iff.2 (Array.mem_of_getElem? ht))
  exact (show Tryz.prog.wantsStandIn t = false by simpa using this)

/-- The card. -/
theorem cardUpto : Rows.GatesTrueUptoCardSaid :=
  Claim7.holds_tied_plain_at .later [] _ _ _ _ saidUpto (fun _ h => by cases h) (by kernel_rfl) (fun _ h => by cases h) gatesTrueUpto_row_tie rfl ⟨rfl, rfl⟩ (by kernel_rfl) rfl plain (by kernel_rfl)
end Go.Proofs.YtaajjaadlpgbiaaGreatDoor.gatesTrue
