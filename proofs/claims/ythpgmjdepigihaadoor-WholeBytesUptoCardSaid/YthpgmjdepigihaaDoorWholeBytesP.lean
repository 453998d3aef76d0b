/- WholeBytes: for arguments of bulk at most 1048576 the law returns true, and each argument reads afterwards as it did; the listed variable is tied to the program's text. No other condition. -/
import Derived.Test.YthpgmjdepigihaaDoorWholeBytes
import Derived.Test.YthpgmjdepigihaaDoorHandle
import Derived.Test.YthpgmjdepigihaaDoorBulk
import Derived.Test.YthpgmjdepigihaaDoorCards
import Derived.Test.YthpgmjdepigihaaDoorTie
import Derived.Test.YthpgmjdepigihaaDoorBv
import Derived.Test.YthpgmjdepigihaaDoorBy
namespace Go.Proofs.YthpgmjdepigihaaDoor.wholeBytes
open Go.ChangeShapes Go.WideShapes Go.ChangeAt Go.RowKit Go.Att

set_option maxRecDepth 100000 in
set_option maxHeartbeats 2000000 in
theorem contract (H : Type) (enc : TypeId × Value → H) (W : World) (base : Nat) (args : Array Value) (ds gs : List (DataW H)) (before : List MemPlace)
    (hval : ∀ (j : Nat) t v, Tryd.f3.params[j]? = some t → args[j]? = some v → Value.okWide Tryd.prog W .any base t v)
    (hW : DataW.Whole enc Tryd.prog Tryd.f3.params.toList Rows.wholeBytesSpec.vars false W args.toList ds gs before) (hL : laidMetH Tryd.prog Rows.wholeBytesUptoRow.laid W) (hk : Rows.uptoSmall H (ds ++ gs) = true) :
    Calls Tryd.prog 3 args W fun e W' => ∃ v, e = .returned v ∧ Rows.wholeBytesSpec.post enc Tryd.prog Tryd.f3 false true false false W args v W' := by
  have hW' := hW
  obtain ⟨p, q, hA, hV, rfl, hfz, hnd⟩ := hW
  rw [Tryd.params3] at hA hval
  obtain ⟨v0, vs0, d0, ds0, p0, q0, hargs, rfl, rfl, h0, r0⟩ := trodAll_cons hA
  obtain ⟨v1, vs1, d1, ds1, p1, q1, rfl, rfl, rfl, h1, r1⟩ := trodAll_cons r0
  obtain ⟨rfl, rfl, rfl⟩ := trodAll_nil r1
  obtain rfl : args = #[v0, v1] := by cases args; simp_all
  obtain ⟨cs0, rfl, hz0⟩ := okWide_agg Tryd.underlying30 (hval 0 30 v0 rfl rfl)
  obtain ⟨x0, m0, a0, rt0, lt0, o0, ra0, rb0, rc0, la0, lb0, lc0, rfl, hx0, hv0, b0⟩ := open_V Tryd.underlying30 rfl rfl rfl rfl rfl rfl (by kernel_rfl) (by kernel_rfl) (by kernel_rfl) (by kernel_rfl) (by kernel_rfl) (by kernel_rfl) rfl rfl rfl rfl rfl rfl Tryd.underlying3 Tryd.underlying22 Tryd.underlying23 (by kernel_rfl) (by kernel_rfl) Tryd.underlying26 rfl rfl rfl (by kernel_rfl) (by kernel_rfl) (by kernel_rfl) rfl rfl rfl Tryd.underlying24 Tryd.underlying28 (by kernel_rfl) rfl rfl rfl (by kernel_rfl) (by kernel_rfl) (by kernel_rfl) Tryd.underlying22 Tryd.underlying23 Tryd.underlying23 hz0 rfl h0
  obtain ⟨ao1, n1, c1, rfl⟩ := okWide_slice Tryd.underlying31 (hval 1 31 v1 rfl rfl)
  obtain ⟨l1, hx1, hb1, e1⟩ := open_Byts Tryd.underlying31 Tryd.underlying5 (by kernel_rfl) rfl h1
  have hg := handle_of_laid hL
  have hbulk := bulks.bound hk
  rw [bulks.append] at hbulk
  have len_of : ∀ {d : DataW H} {n : Nat}, (n = 0 ∨ ∃ es sp, d = .slice es sp ∧ es.length = n) → n ≤ Rows.uptoBulk d := by
    intro d n h
    rcases h with rfl | ⟨es, sp, rfl, rfl⟩
    · exact Nat.zero_le _
    · have := bulks.slice_le es sp; omega
  have b1 := len_of (d := d1) (n := l1.length) (by rcases e1 with rfl | ⟨es, sp, e1, e2⟩; exact .inl rfl; exact .inr ⟨es, sp, e1, e2⟩)
  simp only [Rows.uptoBulkAll] at hbulk
  have walk : Calls Tryd.prog 3 #[.agg #[m0, a0, .int .i64 x0.tries, rt0, lt0, o0, ra0, rb0, rc0, la0, lb0, lc0], .slice ao1 n1 c1] W fun e w' => e = .returned (.bool true) ∧ Ext W w' := by
    exact wholeBytes_any W m0 a0 rt0 lt0 o0 ra0 rb0 rc0 la0 lb0 lc0 x0 (.slice ao1 n1 c1) l1 hx0 hv0 (by omega) hg hx1 hb1 (by omega)
  refine walk.mono fun e W' ⟨he, hx'⟩ => ?_
  subst he
  exact ⟨_, rfl, law_post kLaidOut (by kernel_rfl) rfl Tryd.underlying4 rfl hW' rfl hx'⟩

theorem reads (os : Os) {H : Type} (enc : TypeId × Value → H) : ∃ places, DataW.whole enc Tryd.prog ((laidWorld os).forCall (fun _ _ => 0) ⟨#[], #[.agg #[.slice none 0 0, .slice none 0 0, .int .i64 0, .slice none 0 0, .slice none 0 0, .slice none 0 0, .slice none 0 0, .slice none 0 0, .slice none 0 0, .slice none 0 0, .slice none 0 0, .slice none 0 0], .slice none 0 0], []⟩).memory Tryd.f3.params.toList Rows.wholeBytesSpec.vars false #[Value.agg #[.slice none 0 0, .slice none 0 0, .int .i64 0, .slice none 0 0, .slice none 0 0, .slice none 0 0, .slice none 0 0, .slice none 0 0, .slice none 0 0, .slice none 0 0, .slice none 0 0, .slice none 0 0], .slice none 0 0].toList 8 = some ([.agg [.nil, .nil, .lit (.int .i64 0), .agg [.nil, .nil, .nil], .agg [.nil, .nil, .nil], .agg [.nil, .nil, .nil]], .nil], [], places) :=
  ⟨[], by kernel_rfl⟩

set_option maxRecDepth 100000 in
theorem liftedUpto (os : Os) (started : os.Started) (H : Type) (enc : TypeId × Value → H) (F : Stop.Interp) :
    ReturnsInHanded {} Tryd.checked os 3 .any ((Rows.OpenSpec.upto Rows.wholeBytesSpec).preRow enc Tryd.prog Tryd.f3 Rows.wholeBytesUptoRow.domain false Rows.wholeBytesUptoRow.laid) (((Rows.OpenSpec.upto Rows.wholeBytesSpec).at F).post enc Tryd.prog Tryd.f3 false true false false) := by
  obtain ⟨places, hx⟩ := reads os enc
  refine returnsInHanded_of_row (C := Tryd.checked) (s := Rows.OpenSpec.upto Rows.wholeBytesSpec) kOwn started (by kernel_rfl) Tryd.func3
    (witness_row_at (enc := enc) (C := Tryd.checked) false (laidWorld os) #[.agg #[.slice none 0 0, .slice none 0 0, .int .i64 0, .slice none 0 0, .slice none 0 0, .slice none 0 0, .slice none 0 0, .slice none 0 0, .slice none 0 0, .slice none 0 0, .slice none 0 0, .slice none 0 0], .slice none 0 0] rfl (by kernel_rfl) (by kernel_rfl) (by kernel_rfl)
      (OpenSpec.preRow_of_cond 8 hx (by kernel_rfl) (fun k hk => by cases hk; kernel_rfl) (by kernel_rfl) (laidWorld_met os _))) ?_
  intro W base args ds gs before hval hW _ hcond _ hL _ _
  exact contract H enc W base args ds gs before hval hW hL (hcond _ rfl)

theorem saidUpto : Rows.WholeBytesUptoSaid :=
  OpenClaim.holds_of_cond 3 Tryd.f3 rfl rfl rfl rfl rfl rfl rfl ⟨rfl, rfl, rfl, rfl, rfl⟩ rfl rfl rfl rfl rfl (by kernel_rfl) Tryd.func3 (by kernel_rfl)
    (of_decide_eq_true (by kernel_rfl)) (by unfold Func.isWrapper; rw [if_neg (of_decide_eq_false (by kernel_rfl))]; exact ⟨rfl, rfl⟩)
    (fun os started H enc _ F => by rw [OpenClaim.pre_eq_preRow]; exact liftedUpto os started H enc F)

theorem plain (f : FuncId) (fn : Func) (hf : Tryd.pinned.checked.prog.funcNamed "attest/attestlaw8.WholeBytes" = some f) (hfn : Tryd.pinned.checked.prog.funcs[f]? = some fn) :
    true = Tryd.pinned.checked.prog.looks [] ∧ ∀ (j : Nat) t, fn.params[j]? = some t → Tryd.pinned.checked.prog.wantsStandIn t = false := by
  obtain rfl : f = 3 := Option.some.inj ((show Tryd.prog.funcNamed "attest/attestlaw8.WholeBytes" = some 3 by kernel_rfl).symm.trans hf) |>.symm
  obtain rfl : fn = Tryd.f3 := (Option.some.inj (Tryd.func3.symm.trans hfn)).symm
  refine ⟨by kernel_rfl, fun j t ht => ?_⟩
  have hall : Tryd.f3.params.toList.all (fun t => !Tryd.prog.wantsStandIn t) = true := by kernel_rfl
  have := List.all_eq_true.1 hall t (Array.mem_toList_iff.2 (Array.mem_of_getElem? ht))
  exact (show Tryd.prog.wantsStandIn t = false by simpa using this)

/-- The card. -/
theorem cardUpto : Rows.WholeBytesUptoCardSaid :=
  Claim7.holds_tied_plain_at .later [] _ _ _ _ saidUpto (fun _ h => by cases h) (by kernel_rfl) (fun _ h => by cases h) wholeBytesUpto_row_tie rfl ⟨rfl, rfl⟩ (by kernel_rfl) rfl plain (by kernel_rfl)
end Go.Proofs.YthpgmjdepigihaaDoor.wholeBytes
