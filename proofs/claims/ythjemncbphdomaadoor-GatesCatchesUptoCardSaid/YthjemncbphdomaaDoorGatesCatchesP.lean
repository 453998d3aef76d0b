/- GatesCatches: for arguments of bulk at most 1048576 the law returns true, and each argument reads afterwards as it did; the listed variable is tied to the program's text. No other condition. -/
import Derived.Test.YthjemncbphdomaaDoorGatesCatches
import Derived.Test.YthjemncbphdomaaDoorHandle
import Derived.Test.YthjemncbphdomaaDoorBulk
import Derived.Test.YthjemncbphdomaaDoorCards
import Derived.Test.YthjemncbphdomaaDoorTie
import Derived.Test.YthjemncbphdomaaDoorBk
namespace Go.Proofs.YthjemncbphdomaaDoor.gatesCatches
open Go.ChangeShapes Go.WideShapes Go.ChangeAt Go.RowKit Go.Att

set_option maxRecDepth 100000 in
theorem contract (H : Type) (enc : TypeId × Value → H) (W : World) (base : Nat) (args : Array Value) (ds gs : List (DataW H)) (before : List MemPlace)
    (hval : ∀ (j : Nat) t v, Tryd.f11.params[j]? = some t → args[j]? = some v → Value.okWide Tryd.prog W .any base t v)
    (hW : DataW.Whole enc Tryd.prog Tryd.f11.params.toList Rows.gatesCatchesSpec.vars false W args.toList ds gs before) (hL : laidMetH Tryd.prog Rows.gatesCatchesUptoRow.laid W) (hk : Rows.uptoSmall H (ds ++ gs) = true) :
    Calls Tryd.prog 11 args W fun e W' => ∃ v, e = .returned v ∧ Rows.gatesCatchesSpec.post enc Tryd.prog Tryd.f11 false true false false W args v W' := by
  have hW' := hW
  obtain ⟨p, q, hA, hV, rfl, hfz, hnd⟩ := hW
  rw [Tryd.params11] at hA hval
  obtain ⟨v0, vs0, d0, ds0, p0, q0, hargs, rfl, rfl, h0, r0⟩ := trodAll_cons hA
  obtain ⟨v1, vs1, d1, ds1, p1, q1, rfl, rfl, rfl, h1, r1⟩ := trodAll_cons r0
  obtain ⟨v2, vs2, d2, ds2, p2, q2, rfl, rfl, rfl, h2, r2⟩ := trodAll_cons r1
  obtain ⟨v3, vs3, d3, ds3, p3, q3, rfl, rfl, rfl, h3, r3⟩ := trodAll_cons r2
  obtain ⟨v4, vs4, d4, ds4, p4, q4, rfl, rfl, rfl, h4, r4⟩ := trodAll_cons r3
  obtain ⟨v5, vs5, d5, ds5, p5, q5, rfl, rfl, rfl, h5, r5⟩ := trodAll_cons r4
  obtain ⟨v6, vs6, d6, ds6, p6, q6, rfl, rfl, rfl, h6, r6⟩ := trodAll_cons r5
  obtain ⟨v7, vs7, d7, ds7, p7, q7, rfl, rfl, rfl, h7, r7⟩ := trodAll_cons r6
  obtain ⟨v8, vs8, d8, ds8, p8, q8, rfl, rfl, rfl, h8, r8⟩ := trodAll_cons r7
  obtain ⟨rfl, rfl, rfl⟩ := trodAll_nil r8
  obtain rfl : args = #[v0, v1, v2, v3, v4, v5, v6, v7, v8] := by cases args; simp_all
  obtain ⟨x0, rfl, rfl, rfl, _⟩ := open_int Tryd.underlying3 (hval 0 3 v0 rfl rfl) h0
  obtain ⟨cs1, rfl, hz1⟩ := okWide_agg Tryd.underlying80 (hval 1 80 v1 rfl rfl)
  obtain ⟨x1, sv1, da1, db1, pb1, fu1, rfl, rfl, hs1⟩ := open_pair Tryd.underlying80 rfl rfl (by kernel_rfl) (by kernel_rfl) Tryd.underlying3 hz1 rfl h1
  obtain ⟨l1, R1, hx1, e1⟩ := open_LysF Tryd.underlying78 Tryd.underlying89 Tryd.underlying104 (by kernel_rfl) (by kernel_rfl) rfl rfl rfl (by kernel_rfl) (by kernel_rfl) (by kernel_rfl) Tryd.underlying3 Tryd.underlying3 Tryd.underlying3 hs1
  obtain ⟨x2, rfl, rfl, rfl, _⟩ := open_int Tryd.underlying3 (hval 2 3 v2 rfl rfl) h2
  obtain ⟨ao3, n3, c3, rfl⟩ := okWide_slice Tryd.underlying23 (hval 3 23 v3 rfl rfl)
  obtain ⟨ao4, n4, c4, rfl⟩ := okWide_slice Tryd.underlying23 (hval 4 23 v4 rfl rfl)
  obtain ⟨ao5, n5, c5, rfl⟩ := okWide_slice Tryd.underlying23 (hval 5 23 v5 rfl rfl)
  obtain ⟨ao6, n6, c6, rfl⟩ := okWide_slice Tryd.underlying23 (hval 6 23 v6 rfl rfl)
  obtain ⟨ao7, n7, c7, rfl⟩ := okWide_slice Tryd.underlying23 (hval 7 23 v7 rfl rfl)
  obtain ⟨ao8, n8, c8, rfl⟩ := okWide_slice Tryd.underlying23 (hval 8 23 v8 rfl rfl)
  obtain ⟨l3, hx3, e3⟩ := open_Ints Tryd.underlying23 Tryd.underlying3 (by kernel_rfl) rfl h3
  obtain ⟨l4, hx4, e4⟩ := open_Ints Tryd.underlying23 Tryd.underlying3 (by kernel_rfl) rfl h4
  obtain ⟨l5, hx5, e5⟩ := open_Ints Tryd.underlying23 Tryd.underlying3 (by kernel_rfl) rfl h5
  obtain ⟨l6, hx6, e6⟩ := open_Ints Tryd.underlying23 Tryd.underlying3 (by kernel_rfl) rfl h6
  obtain ⟨l7, hx7, e7⟩ := open_Ints Tryd.underlying23 Tryd.underlying3 (by kernel_rfl) rfl h7
  obtain ⟨l8, hx8, e8⟩ := open_Ints Tryd.underlying23 Tryd.underlying3 (by kernel_rfl) rfl h8
  have hg := handle_of_laid hL
  have hbulk := bulks.bound hk
  rw [bulks.append] at hbulk
  have len_of : ∀ {d : DataW H} {n : Nat}, (n = 0 ∨ ∃ es sp, d = .slice es sp ∧ es.length = n) → n ≤ Rows.uptoBulk d := by
    intro d n h
    rcases h with rfl | ⟨es, sp, rfl, rfl⟩
    · exact Nat.zero_le _
    · have := bulks.slice_le es sp; omega
  have b3 := len_of (d := d3) (n := l3.length) (by rcases e3 with rfl | ⟨es, sp, e1, e2⟩; exact .inl rfl; exact .inr ⟨es, sp, e1, e2⟩)
  have b4 := len_of (d := d4) (n := l4.length) (by rcases e4 with rfl | ⟨es, sp, e1, e2⟩; exact .inl rfl; exact .inr ⟨es, sp, e1, e2⟩)
  have b5 := len_of (d := d5) (n := l5.length) (by rcases e5 with rfl | ⟨es, sp, e1, e2⟩; exact .inl rfl; exact .inr ⟨es, sp, e1, e2⟩)
  have b6 := len_of (d := d6) (n := l6.length) (by rcases e6 with rfl | ⟨es, sp, e1, e2⟩; exact .inl rfl; exact .inr ⟨es, sp, e1, e2⟩)
  have b7 := len_of (d := d7) (n := l7.length) (by rcases e7 with rfl | ⟨es, sp, e1, e2⟩; exact .inl rfl; exact .inr ⟨es, sp, e1, e2⟩)
  have b8 := len_of (d := d8) (n := l8.length) (by rcases e8 with rfl | ⟨es, sp, e1, e2⟩; exact .inl rfl; exact .inr ⟨es, sp, e1, e2⟩)
  simp only [Rows.uptoBulkAll] at hbulk
  have walk : Calls Tryd.prog 11 #[.int .i64 x0, .agg #[.int .i64 x1, sv1], .int .i64 x2, .slice ao3 n3 c3, .slice ao4 n4 c4, .slice ao5 n5 c5, .slice ao6 n6 c6, .slice ao7 n7 c7, .slice ao8 n8 c8] W fun e w' => e = .returned (.bool true) ∧ Ext W w' := by
    by_cases hok : okP x0
    · by_cases hb : 200 < x0
      · exact gatesCatches_big x0 _ _ _ _ _ _ _ _ W x1 sv1 rfl hok hb hg
      · have hp200 : x0 ≤ 200 := by omega
        by_cases hE : walkErr x1 l1 l3.length = 0
        · by_cases hP : partErr x1 l1 l3.length x2 l4.length 0 = 0
          · obtain ⟨i, hi⟩ := Int.eq_ofNat_of_zero_le (of_decide_eq_true (partErr_ok hP).2.1).1
            subst hi
            by_cases hQ : partErr x1 l1 l3.length i l4.length 1 = 0
            · by_cases h3 : l5.length = 3
              · by_cases hG : fadd x0 (nth l5 0) (nth l5 1) = partV x0 x1 l1 l3 i l4 []
                · exact gatesCatches_c x0 x1 sv1 _ _ _ _ _ _ l1 R1 l3 l4 l5 l6 l7 l8 i W hok hg hp200 hx1 hx3 hx4 hx5 hx6 hx7 hx8 hE i rfl hP hQ h3 hG
                · exact gatesCatches_d x0 x1 sv1 _ _ _ _ _ _ l1 R1 l3 l4 l5 l6 l7 l8 i W hok hg hp200 hx1 hx3 hx4 hx5 hx6 hx7 hx8 hE i rfl hP hQ h3 hG
              · exact gatesCatches_b x0 x1 sv1 _ _ _ _ _ _ l1 R1 l3 l4 l5 l6 l7 l8 i W hok hg hp200 hx1 hx3 hx4 hx5 hx6 hx7 hx8 hE i rfl hP hQ h3
            · exact gatesCatches_a x0 x1 sv1 _ _ _ _ _ _ l1 R1 l3 l4 l5 l6 l7 l8 i W hok hg hp200 hx1 hx3 hx4 hx5 hx6 hx7 hx8 hE i rfl hP hQ
          · exact gatesCatches_p x0 x1 sv1 _ _ _ _ _ _ l1 R1 l3 l4 l5 l6 l7 l8 x2 W hok hg hp200 hx1 hx3 hx4 hx5 hx6 hx7 hx8 hE hP
        · exact gatesCatches_w x0 x1 sv1 _ _ _ _ _ _ l1 R1 l3 l4 l5 l6 l7 l8 x2 W hok hg hp200 hx1 hx3 hx4 hx5 hx6 hx7 hx8 hE
    · exact gatesCatches_bad x0 _ _ _ _ _ _ _ _ W x1 sv1 rfl hok hg
  refine walk.mono fun e W' ⟨he, hx'⟩ => ?_
  subst he
  exact ⟨_, rfl, law_post kLaidOut (by kernel_rfl) rfl Tryd.underlying4 rfl hW' rfl hx'⟩

theorem reads (os : Os) {H : Type} (enc : TypeId × Value → H) : ∃ places, DataW.whole enc Tryd.prog ((laidWorld os).forCall (fun _ _ => 0) ⟨#[], #[.int .i64 0, .agg #[.int .i64 0, .slice none 0 0], .int .i64 0, .slice none 0 0, .slice none 0 0, .slice none 0 0, .slice none 0 0, .slice none 0 0, .slice none 0 0], []⟩).memory Tryd.f11.params.toList Rows.gatesCatchesSpec.vars false #[Value.int .i64 0, .agg #[.int .i64 0, .slice none 0 0], .int .i64 0, .slice none 0 0, .slice none 0 0, .slice none 0 0, .slice none 0 0, .slice none 0 0, .slice none 0 0].toList 8 = some ([.lit (.int .i64 0), .agg [.lit (.int .i64 0), .nil], .lit (.int .i64 0), .nil, .nil, .nil, .nil, .nil, .nil], [], places) :=
  ⟨[], by kernel_rfl⟩

set_option maxRecDepth 100000 in
theorem liftedUpto (os : Os) (started : os.Started) (H : Type) (enc : TypeId × Value → H) (F : Stop.Interp) :
    ReturnsInHanded {} Tryd.checked os 11 .any ((Rows.OpenSpec.upto Rows.gatesCatchesSpec).preRow enc Tryd.prog Tryd.f11 Rows.gatesCatchesUptoRow.domain false Rows.gatesCatchesUptoRow.laid) (((Rows.OpenSpec.upto Rows.gatesCatchesSpec).at F).post enc Tryd.prog Tryd.f11 false true false false) := by
  obtain ⟨places, hx⟩ := reads os enc
  refine returnsInHanded_of_row (C := Tryd.checked) (s := Rows.OpenSpec.upto Rows.gatesCatchesSpec) kOwn started (by kernel_rfl) Tryd.func11
    (witness_row_at (enc := enc) (C := Tryd.checked) false (laidWorld os) #[.int .i64 0, .agg #[.int .i64 0, .slice none 0 0], .int .i64 0, .slice none 0 0, .slice none 0 0, .slice none 0 0, .slice none 0 0, .slice none 0 0, .slice none 0 0] rfl (by kernel_rfl) (by kernel_rfl) (by kernel_rfl)
      (OpenSpec.preRow_of_cond 8 hx (by kernel_rfl) (fun k hk => by cases hk; kernel_rfl) (by kernel_rfl) (laidWorld_met os _))) ?_
  intro W base args ds gs before hval hW _ hcond _ hL _ _
  exact contract H enc W base args ds gs before hval hW hL (hcond _ rfl)

theorem saidUpto : Rows.GatesCatchesUptoSaid :=
  OpenClaim.holds_of_cond 11 Tryd.f11 rfl rfl rfl rfl rfl rfl rfl ⟨rfl, rfl, rfl, rfl, rfl⟩ rfl rfl rfl rfl rfl (by kernel_rfl) Tryd.func11 (by kernel_rfl)
    (of_decide_eq_true (by kernel_rfl)) (by unfold Func.isWrapper; rw [if_neg (of_decide_eq_false (by kernel_rfl))]; exact ⟨rfl, rfl⟩)
    (fun os started H enc _ F => by rw [OpenClaim.pre_eq_preRow]; exact liftedUpto os started H enc F)

theorem plain (f : FuncId) (fn : Func) (hf : Tryd.pinned.checked.prog.funcNamed "attest/attestlaw10.GatesCatches" = some f) (hfn : Tryd.pinned.checked.prog.funcs[f]? = some fn) :
    true = Tryd.pinned.checked.prog.looks [] ∧ ∀ (j : Nat) t, fn.params[j]? = some t → Tryd.pinned.checked.prog.wantsStandIn t = false := by
  obtain rfl : f = 11 := Option.some.inj ((show Tryd.prog.funcNamed "attest/attestlaw10.GatesCatches" = some 11 by kernel_rfl).symm.trans hf) |>.symm
  obtain rfl : fn = Tryd.f11 := (Option.some.inj (Tryd.func11.symm.trans hfn)).symm
  refine ⟨by kernel_rfl, fun j t ht => ?_⟩
  have hall : Tryd.f11.params.toList.all (fun t => !Tryd.prog.wantsStandIn t) = true := by kernel_rfl
  have := List.all_eq_true.1 hall t (Array.mem_toList_iff.2 (Array.mem_of_getElem? ht))
  exact (show Tryd.prog.wantsStandIn t = false by simpa using this)

/-- The card. -/
theorem cardUpto : Rows.GatesCatchesUptoCardSaid :=
  Claim7.holds_tied_plain_at .later [] _ _ _ _ saidUpto (fun _ h => by cases h) (by kernel_rfl) (fun _ h => by cases h) gatesCatchesUpto_row_tie rfl ⟨rfl, rfl⟩ (by kernel_rfl) rfl plain (by kernel_rfl)
end Go.Proofs.YthjemncbphdomaaDoor.gatesCatches
