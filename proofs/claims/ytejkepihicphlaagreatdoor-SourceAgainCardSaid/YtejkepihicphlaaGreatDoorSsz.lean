/- A program as text, the program's side: Print: contract. Printed by wip/mkpr.py. -/
import Derived.Test.YtejkepihicphlaaGreatDoorZx9
namespace Go.Att
theorem prF_len {f : Fn} (h : FnOk f) : (prF f).length + 2 ≤ 64 * weiF f := by
  obtain ⟨m, hm⟩ := fit_B h.body
  have h1 := prT_len f.body hm 0
  have h2 := commaT_len (f.names.map (·.1))
  rw [List.map_map] at h2
  have h3 := sum_le2 (l := f.names) (f := (fun x => List.length x + 2) ∘ fun x => x.1) (g := fun _ => 18) (fun x hx => by have := (h.names x hx).len; show x.1.length + 2 ≤ 18; omega)
  have h4 : ∀ l : List (List UInt8 × Nat), (l.map fun _ => 18).sum = 18 * l.length := fun l => by induction l with
    | nil => rfl
    | cons a r ih => rw [List.map_cons, List.sum_cons, ih, List.length_cons]; omega
  rw [h4] at h3
  have h5 := h.name.len
  unfold prF weiF
  simp; omega
theorem prP_snoc {fs : List Fn} {i : Nat} {f : Fn} (h : fs[i]? = some f) : prP (fs.take (i + 1)) = prP (fs.take i) ++ prF f := by
  unfold prP; rw [List.take_add_one, h]; simp
theorem prP_len {fs : List Fn} (h : ∀ f ∈ fs, FnOk f) : (prP fs).length ≤ 64 * (fs.map weiF).sum := by
  induction fs with
  | nil => simp [prP]
  | cons a r ih =>
    have h1 := prF_len (h a (by simp))
    have h2 := ih fun f hf => h f (by simp [hf])
    have e : prP (a :: r) = prF a ++ prP r := rfl
    rw [e, List.length_append, List.map_cons, List.sum_cons]; omega
theorem sum_take {fs : List Fn} (i : Nat) : ((fs.take i).map weiF).sum ≤ (fs.map weiF).sum := by
  conv => rhs; rw [← List.take_append_drop i fs]
  rw [List.map_append, List.sum_append]; omega
end Go.Att
namespace Go.Proofs.YtejkepihicphlaaGreatDoor
open Go.RowKit Go.Att Go.Shelf
theorem bld_kept {B b : Nat} {l : List UInt8} {w w' : World} (h : Bld B b l w) (hx : Ext w w') : Bld B b l w' := by
  have one : ∀ p, Lib.BuilderAt 80 5 B b p (Lib.byteCells l) w → Lib.BuilderAt 80 5 B b p (Lib.byteCells l) w' := fun p h => by
    have hlt := h.lt
    obtain ⟨h1, v, h2, h3, h4⟩ := h
    exact ⟨h1, v, by rw [hx.below.block b hlt]; exact h2, own_ext h3 hx, h4⟩
  exact h.imp (one _) (one _)
section
variable {w : World}
set_option maxRecDepth 100000 in
set_option maxHeartbeats 8000000 in
theorem sprint_any {fs : List Att.Fn} {lo hi pb : Nat} {fv : Value} (hp : BlkOf w pb [fv] 73) (hfs : fsAt fs lo hi w fv) (htab : Tab10 w) (hok : ∀ f ∈ fs, FnOk f) (hwt : (fs.map weiF).sum ≤ 4000) :
    Calls Tryz.prog 8 #[.pointer (some ⟨pb, 0, none⟩)] w fun e w' => e = .returned (.string ⟨(prP fs).toArray⟩) ∧ Ext w w' := by
  obtain ⟨vs, h1, -, -⟩ := id hfs
  have hs := Sl.of_own h1 (by omega)
  have hl := Sl.run_len (P := Tryz.prog) hs slFns
  have HIX : Hid (∀ i : Nat, i < fs.length → ∀ W : World, (Instr.indexAt 71 fv (.int .i64 i)).run Tryz.prog W = .ok (.pointer (some (elt fv i 1))) W) := Lib.hid (fun i hi W => Sl.run_index hs slFns i (by omega) (by omega) W)
  have hlf : fs.length ≤ 4000 := by
    have : fs.length ≤ (fs.map weiF).sum := by rw [← sum_ones fs]; exact sum_le2 fun f _ => by unfold weiF; omega
    omega
  have HFS := Lib.hid hfs; have HOK := Lib.hid hok; have HWT := Lib.hid hwt; have HTB := Lib.hid htab
  have HX0 := Lib.hid (Ext.alloc w (.cells #[.pointer none, .slice none 0 0] 80))
  have HB0 := Lib.hid (bld_new w)
  have p0 : (w.alloc (.cells #[.pointer none, .slice none 0 0] 80)).cell? ⟨pb, 0, none⟩ = some fv := HX0.out.cell (hp.cell 0)
  clear hp hfs hok hwt htab h1 hs
  go_enter Tryz.func8, Tryz.ntmps8
  go_upto_region 2 with fail
  generalize w.alloc (.cells #[.pointer none, .slice none 0 0] 80) = w0 at *
  obtain ⟨b, hb⟩ : ∃ b, w.heap.size = b := ⟨_, rfl⟩
  rw [hb] at HB0 ⊢
  have HSB := Lib.hid hb
  clear hb
  go_wp2_with fail
  clear p0
  go_loopw [5, 11] (fun _ x11 wr => ∃ i : Nat, i ≤ fs.length ∧ x11 = .int .i64 i ∧ Hid (Bld b b (prP (fs.take i)) wr) ∧ Hid (Ext w wr)) (fun _ x11 _ => fs.length - (intOf x11).toNat)
  case atStart => exact ⟨0, Nat.zero_le _, rfl, HB0, HX0⟩
  case round =>
    clear HB0 HX0
    obtain ⟨i, hi, rfl, HB, HX⟩ := hrel
    have HSZ := Lib.hid (show b ≤ wr.heap.size by rw [← HSB.out]; exact HX.out.size)
    by_cases hlt : i < fs.length
    · have hix := HIX.out i hlt
      obtain ⟨f, hf⟩ : ∃ f, fs[i]? = some f := ⟨_, List.getElem?_eq_getElem hlt⟩
      obtain ⟨u, hfa, hcu⟩ := HFS.out.nth hf
      have hcell := hcu wr HX.out
      have hfm := List.mem_of_getElem? hf
      have hfok := HOK.out f hfm
      have hn16 := hfok.name.len
      obtain ⟨m, hbm⟩ := fit_B hfok.body
      have hwf : weiF f ≤ 4000 := by
        have := wei_each (Nat.le_refl (fs.map weiF).sum) f hfm
        have := HWT.out; omega
      have hlF := prF_len hfok
      have hlP := prP_len (fs := fs.take i) (fun g hg => HOK.out g (List.mem_of_mem_take hg))
      have hst := sum_take (fs := fs) i
      have hws := HWT.out
      obtain ⟨q, nv, bv, av, rfl, -, -, hfb, hfn, -, -, -, hft⟩ := hfa
      have HQ : Hid (∀ W, Ext w W → W.cell? ⟨q, 0, none⟩ = some (.string ⟨f.name.toArray⟩) ∧ W.cell? ⟨q, 1, none⟩ = some nv ∧ W.cell? ⟨q, 2, none⟩ = some bv) := Lib.hid (fun W hx => by
        have h := BlkOf.ext hfb hx
        exact ⟨h.cell 0, h.cell 1, h.cell 2⟩)
      obtain ⟨CM, hCM⟩ : ∃ CM, commaT (f.names.map (·.1)) = CM := ⟨_, rfl⟩
      obtain ⟨BD, hBD⟩ : ∃ BD, prT f.body 0 = BD := ⟨_, rfl⟩
      have hPF : ((((([102, 110, 32] ++ f.name) ++ [40]) ++ CM) ++ [41, 32, 61, 32]) ++ BD) ++ [10] = prF f := by unfold prF; rw [hCM, hBD]
      have hcml : CM.length ≤ 1000000 := by have := congrArg List.length hPF; simp at this; omega
      have hbdl : BD.length ≤ 1000000 := by have := congrArg List.length hPF; simp at this; omega
      have hnl : f.names.length ≤ 4000 := by unfold weiF at hwf; omega
      have HJ : Hid (∀ W, Ext w W → Calls Tryz.prog 28 #[nv, .string ⟨#[44, 32]⟩] W fun e w' => e = .returned (.string ⟨CM.toArray⟩) ∧ Ext W w') := Lib.hid (fun W hx => by
        rw [← hCM]
        refine cjoin_any ?_ (by simp; omega) (by rw [hCM]; omega)
        have ho := own_kept hfn (hx.grownBy none) (fun A hA e => by cases e)
        unfold Strs
        rw [List.length_map, List.map_map]
        exact Sl.of_own ho (by omega))
      have HTX : Hid (∀ W, Ext w W → Calls Tryz.prog 29 #[bv, .int .i64 0] W fun e w' => e = .returned (.string ⟨BD.toArray⟩) ∧ Ext W w') := Lib.hid (fun W hx => by
        rw [← hBD]
        exact stext_any (least := 0) f.body hbm (hft.ext hx) (Tab10.ext HTB.out hx) (by unfold weiF at hwf; omega))
      have HPF := Lib.hid hPF
      have HSN := Lib.hid (prP_snoc hf)
      have hbt : (prP (fs.take i)).length + (prF f).length ≤ 10000000 := by omega
      clear hf hcu hfm hfok hbm hfb hfn hft hCM hBD hPF hlF hlP hst hws
      go_upto_region 5 with fail
      clear hcell hix
      refine wp_region_ext 20 [SP.eq (.pointer (some ⟨q, 0, none⟩)), SP.eq (.pointer (some ⟨q, 0, none⟩)), SP.eq (.pointer (some ⟨q, 0, none⟩)), SP.eq (.string ⟨(f.name).toArray⟩), SP.eq (.string ⟨([102, 110, 32] ++ f.name).toArray⟩), SP.eq (.string ⟨(([102, 110, 32] ++ f.name) ++ [40]).toArray⟩), SP.eq (.pointer (some ⟨q, 0, none⟩)), SP.eq (.pointer (some ⟨q, 0, none⟩)), SP.eq (.pointer (some ⟨q, 1, none⟩)), SP.eq nv, SP.eq (.string ⟨(CM).toArray⟩), SP.eq (.string ⟨((([102, 110, 32] ++ f.name) ++ [40]) ++ CM).toArray⟩), SP.eq (.string ⟨(((([102, 110, 32] ++ f.name) ++ [40]) ++ CM) ++ [41, 32, 61, 32]).toArray⟩), SP.eq (.pointer (some ⟨q, 0, none⟩)), SP.eq (.pointer (some ⟨q, 0, none⟩)), SP.eq (.pointer (some ⟨q, 2, none⟩)), SP.eq bv, SP.eq (.string ⟨(BD).toArray⟩), SP.eq (.string ⟨((((([102, 110, 32] ++ f.name) ++ [40]) ++ CM) ++ [41, 32, 61, 32]) ++ BD).toArray⟩), SP.eq (.string ⟨(((((([102, 110, 32] ++ f.name) ++ [40]) ++ CM) ++ [41, 32, 61, 32]) ++ BD) ++ [10]).toArray⟩)] (by kernel_rfl) (by kernel_rfl) (by kernel_rfl) ?_ ?_
      · refine ⟨?_, ?_, ?_, ?_, ?_, ?_, ?_, ?_, ?_, ?_, ?_, ?_, ?_, ?_, ?_, ?_, ?_, ?_, ?_, ?_, trivial⟩
        · refine ExtStep.mk rfl fun vs W hx hd => ?_
          clear hd
          simp only [fillA, fillL, dstL, List.take_succ_cons, List.take_zero, List.filterMap_cons, List.filterMap_nil, List.contains_cons, List.contains_nil, Nat.reduceAdd, Nat.zero_add, Nat.reduceBEq, Bool.or_false, Bool.or_true, Bool.false_eq_true, ↓reduceIte]
          go_wp2_with fail
          exact ⟨by trivial, Ext.refl _, rfl⟩
        · refine ExtStep.mk rfl fun vs W hx hd => ?_
          have e15 : vs 15 = (.pointer (some ⟨q, 0, none⟩)) := hd 0 (by kernel_rfl)
          clear hd
          simp only [fillA, fillL, dstL, List.take_succ_cons, List.take_zero, List.filterMap_cons, List.filterMap_nil, List.contains_cons, List.contains_nil, Nat.reduceAdd, Nat.zero_add, Nat.reduceBEq, Bool.or_false, Bool.or_true, Bool.false_eq_true, ↓reduceIte]
          rw [e15]
          go_wp2_with fail
          exact ⟨by trivial, Ext.refl _, rfl⟩
        · refine ExtStep.mk rfl fun vs W hx hd => ?_
          have e16 : vs 16 = (.pointer (some ⟨q, 0, none⟩)) := hd 1 (by kernel_rfl)
          clear hd
          simp only [fillA, fillL, dstL, List.take_succ_cons, List.take_zero, List.filterMap_cons, List.filterMap_nil, List.contains_cons, List.contains_nil, Nat.reduceAdd, Nat.zero_add, Nat.reduceBEq, Bool.or_false, Bool.or_true, Bool.false_eq_true, ↓reduceIte]
          rw [e16]
          go_wp2_with fail
          exact ⟨by trivial, Ext.refl _, rfl⟩
        · refine ExtStep.mk rfl fun vs W hx hd => ?_
          have e17 : vs 17 = (.pointer (some ⟨q, 0, none⟩)) := hd 2 (by kernel_rfl)
          clear hd
          simp only [fillA, fillL, dstL, List.take_succ_cons, List.take_zero, List.filterMap_cons, List.filterMap_nil, List.contains_cons, List.contains_nil, Nat.reduceAdd, Nat.zero_add, Nat.reduceBEq, Bool.or_false, Bool.or_true, Bool.false_eq_true, ↓reduceIte]
          rw [e17]
          have hk := HQ.out W (HX.out.trans hx)
          obtain ⟨k0, k1, k2⟩ := hk
          go_wp2_with fail
          exact ⟨by trivial, Ext.refl _, rfl⟩
        · refine ExtStep.mk rfl fun vs W hx hd => ?_
          have e18 : vs 18 = (.string ⟨(f.name).toArray⟩) := hd 3 (by kernel_rfl)
          clear hd
          simp only [fillA, fillL, dstL, List.take_succ_cons, List.take_zero, List.filterMap_cons, List.filterMap_nil, List.contains_cons, List.contains_nil, Nat.reduceAdd, Nat.zero_add, Nat.reduceBEq, Bool.or_false, Bool.or_true, Bool.false_eq_true, ↓reduceIte]
          rw [e18]
          go_wp2_with fail
          exact ⟨by trivial, Ext.refl _, congrArg Value.string (by apply ByteArray.ext; simp)⟩
        · refine ExtStep.mk rfl fun vs W hx hd => ?_
          have e19 : vs 19 = (.string ⟨([102, 110, 32] ++ f.name).toArray⟩) := hd 4 (by kernel_rfl)
          clear hd
          simp only [fillA, fillL, dstL, List.take_succ_cons, List.take_zero, List.filterMap_cons, List.filterMap_nil, List.contains_cons, List.contains_nil, Nat.reduceAdd, Nat.zero_add, Nat.reduceBEq, Bool.or_false, Bool.or_true, Bool.false_eq_true, ↓reduceIte]
          rw [e19]
          go_wp2_with fail
          exact ⟨by trivial, Ext.refl _, congrArg Value.string (by apply ByteArray.ext; simp)⟩
        · refine ExtStep.mk rfl fun vs W hx hd => ?_
          clear hd
          simp only [fillA, fillL, dstL, List.take_succ_cons, List.take_zero, List.filterMap_cons, List.filterMap_nil, List.contains_cons, List.contains_nil, Nat.reduceAdd, Nat.zero_add, Nat.reduceBEq, Bool.or_false, Bool.or_true, Bool.false_eq_true, ↓reduceIte]
          go_wp2_with fail
          exact ⟨by trivial, Ext.refl _, rfl⟩
        · refine ExtStep.mk rfl fun vs W hx hd => ?_
          have e21 : vs 21 = (.pointer (some ⟨q, 0, none⟩)) := hd 6 (by kernel_rfl)
          clear hd
          simp only [fillA, fillL, dstL, List.take_succ_cons, List.take_zero, List.filterMap_cons, List.filterMap_nil, List.contains_cons, List.contains_nil, Nat.reduceAdd, Nat.zero_add, Nat.reduceBEq, Bool.or_false, Bool.or_true, Bool.false_eq_true, ↓reduceIte]
          rw [e21]
          go_wp2_with fail
          exact ⟨by trivial, Ext.refl _, rfl⟩
        · refine ExtStep.mk rfl fun vs W hx hd => ?_
          have e22 : vs 22 = (.pointer (some ⟨q, 0, none⟩)) := hd 7 (by kernel_rfl)
          clear hd
          simp only [fillA, fillL, dstL, List.take_succ_cons, List.take_zero, List.filterMap_cons, List.filterMap_nil, List.contains_cons, List.contains_nil, Nat.reduceAdd, Nat.zero_add, Nat.reduceBEq, Bool.or_false, Bool.or_true, Bool.false_eq_true, ↓reduceIte]
          rw [e22]
          go_wp2_with fail
          exact ⟨by trivial, Ext.refl _, rfl⟩
        · refine ExtStep.mk rfl fun vs W hx hd => ?_
          have e23 : vs 23 = (.pointer (some ⟨q, 1, none⟩)) := hd 8 (by kernel_rfl)
          clear hd
          simp only [fillA, fillL, dstL, List.take_succ_cons, List.take_zero, List.filterMap_cons, List.filterMap_nil, List.contains_cons, List.contains_nil, Nat.reduceAdd, Nat.zero_add, Nat.reduceBEq, Bool.or_false, Bool.or_true, Bool.false_eq_true, ↓reduceIte]
          rw [e23]
          have hk := HQ.out W (HX.out.trans hx)
          obtain ⟨k0, k1, k2⟩ := hk
          go_wp2_with fail
          exact ⟨by trivial, Ext.refl _, rfl⟩
        · refine ExtStep.mk rfl fun vs W hx hd => ?_
          have e24 : vs 24 = nv := hd 9 (by kernel_rfl)
          clear hd
          simp only [fillA, fillL, dstL, List.take_succ_cons, List.take_zero, List.filterMap_cons, List.filterMap_nil, List.contains_cons, List.contains_nil, Nat.reduceAdd, Nat.zero_add, Nat.reduceBEq, Bool.or_false, Bool.or_true, Bool.false_eq_true, ↓reduceIte]
          rw [e24]
          go_wp2_with (go_at_call 28; refine (HJ.out W (HX.out.trans hx)).mono ?_; rintro e w9 ⟨rfl, hx9⟩)
          exact ⟨by trivial, hx9, rfl⟩
        · refine ExtStep.mk rfl fun vs W hx hd => ?_
          have e20 : vs 20 = (.string ⟨(([102, 110, 32] ++ f.name) ++ [40]).toArray⟩) := hd 5 (by kernel_rfl)
          have e25 : vs 25 = (.string ⟨(CM).toArray⟩) := hd 10 (by kernel_rfl)
          clear hd
          simp only [fillA, fillL, dstL, List.take_succ_cons, List.take_zero, List.filterMap_cons, List.filterMap_nil, List.contains_cons, List.contains_nil, Nat.reduceAdd, Nat.zero_add, Nat.reduceBEq, Bool.or_false, Bool.or_true, Bool.false_eq_true, ↓reduceIte]
          rw [e20, e25]
          go_wp2_with fail
          exact ⟨by trivial, Ext.refl _, congrArg Value.string (by apply ByteArray.ext; simp)⟩
        · refine ExtStep.mk rfl fun vs W hx hd => ?_
          have e26 : vs 26 = (.string ⟨((([102, 110, 32] ++ f.name) ++ [40]) ++ CM).toArray⟩) := hd 11 (by kernel_rfl)
          clear hd
          simp only [fillA, fillL, dstL, List.take_succ_cons, List.take_zero, List.filterMap_cons, List.filterMap_nil, List.contains_cons, List.contains_nil, Nat.reduceAdd, Nat.zero_add, Nat.reduceBEq, Bool.or_false, Bool.or_true, Bool.false_eq_true, ↓reduceIte]
          rw [e26]
          go_wp2_with fail
          exact ⟨by trivial, Ext.refl _, congrArg Value.string (by apply ByteArray.ext; simp)⟩
        · refine ExtStep.mk rfl fun vs W hx hd => ?_
          clear hd
          simp only [fillA, fillL, dstL, List.take_succ_cons, List.take_zero, List.filterMap_cons, List.filterMap_nil, List.contains_cons, List.contains_nil, Nat.reduceAdd, Nat.zero_add, Nat.reduceBEq, Bool.or_false, Bool.or_true, Bool.false_eq_true, ↓reduceIte]
          go_wp2_with fail
          exact ⟨by trivial, Ext.refl _, rfl⟩
        · refine ExtStep.mk rfl fun vs W hx hd => ?_
          have e28 : vs 28 = (.pointer (some ⟨q, 0, none⟩)) := hd 13 (by kernel_rfl)
          clear hd
          simp only [fillA, fillL, dstL, List.take_succ_cons, List.take_zero, List.filterMap_cons, List.filterMap_nil, List.contains_cons, List.contains_nil, Nat.reduceAdd, Nat.zero_add, Nat.reduceBEq, Bool.or_false, Bool.or_true, Bool.false_eq_true, ↓reduceIte]
          rw [e28]
          go_wp2_with fail
          exact ⟨by trivial, Ext.refl _, rfl⟩
        · refine ExtStep.mk rfl fun vs W hx hd => ?_
          have e29 : vs 29 = (.pointer (some ⟨q, 0, none⟩)) := hd 14 (by kernel_rfl)
          clear hd
          simp only [fillA, fillL, dstL, List.take_succ_cons, List.take_zero, List.filterMap_cons, List.filterMap_nil, List.contains_cons, List.contains_nil, Nat.reduceAdd, Nat.zero_add, Nat.reduceBEq, Bool.or_false, Bool.or_true, Bool.false_eq_true, ↓reduceIte]
          rw [e29]
          go_wp2_with fail
          exact ⟨by trivial, Ext.refl _, rfl⟩
        · refine ExtStep.mk rfl fun vs W hx hd => ?_
          have e30 : vs 30 = (.pointer (some ⟨q, 2, none⟩)) := hd 15 (by kernel_rfl)
          clear hd
          simp only [fillA, fillL, dstL, List.take_succ_cons, List.take_zero, List.filterMap_cons, List.filterMap_nil, List.contains_cons, List.contains_nil, Nat.reduceAdd, Nat.zero_add, Nat.reduceBEq, Bool.or_false, Bool.or_true, Bool.false_eq_true, ↓reduceIte]
          rw [e30]
          have hk := HQ.out W (HX.out.trans hx)
          obtain ⟨k0, k1, k2⟩ := hk
          go_wp2_with fail
          exact ⟨by trivial, Ext.refl _, rfl⟩
        · refine ExtStep.mk rfl fun vs W hx hd => ?_
          have e31 : vs 31 = bv := hd 16 (by kernel_rfl)
          clear hd
          simp only [fillA, fillL, dstL, List.take_succ_cons, List.take_zero, List.filterMap_cons, List.filterMap_nil, List.contains_cons, List.contains_nil, Nat.reduceAdd, Nat.zero_add, Nat.reduceBEq, Bool.or_false, Bool.or_true, Bool.false_eq_true, ↓reduceIte]
          rw [e31]
          go_wp2_with (go_at_call 29; refine (HTX.out W (HX.out.trans hx)).mono ?_; rintro e w9 ⟨rfl, hx9⟩)
          exact ⟨by trivial, hx9, rfl⟩
        · refine ExtStep.mk rfl fun vs W hx hd => ?_
          have e27 : vs 27 = (.string ⟨(((([102, 110, 32] ++ f.name) ++ [40]) ++ CM) ++ [41, 32, 61, 32]).toArray⟩) := hd 12 (by kernel_rfl)
          have e32 : vs 32 = (.string ⟨(BD).toArray⟩) := hd 17 (by kernel_rfl)
          clear hd
          simp only [fillA, fillL, dstL, List.take_succ_cons, List.take_zero, List.filterMap_cons, List.filterMap_nil, List.contains_cons, List.contains_nil, Nat.reduceAdd, Nat.zero_add, Nat.reduceBEq, Bool.or_false, Bool.or_true, Bool.false_eq_true, ↓reduceIte]
          rw [e27, e32]
          go_wp2_with fail
          exact ⟨by trivial, Ext.refl _, congrArg Value.string (by apply ByteArray.ext; simp)⟩
        · refine ExtStep.mk rfl fun vs W hx hd => ?_
          have e33 : vs 33 = (.string ⟨((((([102, 110, 32] ++ f.name) ++ [40]) ++ CM) ++ [41, 32, 61, 32]) ++ BD).toArray⟩) := hd 18 (by kernel_rfl)
          clear hd
          simp only [fillA, fillL, dstL, List.take_succ_cons, List.take_zero, List.filterMap_cons, List.filterMap_nil, List.contains_cons, List.contains_nil, Nat.reduceAdd, Nat.zero_add, Nat.reduceBEq, Bool.or_false, Bool.or_true, Bool.false_eq_true, ↓reduceIte]
          rw [e33]
          go_wp2_with fail
          exact ⟨by trivial, Ext.refl _, congrArg Value.string (by apply ByteArray.ext; simp)⟩
      · intro vs W5 hx5 hall
        have e34 : vs 34 = (.string ⟨(((((([102, 110, 32] ++ f.name) ++ [40]) ++ CM) ++ [41, 32, 61, 32]) ++ BD) ++ [10]).toArray⟩) := hall.at 19 (by omega) rfl
        have HX5 := Lib.hid (HX.out.trans hx5)
        have HB5 := Lib.hid (bld_kept HB.out hx5)
        have HS5 := Lib.hid (Nat.le_trans HSZ.out hx5.size)
        clear hall hx5
        simp only [fillA, fillL, dstL, List.take_succ_cons, List.take_zero, List.filterMap_cons, List.filterMap_nil, List.contains_cons, List.contains_nil, Nat.reduceAdd, Nat.zero_add, Nat.reduceBEq, Bool.or_false, Bool.or_true, Bool.false_eq_true, ↓reduceIte]
        rw [e34, HPF.out]
        have CW := Lib.hid (pwrite_any (prF f) HB5.out (by omega) HS5.out)
        go_wp2_with fail
        refine CW.out.mono ?_
        rintro e w9 ⟨rfl, hb9, hw9⟩
        have HX9 : Hid (Ext w w9) := Lib.hid (by
          have h : Below w.heap.size W5 w9 := by rw [HSB.out]; exact hw9
          exact Below.trans HX5.out h)
        have HB9 := Lib.hid hb9
        clear hb9 hw9
        go_wp2_with fail
        go_roundw
        case rel => exact ⟨i + 1, by omega, by go_num, Lib.hid (by rw [HSN.out]; exact HB9.out), HX9⟩
        case measure => simp [intOf]; omega
    · obtain rfl : i = fs.length := by omega
      rw [List.take_length] at HB
      have CT := Lib.hid (ptext_any HB.out HSZ.out)
      go_wp2_with fail
      refine CT.out.mono ?_
      rintro e w9 ⟨rfl, hw9⟩
      go_wp2_with fail
      go_ret
      exact ⟨rfl, by
        have h : Below w.heap.size wr w9 := by rw [HSB.out]; exact hw9
        exact Below.trans HX.out h⟩
end
end Go.Proofs.YtejkepihicphlaaGreatDoor
