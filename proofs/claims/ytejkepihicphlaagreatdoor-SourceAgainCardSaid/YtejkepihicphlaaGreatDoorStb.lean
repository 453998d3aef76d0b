/- How many parts and names a program has: Weight: contract. -/
import Derived.Test.YtejkepihicphlaaGreatDoorZx10
import Derived.Test.YtejkepihicphlaaGreatDoorZx11
namespace Go.Att
open Go.RowKit
theorem weiP_snoc {fs : List Fn} {i : Nat} {f : Fn} (h : fs[i]? = some f) : weiP (fs.take (i + 1)) = weiP (fs.take i) + (f.names.length + weiT f.body) := by
  unfold weiP; rw [List.take_add_one, h]; simp
theorem weiP_take (fs : List Fn) (i : Nat) : weiP (fs.take i) ≤ weiP fs := by
  unfold weiP
  conv => rhs; rw [← List.take_append_drop i fs]
  rw [List.map_append, List.sum_append]; omega
def mkD (D : Nat) : Deferred := { target := .collected D, args := #[] }
theorem leaves_many {F : Fence} {n : Nat} {P : Program} {fn : Func} {tmps : Array Value} {R : Ending → World → Prop} {w0 : World} (hR : ∀ w', Ext w0 w' → LeavesInM F n P fn tmps R [] .returning w') :
    ∀ (Ds : List Nat) (w : World), Ds.Nodup → (∀ D ∈ Ds, w0.heap.size ≤ D ∧ w.heap[D]? = some (.deferred (some []))) → Ext w0 w → LeavesInM F n P fn tmps R (Ds.map mkD) .returning w
  | [], w, _, _, hx => hR w hx
  | D :: Ds, w, hn, hD, hx => by
    obtain ⟨hD1, hD2⟩ := hD D (by simp)
    refine ⟨by simp, .inl ⟨D, _, rfl, run_takeDeferred hD2, ?_⟩⟩
    have hg := grownBy_putObj' w D (.deferred none)
    refine leaves_many hR Ds _ (List.nodup_cons.1 hn).2 (fun E hE => ⟨(hD E (by simp [hE])).1, ?_⟩) (Below.grown hx hg hx.size (fun q e => by have := Option.some.inj e; omega))
    have h2 := (hD E (by simp [hE])).2
    rw [hg.block E (Array.getElem?_eq_some_iff.1 h2).1 (fun e => (List.nodup_cons.1 hn).1 (by cases e; exact hE))]
    exact h2
end Go.Att
namespace Go.Proofs.YtejkepihicphlaaGreatDoor
open Go.RowKit Go.Att Go.Shelf
attribute [local go_sem] Oper.semAt_some
set_option maxRecDepth 100000 in
set_option maxHeartbeats 8000000 in
theorem sweight_any {w : World} {fs : List Att.Fn} {lo hi pb : Nat} {fv : Value} (hp : BlkOf w pb [fv] 73) (hfs : fsAt fs lo hi w fv) (hh : hi ≤ w.heap.size) (hwt : (fs.map weiF).sum ≤ 4000) :
    Calls Tryz.prog 9 #[.pointer (some ⟨pb, 0, none⟩)] w fun e w' => e = .returned (.int .i64 (weiP fs)) ∧ Ext w w' := by
  obtain ⟨vs, h1, -, -⟩ := id hfs
  have hs := Sl.of_own h1 (by omega)
  have hl := Sl.run_len (P := Tryz.prog) hs slFns
  have HIX : Hid (∀ i : Nat, i < fs.length → ∀ W : World, (Instr.indexAt 71 fv (.int .i64 i)).run Tryz.prog W = .ok (.pointer (some (elt fv i 1))) W) := Lib.hid (fun i hi W => Sl.run_index hs slFns i (by omega) (by omega) W)
  have hlf : fs.length ≤ 4000 := by
    have : fs.length ≤ (fs.map weiF).sum := by
      clear hwt hl hs HIX h1 hfs hh
      induction fs with
      | nil => simp
      | cons f r ih => rw [List.map_cons, List.sum_cons, List.length_cons]; unfold weiF at ih ⊢; omega
    omega
  have HFS := Lib.hid hfs; have HWT := Lib.hid (Nat.le_trans (weiP_le (fs := fs)) hwt); have HH := Lib.hid hh
  have HX0 := Lib.hid (Ext.alloc w (.cells #[.int .i64 0] 3))
  have HN0 := Lib.hid (BlkOf.new w [.int .i64 0] 3)
  have p0 : (w.alloc (.cells #[.int .i64 0] 3)).cell? ⟨pb, 0, none⟩ = some fv := HX0.out.cell (hp.cell 0)
  clear hp hfs h1 hs hwt hh
  refine (callsIn_wide (n := 3)).1 ?_
  refine callsIn_of_wp_marks Tryz.func9 rfl trivial ?_ rfl
  simp only [Tryz.ntmps9, List.size_toArray, List.length_cons, List.length_nil, Nat.reduceAdd, Nat.reduceSub, Array.replicate_succ, Array.replicate_zero, List.push_toArray, List.append_toArray, List.nil_append, List.cons_append]
  gi_wp2
  clear p0 hl
  refine wpIn_loop (fun a W => ∃ (j : Nat) (Ds : List Nat) (u5 u12 u13 u14 u15 u16 u17 u18 u19 u20 u21 u22 u23 u24 u25 u26 u30 : Value), j ≤ fs.length ∧ Hid (BlkOf W w.heap.size [.int .i64 (weiP (fs.take j))] 3) ∧ Hid (Ext w W) ∧ Hid (Ds.Nodup ∧ ∀ D ∈ Ds, w.heap.size ≤ D ∧ W.heap[D]? = some (.deferred (some []))) ∧
      a = { tmps := #[.pointer (some ⟨pb, 0, none⟩), undef, .int .i64 0, .pointer (some ⟨w.heap.size, 0, none⟩), undef, u5, .pointer (some ⟨pb, 0, none⟩), .pointer (some ⟨pb, 0, none⟩), .pointer (some ⟨pb, 0, none⟩), fv, .int .i64 fs.length, .int .i64 j, u12, u13, u14, u15, u16, u17, u18, u19, u20, u21, u22, u23, u24, u25, u26, undef, undef, undef, u30, undef], defers := Ds.map mkD }) (fun a _ => fs.length - (intOf (a.tmps.getD 11 undef)).toNat) ⟨0, [], undef, undef, undef, undef, undef, undef, undef, undef, undef, undef, undef, undef, undef, undef, undef, undef, undef, Nat.zero_le _, HN0, HX0, Lib.hid ⟨List.nodup_nil, by simp⟩, rfl⟩ ?_
  clear HN0 HX0
  rintro _ wr ⟨j, Ds, u5, u12, u13, u14, u15, u16, u17, u18, u19, u20, u21, u22, u23, u24, u25, u26, u30, hj, HB, HX, HD, rfl⟩
  by_cases hlt : j < fs.length
  · have hix := HIX.out j hlt
    obtain ⟨f, hf⟩ : ∃ f, fs[j]? = some f := ⟨_, List.getElem?_eq_getElem hlt⟩
    obtain ⟨u, hfa, hcu⟩ := HFS.out.nth hf
    have hcell := hcu wr HX.out
    obtain ⟨q, nv, bv, av, rfl, -, hqh, hb, hn, -, -, -, ht⟩ := id hfa
    obtain ⟨qb, rfl, -, hqb⟩ := ht.ptr
    have f1 : wr.cell? ⟨q, 1, none⟩ = some nv := HX.out.cell (hb.cell 1)
    have HF2 : Hid (∀ W, Ext w W → W.cell? ⟨q, 2, none⟩ = some (.pointer (some ⟨qb, 0, none⟩))) := Lib.hid (fun W hx => hx.cell (hb.cell 2))
    have l1 := Sl.run_len (P := Tryz.prog) (Sl.of_own hn (by omega)) slStrs
    have n0 : wr.cell? ⟨w.heap.size, 0, none⟩ = some (.int .i64 (weiP (fs.take j))) := HB.out.cell 0
    have n1 := HB.out.free 0
    have HSN := Lib.hid (weiP_snoc hf)
    have HW1 := Lib.hid (weiP_take fs (j + 1))
    have hbig : weiP (fs.take j) + f.names.length ≤ 4000 := by have := HSN.out; have := HW1.out; have := HWT.out; omega
    have HT := Lib.hid ht
    clear hcu hfa hb hn ht hf
    generalize weiP (fs.take j) = B at *
    generalize hnl : f.names.length = m at *
    gi_wp2
    refine wpIn_wide.2 (wp_region_quiet_tail 7 (by kernel_rfl) (by kernel_rfl) ?_)
    simp only [List.take_succ_cons, List.take_zero, List.drop_succ_cons, List.drop_zero]
    repeat (go_big_quiet_step (fail))
    refine wpQuiet_nil ?_
    rintro _ ⟨nq, rfl⟩
    clear hix hcell f1 l1
    have HB1 := Lib.hid (HB.out.ext (Ext.drewN wr nq))
    have HX1 := Lib.hid (HX.out.trans (Ext.drewN wr nq))
    have HD1 : Hid (∀ D ∈ Ds, w.heap.size ≤ D ∧ (wr.drewN nq).heap[D]? = some (.deferred (some []))) := Lib.hid (fun D hD => ⟨(HD.out.2 D hD).1, by have := (HD.out.2 D hD).2; rw [(Ext.drewN wr nq).below.block D (Array.getElem?_eq_some_iff.1 this).1]; exact this⟩)
    have HDN := Lib.hid HD.out.1
    clear HB HX HD n0 n1
    generalize wr.drewN nq = wd at *
    have n0 : wd.cell? ⟨w.heap.size, 0, none⟩ = some (.int .i64 B) := HB1.out.cell 0
    have n1 := HB1.out.free 0
    go_wp2_with fail
    have HB2 := Lib.hid (HB1.out.set 0 (.int .i64 ((B : Int) + (m : Int))))
    have hg1 := setCell_grown wd w.heap.size 0 (.int .i64 ((B : Int) + (m : Int)))
    have HX2 := Lib.hid (show Ext w (wd.setCell ⟨w.heap.size, 0, none⟩ (.int .i64 ((B : Int) + (m : Int)))) from Below.grown HX1.out.below hg1 HX1.out.size (fun k e => by cases e; omega))
    have HD2 : Hid (∀ D ∈ Ds, w.heap.size ≤ D ∧ (wd.setCell ⟨w.heap.size, 0, none⟩ (.int .i64 ((B : Int) + (m : Int)))).heap[D]? = some (.deferred (some []))) := Lib.hid (fun D hD => by
      obtain ⟨h1, h2⟩ := HD1.out D hD
      refine ⟨h1, ?_⟩
      rw [hg1.block D (Array.getElem?_eq_some_iff.1 h2).1 (fun e => ?_)]
      · exact h2
      · have e2 := Option.some.inj e
        have h3 := HB1.out
        unfold BlkOf at h3
        rw [← e2, h2] at h3
        cases h3)
    clear HB1 HX1 HD1 n0 n1 hg1
    generalize wd.setCell ⟨w.heap.size, 0, none⟩ (.int .i64 ((B : Int) + (m : Int))) = wn at *
    have f2 := HF2.out wn HX2.out
    gi_wp2_with (refine ⟨trivial, ?_⟩; gi_at_call 31; refine (callsIn_wide.2 (parts_any _ _)).mono ?_; rintro e w2 ⟨rfl, hw2⟩; have HW2 := Lib.hid hw2; clear hw2)
    have hw2 := HW2.out
    clear HW2
    have HB3 := Lib.hid (show BlkOf w2 w.heap.size _ _ from by rw [hw2]; exact HB2.out.ext (Ext.alloc _ _))
    have HX3 := Lib.hid (show Ext w w2 from by rw [hw2]; exact HX2.out.trans (Ext.alloc _ _))
    have HD3 : Hid (∀ D ∈ Ds, w.heap.size ≤ D ∧ w2.heap[D]? = some (.deferred (some []))) := Lib.hid (fun D hD => by
      obtain ⟨h1, h2⟩ := HD2.out D hD
      exact ⟨h1, by rw [hw2, (Ext.alloc wn _).below.block D (Array.getElem?_eq_some_iff.1 h2).1]; exact h2⟩)
    have hb0 : w2.cell? ⟨wn.heap.size, 0, none⟩ = some (.pointer (some ⟨qb, 0, none⟩)) := by rw [hw2]; exact cell_new wn #[.pointer (some ⟨qb, 0, none⟩)] 83 0
    clear HB2 HX2 HD2 hw2 f2
    have hwb : weiT f.body ≤ 4000 := by have := HSN.out; have := HW1.out; have := HWT.out; omega
    refine wpIn_rangeFunc_ownF rfl (by omega) (gf := 71) (lb := #[.pointer (some ⟨wn.heap.size, 0, none⟩)]) rfl trivial (enters_of Tryz.func71 (by kernel_rfl) rfl)
      (parts_stops hb0 (HT.out.ext HX3.out) (Nat.le_trans HH.out HX3.out.size) hwb (3 - 1)) (fun h k => belowK_t h k) (belowK_b (Nat.le_trans HH.out HX3.out.size)) (Below.refl _ _) (fun _ => rfl)
      (fun pre W => BlkOf W w.heap.size [.int .i64 ((B : Int) + (m : Int) + (pre.length : Int))] 3 ∧ Ext w W ∧ ∀ D ∈ Ds, w.heap.size ≤ D ∧ W.heap[D]? = some (.deferred (some [])))
      (fun _ _ _ => False)
      ?own
      (fun _ _ _ _ _ hs _ _ => hs)
      ⟨by simpa using HB3.out, HX3.out, HD3.out⟩
      (fun x => { tmps := #[.pointer (some ⟨pb, 0, none⟩), undef, .int .i64 0, .pointer (some ⟨w.heap.size, 0, none⟩), undef, .pointer (some ⟨q, 0, none⟩), .pointer (some ⟨pb, 0, none⟩), .pointer (some ⟨pb, 0, none⟩), .pointer (some ⟨pb, 0, none⟩), fv, .int .i64 fs.length, .int .i64 j, .bool true, .pointer (some (elt fv j 1)), .pointer (some ⟨q, 0, none⟩), .int .i64 B, .pointer (some ⟨q, 0, none⟩), .pointer (some ⟨q, 0, none⟩), .pointer (some ⟨q, 1, none⟩), nv, .int .i64 m, .int .i64 ((B : Int) + (m : Int)), .pointer (some ⟨q, 0, none⟩), .pointer (some ⟨q, 0, none⟩), .pointer (some ⟨q, 2, none⟩), .pointer (some ⟨qb, 0, none⟩), .func (.func 71) #[] #[.pointer (some ⟨wn.heap.size, 0, none⟩)], x, undef, undef, u30, undef], defers := [] }) ?assign ?body ?done ?stop
    case own =>
      rintro pre A B' row ⟨h1, h2, h3⟩ hg hr
      have hlt : w.heap.size < w2.heap.size := HB3.out.lt
      refine ⟨h1.grown hg (fun e => by have := (hr _ e.symm).1; omega), Below.grown h2.below hg h2.size (fun k e => by have := (hr k e).1; omega), fun D hD => ?_⟩
      obtain ⟨h4, h5⟩ := h3 D hD
      refine ⟨h4, ?_⟩
      have hDl : D < w2.heap.size := (Array.getElem?_eq_some_iff.1 (HD3.out D hD).2).1
      rw [hg.block D (Array.getElem?_eq_some_iff.1 h5).1 (fun e => by have := (hr _ e.symm).1; omega)]
      exact h5
    case assign =>
      intro l x W K hK
      gi_wp2
      simpa using hK
    case body =>
      rintro l0 pre x W ⟨h1, h2, h3⟩ hlen
      have n0 : W.cell? ⟨w.heap.size, 0, none⟩ = some (.int .i64 ((B : Int) + (m : Int) + (pre.length : Int))) := h1.cell 0
      have n1 := h1.free 0
      have hb4 : B + m + pre.length + 1 ≤ 8000 := by omega
      have HCB := Lib.hid (show ∀ o, W.heap[w.heap.size]? = some o → o.isCells = true from fun o ho => by
        have h2' := h1
        unfold BlkOf at h2'
        rw [h2'] at ho
        cases ho; rfl)
      have H1 := Lib.hid h1; have H2 := Lib.hid h2; have H3 := Lib.hid h3
      clear h1 h2 h3
      gi_wp2
      have hgf := setCell_grown W w.heap.size 0 (.int .i64 ((B : Int) + (m : Int) + (pre.length : Int) + 1))
      refine ⟨KeepsOthers.of_grownBy hgf (fun j o e hj => by cases e; exact HCB.out o hj), (Below.refl hi W).setCell (p := ⟨w.heap.size, 0, none⟩) HH.out _, ?_, Below.grown H2.out.below hgf H2.out.size (fun k e => by cases e; omega), fun D hD => ?_⟩
      · have := H1.out.set 0 (.int .i64 ((B : Int) + (m : Int) + (pre.length : Int) + 1))
        rw [List.length_append, List.length_singleton]
        push_cast
        rw [← Int.add_assoc]
        exact this
      · obtain ⟨h4, h5⟩ := H3.out D hD
        refine ⟨h4, ?_⟩
        rw [hgf.block D (Array.getElem?_eq_some_iff.1 h5).1 (fun e => ?_)]
        · exact h5
        · have e2 := Option.some.inj e
          rw [e2] at h5
          have := HCB.out _ h5
          cases this
    case done =>
      rintro D xs W hD hxl ⟨h1, h2, h3⟩ hK
      have HB4 := Lib.hid (show BlkOf W w.heap.size [.int .i64 (weiP (fs.take (j + 1)))] 3 from by rw [HSN.out, ← hxl]; push_cast; rw [← Int.add_assoc]; exact h1)
      have HX4 := Lib.hid h2
      have HD4 : Hid ((D :: Ds).Nodup ∧ ∀ E ∈ D :: Ds, w.heap.size ≤ E ∧ W.heap[E]? = some (.deferred (some []))) := Lib.hid ⟨List.nodup_cons.2 ⟨fun hm => by have := (Array.getElem?_eq_some_iff.1 (HD3.out D hm).2).1; omega, HDN.out⟩, fun E hE => by
        rcases List.mem_cons.1 hE with e | e
        · subst e; exact ⟨Nat.le_trans HX3.out.size hD, hK⟩
        · exact h3 E e⟩
      clear h1 h2 h3 hK HB3 HX3 HD3 hb0
      gi_wp2
      refine ⟨⟨j + 1, D :: Ds, _, _, _, _, _, _, _, _, _, _, _, _, _, _, _, _, _, hlt, HB4, HX4, HD4, by push_cast; rfl⟩, ?_⟩
      simp [intOf]
      omega
    case stop =>
      rintro D c pre W _ _ h _
      exact h.elim
  · obtain rfl : j = fs.length := by omega
    rw [List.take_length] at HB
    have n0 : wr.cell? ⟨w.heap.size, 0, none⟩ = some (.int .i64 (weiP fs)) := HB.out.cell 0
    gi_wp2
    exact leaves_many (fun w' hx => ⟨_, results_tmp rfl _ _ _, rfl, hx⟩) Ds wr HD.out.1 HD.out.2 HX.out
end Go.Proofs.YtejkepihicphlaaGreatDoor
