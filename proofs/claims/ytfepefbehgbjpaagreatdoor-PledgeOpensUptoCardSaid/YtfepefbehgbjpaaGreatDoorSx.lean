/- The sponge, the program's side: the digest of a list: contract. -/
import Derived.Test.YtfepefbehgbjpaaGreatDoorZx10
import Derived.Test.YtfepefbehgbjpaaGreatDoorZx11
import Derived.Maps.AppendAt
namespace Go.Att
open Go.RowKit
def absF (p : Int) (k : Nat) (m : List Int) {c : Nat} (pre : List (Fin c)) : List Int := pre.foldl (fun x i => permP p k (absP p m i.1 x) 8) (List.replicate 8 0)
theorem absF_snoc (p : Int) (k : Nat) (m : List Int) {c : Nat} (pre : List (Fin c)) (i : Fin c) : absF p k m (pre ++ [i]) = permP p k (absP p m i.1 (absF p k m pre)) 8 := by unfold absF; rw [List.foldl_append]; rfl
theorem absF_length (p : Int) (k : Nat) (m : List Int) {c : Nat} (pre : List (Fin c)) : (absF p k m pre).length = 8 := by
  rcases List.eq_nil_or_concat pre with rfl | ⟨l, x, rfl⟩
  · rfl
  · rw [List.concat_eq_append, absF_snoc]; exact permP_length _ _ (absP_length _ _ _ _) _
theorem absF_upF (p : Int) (k : Nat) (m : List Int) (c : Nat) : ∀ (j : Nat) (h : j ≤ c), absF p k m (upF c j h) = hashS p k m j
  | 0, _ => rfl
  | j + 1, h => by rw [upF, absF_snoc, absF_upF p k m c j]; rfl
theorem cutV_block (v : Value) (i j : Nat) : (cutV v i j).ownBlock = v.ownBlock := by
  unfold cutV
  split
  · rename_i a _ _
    unfold sliced
    cases a with
    | none => simp [Value.ownBlock]
    | some a =>
      split
      · rfl
      · simp only [Option.map_some, Value.ownBlock, Addr.add]; split <;> rfl
  · rfl
theorem part_nth (m : List Int) (i t : Nat) (h : i * 4 + 4 ≤ m.length) (ht : t < 4) : nth ((m.drop (i * 4)).take (i * 4 + 4 - i * 4)) t = nth m (4 * i + t) := by
  rw [nth_eq (by simp; omega), nth_eq (by omega), List.getElem_take, List.getElem_drop]
  congr 1; omega
theorem row8_grown (W : World) (q : Nat) (a0 a1 a2 a3 a4 a5 a6 a7 : Int) :
    W.grownBy ((((((((W.setCell ⟨q, 0, none⟩ (.int .i64 a0)).setCell ⟨q, 1, none⟩ (.int .i64 a1)).setCell ⟨q, 2, none⟩ (.int .i64 a2)).setCell ⟨q, 3, none⟩ (.int .i64 a3)).setCell ⟨q, 4, none⟩ (.int .i64 a4)).setCell ⟨q, 5, none⟩ (.int .i64 a5)).setCell ⟨q, 6, none⟩ (.int .i64 a6)).setCell ⟨q, 7, none⟩ (.int .i64 a7)) (some q) :=
  (((((((setCell_grown W q 0 _).trans (setCell_grown _ q 1 _)).trans (setCell_grown _ q 2 _)).trans (setCell_grown _ q 3 _)).trans (setCell_grown _ q 4 _)).trans (setCell_grown _ q 5 _)).trans (setCell_grown _ q 6 _)).trans (setCell_grown _ q 7 _)
theorem blk_ints4 {w : World} {b : Nat} {Y : List Int} {t : TypeId} (h : BlkOf w b (c8 Y) t) (hY : Y.length = 8) : Ints w (.slice (some ⟨b, 0, none⟩) 4 4) (Y.take 4) := by
  have h4 : (Y.take 4).length = 4 := by simp [hY]
  refine ⟨some ⟨b, 0, none⟩, 4, by rw [h4], by simp, by omega, by unfold maxLen; omega, fun i hi => ⟨b, 0, rfl, ?_⟩⟩
  have hi4 : i < 4 := by rw [List.length_map, h4] at hi; exact hi
  rw [Nat.zero_add, h.cell i, c8_at Y i (by omega), nth_eq (by omega)]
  simp
theorem new_at {w : World} {b o n c : Nat} (h : w.heap.size ≤ b) : NewIn w (.slice (some ⟨b, o, none⟩) n c) := fun q hq => by
  have : b = q := Option.some.inj hq
  omega
theorem ownFrom_of {β : Type} {B : Nat} {I : β → World → Prop} (h : ∀ s W W' row, I s W → W.grownBy W' row → (∀ r, row = some r → B ≤ r) → I s W') : OwnFrom B I := fun s W W' row hs hg hr => h s W W' row hs hg fun r e => (hr r e).1
end Go.Att
namespace Go.Proofs.YtfepefbehgbjpaaGreatDoor
open Go.RowKit Go.Att Go.Shelf
attribute [local go_sem] Oper.semAt_some
section
variable {w : World} {b bf k : Nat} {p g rt : Int} {fs : List Int}
set_option maxRecDepth 100000 in
set_option maxHeartbeats 8000000 in
theorem hash_any (hs : SpB w b (.pointer (some ⟨bf, 0, none⟩)) k rt (fun r j => finv p ((r : Int) + j + 8))) (hf : Fld w (.pointer (some ⟨bf, 0, none⟩)) p g fs) (hk : (k : Int) ≤ 9223372036854775807) (v : Value) (l : List Int) (hv : Ints w v l) (hl : l.length ≤ 4294967000) :
    Calls Tryz.prog 71 #[.pointer (some ⟨b, 0, none⟩), v] w (Gives w fun u w' => Ints w' u (hashP p k l) ∧ NewIn w u) := by
  have HS := Lib.hid hs; have HF := Lib.hid hf; have HV := Lib.hid hv
  have hx0 := (Ext.alloc w (Obj.cells #[.pointer (some ⟨b, 0, none⟩)] 23)).trans (Ext.alloc _ (Obj.cells #[.int .i64 0, .int .i64 0, .int .i64 0, .int .i64 0, .int .i64 0, .int .i64 0, .int .i64 0, .int .i64 0] 109))
  have HX0 := Lib.hid hx0
  have hbx := (BlkOf.new (w.alloc (Obj.cells #[.pointer (some ⟨b, 0, none⟩)] 23)) (c8 (List.replicate 8 0)) 109)
  rw [World.size_alloc] at hbx
  have HBX := Lib.hid (show BlkOf ((w.alloc (Obj.cells #[.pointer (some ⟨b, 0, none⟩)] 23)).alloc (Obj.cells #[.int .i64 0, .int .i64 0, .int .i64 0, .int .i64 0, .int .i64 0, .int .i64 0, .int .i64 0, .int .i64 0] 109)) (w.heap.size + 1) (c8 (List.replicate 8 0)) 109 from hbx)
  have hbs := (Ext.alloc (w.alloc (Obj.cells #[.pointer (some ⟨b, 0, none⟩)] 23)) (Obj.cells #[.int .i64 0, .int .i64 0, .int .i64 0, .int .i64 0, .int .i64 0, .int .i64 0, .int .i64 0, .int .i64 0] 109)).cell (cell_new w #[.pointer (some ⟨b, 0, none⟩)] 23 0)
  have HBS := Lib.hid hbs
  have hlm : (padP p l).length = (padP p l).length / 4 * 4 := by have := padP_four p l; omega
  have hlb : (padP p l).length ≤ 4294967296 := by rw [padP_length]; unfold padN; omega
  have hh : hashP p k l = (hashS p k (padP p l) ((padP p l).length / 4)).take 4 := rfl
  obtain ⟨m, hm⟩ : ∃ m, padP p l = m := ⟨_, rfl⟩
  rw [hm] at hlm hlb hh
  generalize m.length / 4 = c at hlm hh
  have HM := Lib.hid hm; have HLM := Lib.hid hlm; have HH := Lib.hid hh; have HLB := Lib.hid hlb
  obtain ⟨N, hN⟩ : ∃ N, m.length = N := ⟨_, rfl⟩
  have HN := Lib.hid hN
  clear hs hf hv hx0 hbx hbs hm hlm hh hlb hN
  obtain ⟨W0, hW0⟩ : ∃ W0, W0 = ((w.alloc (Obj.cells #[.pointer (some ⟨b, 0, none⟩)] 23)).alloc (Obj.cells #[.int .i64 0, .int .i64 0, .int .i64 0, .int .i64 0, .int .i64 0, .int .i64 0, .int .i64 0, .int .i64 0] 109)) := ⟨_, rfl⟩
  have hs0 : W0.heap.size = w.heap.size + 2 := by rw [hW0]; simp
  have HS0 := Lib.hid hs0
  clear hs0
  refine (callsIn_wide (n := 3)).1 ?_
  refine callsIn_of_wp_marks Tryz.func71 rfl trivial ?_ rfl
  simp only [Tryz.ntmps71, List.size_toArray, List.length_cons, List.length_nil, Nat.reduceAdd, Nat.reduceSub, Array.replicate_succ, Array.replicate_zero, List.push_toArray, List.append_toArray, List.nil_append, List.cons_append]
  gi_wp2_with (first | (refine ⟨trivial, ?_⟩; gi_at_call 119; refine (callsIn_wide.2 (pad_any (HS.out.ext HX0.out).c0 (HF.out.ext HX0.out) v l (HV.out.ext HX0.out) hl)).mono ?_; rw [HM.out]; rintro e w1 ⟨v1, rfl, hx1, hi1, hn1⟩; have HX1 := Lib.hid hx1; have HI1 := Lib.hid hi1; have HOL0 := Lib.hid (ints_lt9 hi1 (by rw [← HM.out, padP_length]; omega)); have HN1 := Lib.hid hn1; obtain ⟨a1, c1, hv1⟩ := hi1.shape; rw [HN.out] at hv1; subst hv1; clear hx1 hi1 hn1) | (refine ⟨trivial, ?_⟩; gi_at_call 74; refine (callsIn_wide.2 (chunk_any a1 N c1 4 (by omega) _)).mono ?_; rintro e w2 ⟨rfl, hw2⟩; have HW2 := Lib.hid hw2; clear hw2))
  have hw2 := HW2.out
  have hx2 : Ext w1 w2 := by rw [hw2]; exact (Ext.alloc _ _).trans (Ext.alloc _ _)
  have hB0 : w2.cell? ⟨w1.heap.size, 0, none⟩ = some (.slice a1 N c1) := by rw [hw2]; exact (Ext.alloc _ _).cell (cell_new w1 #[.slice a1 N c1] _ 0)
  have hB1 : w2.cell? ⟨w1.heap.size + 1, 0, none⟩ = some (.int .i64 (4 : Nat)) := by rw [hw2]; have := cell_new (w1.alloc (.cells #[.slice a1 N c1] 22)) #[.int .i64 (4 : Nat)] 3 0; rw [World.size_alloc] at this; exact this
  have hs2 : w2.heap.size = w1.heap.size + 2 := by rw [hw2]; simp
  have hs1 : w.heap.size + 2 ≤ w1.heap.size := by rw [← HS0.out, hW0]; exact HX1.out.size
  rw [← hW0] at HX0 HBX HBS HX1 HN1
  have HOL := Lib.hid (show ∀ q, (Value.slice a1 N c1).ownBlock = some q → q < w1.heap.size from HOL0.out)
  clear hw2 hW0 HW2
  have HXX := Lib.hid ((HX0.out.trans HX1.out).trans hx2)
  have HX2 := Lib.hid hx2
  refine wpIn_rangeFunc_ownF rfl (by omega) (gf := 124) (lb := #[.pointer (some ⟨w1.heap.size, 0, none⟩), .pointer (some ⟨w1.heap.size + 1, 0, none⟩)]) rfl trivial (enters_of Tryz.func124 (by kernel_rfl) rfl)
    (chunk_stops w1.heap.size 4 c (.slice a1 N c1) m (by omega) HLM.out HLB.out hB0 hB1 (HI1.out.ext hx2) (3 - 1) (by omega)) (fun h k => KpC.trans h k) (KpC.putObj (by omega)) (Below.refl _ _) (fun _ => rfl)
    (fun pre W => W.cell? ⟨w.heap.size, 0, none⟩ = some (.pointer (some ⟨b, 0, none⟩)) ∧ BlkOf W (w.heap.size + 1) (c8 (absF p k m pre)) 109 ∧ Ints W (.slice a1 N c1) m ∧ Ext w W)
    (fun _ _ _ => False)
    (ownFrom_of ?own)
    (fun _ _ _ _ _ hs _ _ => hs)
    ⟨(HX1.out.trans hx2).cell HBS.out, HBX.out.ext (HX1.out.trans hx2), HI1.out.ext hx2, HXX.out⟩
    (fun x => { tmps := #[.pointer (some ⟨b, 0, none⟩), v, .pointer (some ⟨w.heap.size, 0, none⟩), undef, .slice none 0 0, .pointer (some ⟨w.heap.size + 1, 0, none⟩), cutV (.slice a1 N c1) (x.1 * 4) (x.1 * 4 + 4), undef, undef, .pointer (some ⟨b, 0, none⟩), v, .slice a1 N c1, .func (.func 124) #[] #[.pointer (some ⟨w1.heap.size, 0, none⟩), .pointer (some ⟨w1.heap.size + 1, 0, none⟩)], cutV (.slice a1 N c1) (x.1 * 4) (x.1 * 4 + 4), undef, undef, undef, undef, undef, undef, undef, undef, undef, undef, undef, undef, undef, undef, undef, undef, undef, undef, undef, undef, undef, undef, undef], defers := [] }) ?assign ?body ?done ?stop
  case own =>
    rintro pre A B row ⟨h1, h2, h3, h4⟩ hg hr
    have hne : ∀ q, q < w2.heap.size → some q ≠ row := fun q hq e => by have := hr q e.symm; omega
    refine ⟨hg.cell h1 (hne _ (by show w.heap.size < _; omega)), h2.grown hg (hne _ (by omega)), h3.grown hg fun q hq => hne _ ?_, Below.grown h4.below hg h4.size (fun q e => by have := hr q e; omega)⟩
    have := HOL.out q hq
    omega
  case assign =>
    intro l x W K hK
    gi_wp2
    exact hK
  case body =>
    rintro l0 pre x W ⟨h1, h2, h3, h4⟩ hlen
    have hx4 : x.1 * 4 + 4 ≤ m.length := by rw [HLM.out]; have := x.2; omega
    have hp := h3.cut (x.1 * 4) (x.1 * 4 + 4) (by omega) hx4
    have hpn := fun t => part_nth m x.1 t hx4
    have hpl : ((m.drop (x.1 * 4)).take (x.1 * 4 + 4 - x.1 * 4)).length = 4 := by simp; omega
    obtain ⟨pl, hpl0⟩ : ∃ pl, (m.drop (x.1 * 4)).take (x.1 * 4 + 4 - x.1 * 4) = pl := ⟨_, rfl⟩
    rw [hpl0] at hp hpl hpn
    have hlp := hp.run_len (P := Tryz.prog) slInts
    rw [hpl] at hlp
    have HPO := Lib.hid (show ∀ q, (cutV (.slice a1 N c1) (x.1 * 4) (x.1 * 4 + 4)).ownBlock = some q → some q ≠ some (w.heap.size + 1) from fun q hq e => by
      rw [cutV_block] at hq
      have := HN1.out q hq
      rw [HS0.out] at this
      have := Option.some.inj e
      omega)
    have HPL := Lib.hid hpl; have HPN := Lib.hid hpn; have HP := Lib.hid hp
    have H1 := Lib.hid h1; have H2 := Lib.hid h2; have H3 := Lib.hid h3; have H4 := Lib.hid h4
    have HLX := Lib.hid (absF_length p k m pre)
    have hsn := absF_snoc p k m pre x
    generalize absF p k m pre = X at *
    obtain ⟨X2, hX2⟩ : ∃ X2, permP p k (absP p m x.1 X) 8 = X2 := ⟨_, rfl⟩
    rw [hX2] at hsn
    have HSN := Lib.hid hsn; have HX2 := Lib.hid hX2
    have HCB := Lib.hid (show ∀ o, W.heap[w.heap.size + 1]? = some o → o.isCells = true from fun o ho => by
      have h2' := H2.out
      unfold BlkOf at h2'
      rw [h2'] at ho
      cases ho; rfl)
    clear hsn hX2
    generalize hpv : cutV (.slice a1 N c1) (x.1 * 4) (x.1 * 4 + 4) = pv at *
    have H20 := Lib.hid (show BlkOf W (w.heap.size + 1) (c8 (absU p m x.1 X 0)) 109 from by rw [absU_zero p m x.1 X HLX.out]; exact H2.out)
    clear hx4 hp hpn hpl hpl0 h1 h2 h3 h4 H2 hpv
    gi_wp2
    gi_loopw [7, 8, 16] (fun _ _ x16 wq => ∃ t : Nat, t ≤ 4 ∧ x16 = .int .i64 t ∧ Hid (BlkOf wq (w.heap.size + 1) (c8 (absU p m x.1 X t)) 109) ∧ Hid (W.grownBy wq (some (w.heap.size + 1)))) (fun _ _ x16 _ => 4 - (intOf x16).toNat)
    case atStart => exact ⟨0, by omega, rfl, H20, Lib.hid (World.grownBy.refl _ _)⟩
    case round =>
      clear H20 hlp
      obtain ⟨t, ht, rfl, HBX, HG⟩ := hrel
      have HXW := Lib.hid (show Ext w wr from Below.grown H4.out.below HG.out H4.out.size (fun q e => by cases e; omega))
      have hcs := HG.out.cell H1.out (show some w.heap.size ≠ some (w.heap.size + 1) from fun e => by have := Option.some.inj e; omega)
      by_cases ht4 : t < 4
      · have HPQ := Lib.hid (HP.out.grown HG.out HPO.out)
        have hix := HPQ.out.run_index (P := Tryz.prog) slInts t (by rw [HPL.out]; exact ht4)
        have hcp := HPQ.out.cell t (by rw [HPL.out]; exact ht4)
        rw [HPN.out t ht4] at hcp
        have hp1 := fun w' => ptr8 (w.heap.size + 1) 0 t (by omega) w'
        simp only [Nat.zero_add] at hp1
        have d1 : wr.cell? ⟨w.heap.size + 1, t, none⟩ = some (.int .i64 (nth (absU p m x.1 X t) t)) := (HBX.out.cell t).trans (c8_at _ t (by omega))
        rw [absU_nth p m x.1 X t (by omega), if_neg (by omega)] at d1
        have d3 := HBX.out.free t
        have d0 := (HS.out.ext HXW.out).c0
        have HFW := Lib.hid (HF.out.ext HXW.out)
        have HST := Lib.hid (absU_set p m x.1 X t (by omega))
        have HC8 := Lib.hid (fun v => c8_set (absU p m x.1 X t) t v (absU_length p m x.1 X t) (by omega))
        generalize nth X t = xt at *
        generalize nth m (4 * x.1 + t) = mt at *
        have ht8 : (t : Int) < 4 := by omega
        gi_wp2
        refine wpIn_region_quiet_tail 11 (by kernel_rfl) (by kernel_rfl) (by kernel_rfl) ?_
        simp only [List.take_succ_cons, List.take_zero, List.drop_succ_cons, List.drop_zero]
        repeat (go_big_quiet_step (first | (go_at_call 78; exact add_q HFW.out _ _ _)))
        refine wpQuiet_nil ?_
        rintro _ ⟨nq, rfl⟩
        have HG5 := Lib.hid (HG.out.trans ((Ext.drewN wr nq).grownBy _))
        have HBX5 := Lib.hid (HBX.out.ext (Ext.drewN wr nq))
        clear hix hcp hp1 d0 HPQ HG HBX HXW hcs
        gi_wp2
        go_roundw
        case rel => exact ⟨t + 1, by omega, by go_num, Lib.hid (by have h := HBX5.out.set t (.int .i64 (fadd p xt mt)); rw [HC8.out, HST.out] at h; exact h), Lib.hid (HG5.out.trans (setCell_grown _ _ _ _))⟩
        case measure => simp [intOf]; omega
      · obtain rfl : t = 4 := by omega
        obtain ⟨m0, m1, m2, m3, m4, m5, m6, m7⟩ := blk8 HBX.out
        gi_wp2_with (refine ⟨trivial, ?_⟩; gi_at_call 120; refine (Calls.inRound (permuted_any (HS.out.ext HXW.out) (HF.out.ext HXW.out) hk (absU p m x.1 X 4) (absU_length _ _ _ _ _))).mono ?_; rw [absU_all, HX2.out]; rintro e w8 ⟨v8, rfl, hx8, rfl⟩; unfold st8; have HX8 := Lib.hid (HXW.out.trans hx8); have HBX8 := Lib.hid (HBX.out.ext hx8); have HG8 := Lib.hid (HG.out.trans (hx8.grownBy _)); obtain ⟨n0, n1, n2, n3, n4, n5, n6, n7⟩ := blk8 HBX8.out; have s0 := HBX8.out.free 0; have s1 := HBX8.out.free 1; have s2 := HBX8.out.free 2; have s3 := HBX8.out.free 3; have s4 := HBX8.out.free 4; have s5 := HBX8.out.free 5; have s6 := HBX8.out.free 6; have s7 := HBX8.out.free 7; clear hx8)
        obtain ⟨hb, hxx⟩ := at_row8 HBX8.out (nth X2 0) (nth X2 1) (nth X2 2) (nth X2 3) (nth X2 4) (nth X2 5) (nth X2 6) (nth X2 7) (by omega) HX8.out
        have hgf := HG8.out.trans (row8_grown w8 (w.heap.size + 1) (nth X2 0) (nth X2 1) (nth X2 2) (nth X2 3) (nth X2 4) (nth X2 5) (nth X2 6) (nth X2 7))
        refine ⟨KeepsOthers.of_grownBy hgf (fun j o e hj => by cases e; exact HCB.out o hj), KpC.of_grown hgf (fun q e => by cases e; left; omega), hgf.cell H1.out (fun e => by have : w.heap.size = w.heap.size + 1 := Option.some.inj e; omega), by rw [HSN.out]; exact hb, H3.out.grown hgf (fun q hq e => ?_), hxx⟩
        have h5 := HN1.out q hq
        rw [HS0.out] at h5
        have : q = w.heap.size + 1 := Option.some.inj e
        omega
  case done =>
    rintro D xs W hD rfl ⟨h1, h2, h3, h4⟩ hK
    gi_wp2
    refine ⟨by simp, .inl ⟨_, _, rfl, run_takeDeferred hK, ?_⟩⟩
    have hg := grownBy_putObj' W D (.deferred none)
    have hD2 : w.heap.size + 2 ≤ D := by omega
    have hb := h2.grown hg (fun e => by have := Option.some.inj e; omega)
    rw [absF_upF] at hb
    exact ⟨_, results_tmp rfl _ _ _, .mk _ rfl (Below.grown h4.below hg h4.size (fun q e => by have := Option.some.inj e; omega)) ⟨by rw [HH.out]; exact blk_ints4 hb (hashS_length _ _ _ _), new_at (by omega)⟩⟩
  case stop =>
    rintro D c pre W _ _ h _
    exact h.elim
end
end Go.Proofs.YtfepefbehgbjpaaGreatDoor
