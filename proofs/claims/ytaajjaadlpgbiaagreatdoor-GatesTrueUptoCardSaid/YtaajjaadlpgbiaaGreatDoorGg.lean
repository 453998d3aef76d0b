/- A circuit is shown, the program's side: contract. -/
import Derived.Test.YtaajjaadlpgbiaaGreatDoorGe
import Derived.Test.YtaajjaadlpgbiaaGreatDoorZx17
import Derived.Test.YtaajjaadlpgbiaaGreatDoorZx18
namespace Go.Att
open Go.RowKit
/-- Lies beside what is to be turned. -/
def Aw (W : World) (M : Nat → Prop) (v : Value) : Prop := ∀ q, v.ownBlock = some q → q < W.heap.size ∧ ¬ M q
theorem Aw.next {W W' : World} {M M' : Nat → Prop} {v : Value} (h : Aw W M v) (hs : W.heap.size ≤ W'.heap.size) (hM : ∀ q, q < W.heap.size → M' q → M q) : Aw W' M' v := fun q hq => ⟨Nat.lt_of_lt_of_le (h q hq).1 hs, fun h2 => (h q hq).2 (hM q (h q hq).1 h2)⟩
def RwsM (W : World) (M : Nat → Prop) (v : Value) (L : List (List Int)) : Prop := ∃ T : Nat → Value, RwsAt W v L T ∧ Aw W M v ∧ ∀ i, i < L.length → Aw W M (T i)
theorem RwsM.next {W W' : World} {M M' : Nat → Prop} {v : Value} {L : List (List Int)} {b : Option Nat} (h : RwsM W M v L) (hg : W.grownBy W' b) (hb : ∀ q, b = some q → M q) (hM : ∀ q, q < W.heap.size → M' q → M q) : RwsM W' M' v L := by
  obtain ⟨T, h1, h2, h3⟩ := h
  exact ⟨T, ⟨h1.sl.grown hg fun q hq e => (h2 q hq).2 (hb q e.symm), fun i hi => (h1.row i hi).grown hg fun q hq e => (h3 i hi q hq).2 (hb q e.symm)⟩, h2.next hg.size hM, fun i hi => (h3 i hi).next hg.size hM⟩
theorem RwsM.rws {W : World} {M : Nat → Prop} {v : Value} {L : List (List Int)} (h : RwsM W M v L) : Rws W v L := let ⟨T, h1, _, _⟩ := h; ⟨T, h1⟩
def IntsM (W : World) (M : Nat → Prop) (v : Value) (l : List Int) : Prop := Ints W v l ∧ Aw W M v
theorem IntsM.next {W W' : World} {M M' : Nat → Prop} {v : Value} {l : List Int} {b : Option Nat} (h : IntsM W M v l) (hg : W.grownBy W' b) (hb : ∀ q, b = some q → M q) (hM : ∀ q, q < W.heap.size → M' q → M q) : IntsM W' M' v l :=
  ⟨h.1.grown hg fun q hq e => (h.2 q hq).2 (hb q e.symm), h.2.next hg.size hM⟩
theorem ownsRow_ne {W : World} {B B' e e' n n' : Nat} {v v' : Value} {xs xs' : List Value} (h : W.ownsRow B e 1 v n xs) (h' : W.ownsRow B' e' 1 v' n' xs') (he : e ≠ e') : ∀ q, v.ownBlock = some q → v'.ownBlock ≠ some q := fun q hq hq' => by
  rcases h.2 with ⟨rfl, _⟩ | ⟨g, cap, cur, rfl, _, hg, _⟩
  · cases hq
  · rcases h'.2 with ⟨rfl, _⟩ | ⟨g', cap', cur', rfl, _, hg', _⟩
    · cases hq'
    · have e1 : g = q := Option.some.inj hq
      have e2 : g' = q := Option.some.inj hq'
      subst e1; subst e2
      rw [hg] at hg'
      have := Option.some.inj hg'
      injection this with _ h3 _
      exact he h3
theorem range_snocQ (j : Nat) (Q : Nat → Value) (u : Value) : (List.range (j + 1)).map (fun t => if t < j then Q t else u) = (List.range j).map Q ++ [u] := by
  rw [List.range_succ, List.map_append]
  congr 1
  · exact List.map_congr_left fun i hi => by rw [if_pos (List.mem_range.1 hi)]
  · simp
/-- What is to be turned yet: the chain, the pair of slices, the two slices. -/
def MkM (cb ob rb : Nat) (vr vl : Value) (q : Nat) : Prop := q = cb ∨ (q = ob ∨ q = rb) ∨ vr.ownBlock = some q ∨ vl.ownBlock = some q
end Go.Att
namespace Go.Proofs.YtaajjaadlpgbiaaGreatDoor
open Go.RowKit Go.Att
theorem slCub : SlT Tryz.prog 49 22 1 24 (.slice none 0 0) := .mk' Tryz.underlying49 (by kernel_rfl) (by decide)
theorem clipC3_any {w : World} {v : Value} {n : Nat} {cs : List Value} (h : Sl w 1 v n cs) : Calls Tryz.prog 62 #[v] w fun e w' => e = .returned (clpV v n) ∧ w = w' := by
  have hll := Sl.run_len (P := Tryz.prog) h slCub
  have hcl := Sl.run_clp (P := Tryz.prog) h slCub
  go_enter Tryz.func62, Tryz.ntmps62
  go_wp2
  go_ret
  exact ⟨rfl, rfl⟩
theorem clipC3_q {w : World} {v : Value} {n : Nat} {cs : List Value} (h : Sl w 1 v n cs) (m : Nat) : Calls Tryz.prog 62 #[v] (w.drewN m) fun e w'' => e = .returned (clpV v n) ∧ ∃ m, w'' = w.drewN m := (clipC3_any (h.ext (Ext.drewN w m))).mono fun _e _w' ⟨h1, h2⟩ => ⟨h1, m, h2.symm⟩
theorem clipR_q {w : World} {v : Value} {n : Nat} {cs : List Value} (h : Sl w 1 v n cs) (m : Nat) : Calls Tryz.prog 63 #[v] (w.drewN m) fun e w'' => e = .returned (clpV v n) ∧ ∃ m, w'' = w.drewN m := (clipR_any (h.ext (Ext.drewN w m))).mono fun _e _w' ⟨h1, h2⟩ => ⟨h1, m, h2.symm⟩
section
variable {w : World} {bs bf : Nat} {p g : Int} {k : Nat} {fs : List Int} {rt : Int} {wd : Int} {lv vi : Value} {Ls : List (List Tri)} {R : Nat → Value} {inp : List Int}
set_option maxRecDepth 100000 in
set_option maxHeartbeats 16000000 in
theorem make_ok (hsp : SpB w bs (.pointer (some ⟨bf, 0, none⟩)) k rt (fun r j => finv p ((r : Int) + j + 8))) (hf : Fld w (.pointer (some ⟨bf, 0, none⟩)) p g fs) (hk : (k : Int) ≤ 9223372036854775807) (hv : LysAt w lv Ls R) (hi : Ints w vi inp) (hE : walkErr wd Ls inp.length = 0) (n : Nat) (hn : wideOf (nthY Ls (Ls.length - 1)).length = n) (z D : List Int) (hz : z = drwL p k (begS p k wd Ls (vrow p Ls inp Ls.length)) n) (hD : D = drwS p k (begS p k wd Ls (vrow p Ls inp Ls.length)) n) :
    Calls Tryz.prog 22 #[.pointer (some ⟨bs, 0, none⟩), .agg #[.int .i64 wd, lv], vi] w (Gives w fun u w' => ∃ vr vl, u = .tuple #[.agg #[vr, vl], .nilIface] ∧ Cub w' vr (mkR p k wd Ls inp z D Ls.length) ∧ Rws w' vl (mkL p k wd Ls inp z D Ls.length)) := by
  obtain ⟨h0, hin⟩ := walkErr_ok hE
  have HSP := Lib.hid hsp; have HF := Lib.hid hf; have HV := Lib.hid hv; have HI := Lib.hid hi; have HE := Lib.hid hE; have H0 := Lib.hid h0; have HIN := Lib.hid hin; have HN := Lib.hid hn; have HZD := Lib.hid hz; have HDD := Lib.hid hD
  obtain ⟨hS, hG⟩ := cirErr_ok h0
  have hlen8 : Ls.length ≤ 8 := hS.2.2.2.1
  have hlen1 : 1 ≤ Ls.length := hS.2.2.1
  obtain ⟨ao, cap, rfl⟩ := hv.shape
  have hll := hv.run_len (P := Tryz.prog) slLayers
  clear hsp hf hv hi hE h0 hin hn hz hD hS hG
  have HX0 := Lib.hid ((Ext.alloc w (Obj.cells #[.int .i64 wd, .slice ao Ls.length cap] 48)).trans (Ext.alloc _ (Obj.cells #[.slice none 0 0, .slice none 0 0] 51)))
  have k0 := (Ext.alloc (w.alloc (Obj.cells #[.int .i64 wd, .slice ao Ls.length cap] 48)) (Obj.cells #[.slice none 0 0, .slice none 0 0] 51)).cell (cell_new w #[.int .i64 wd, .slice ao Ls.length cap] 48 0)
  have k1 := (Ext.alloc (w.alloc (Obj.cells #[.int .i64 wd, .slice ao Ls.length cap] 48)) (Obj.cells #[.slice none 0 0, .slice none 0 0] 51)).cell (cell_new w #[.int .i64 wd, .slice ao Ls.length cap] 48 1)
  have HRB := Lib.hid (show BlkOf ((w.alloc (Obj.cells #[.int .i64 wd, .slice ao Ls.length cap] 48)).alloc (Obj.cells #[.slice none 0 0, .slice none 0 0] 51)) (w.heap.size + 1) [.slice none 0 0, .slice none 0 0] 51 from by have := BlkOf.new (w.alloc (Obj.cells #[.int .i64 wd, .slice ao Ls.length cap] 48)) [.slice none 0 0, .slice none 0 0] 51; rw [World.size_alloc] at this; exact this)
  have HS0 := Lib.hid (show ((w.alloc (Obj.cells #[.int .i64 wd, .slice ao Ls.length cap] 48)).alloc (Obj.cells #[.slice none 0 0, .slice none 0 0] 51)).heap.size = w.heap.size + 2 from by simp)
  have HK0 := Lib.hid k0; have HK1 := Lib.hid k1
  clear k0 k1
  go_enter Tryz.func22, Tryz.ntmps22
  go_wp2_with fail
  generalize ((w.alloc (Obj.cells #[.int .i64 wd, .slice ao Ls.length cap] 48)).alloc (Obj.cells #[.slice none 0 0, .slice none 0 0] 51)) = w1 at *
  have k0 : w1.cell? ⟨w.heap.size, 0, none⟩ = some (.int .i64 wd) := HK0.out
  have k1 : w1.cell? ⟨w.heap.size, 1, none⟩ = some (.slice ao Ls.length cap) := HK1.out
  have c0 := (HSP.out.ext HX0.out).c0
  go_region_held3 (fun w' => w'.cell? ⟨w.heap.size, 0, none⟩ = some (.int .i64 wd) ∧ w'.cell? ⟨w.heap.size, 1, none⟩ = some (.slice ao Ls.length cap)) (first | exact ⟨hx2.cell ((Ext.drew w1).cell k0), hx2.cell ((Ext.drew w1).cell k1)⟩ | exact ⟨(Ext.drew w1).cell k0, (Ext.drew w1).cell k1⟩ | go_keep) (first | (go_at_call 7; refine (sfieldof_any ((Ext.drew w1).cell c0)).mono ?_; rintro e w' ⟨rfl, rfl⟩) | (go_at_call 59; refine (walker_ok (HF.out.ext (HX0.out.trans (Ext.drew w1))) wd _ vi Ls R inp (HV.out.ext (HX0.out.trans (Ext.drew w1))) (HI.out.ext (HX0.out.trans (Ext.drew w1))) HE.out).mono ?_; rintro e w2 ⟨v2, rfl, hx2, b, vv, S, rfl, hwk, hgr, hbb⟩))
  have HX2 := Lib.hid ((HX0.out.trans (Ext.drew w1)).trans hx2)
  have HWK := Lib.hid hwk; have HGR := Lib.hid hgr
  have HRB2 := Lib.hid (HRB.out.ext ((Ext.drew w1).trans hx2))
  have m0 := hx2.cell ((Ext.drew w1).cell k0)
  have m1 := hx2.cell ((Ext.drew w1).cell k1)
  have HS2 := Lib.hid (show w.heap.size + 2 ≤ w2.heap.size from by have h1 := hx2.size; have h2 := (Ext.drew w1).size; have h3 := HS0.out; omega)
  clear k0 k1 c0 hwk hgr hx2 hbb HX0 HRB HS0
  have hwc := HWK.out.c3
  have hgi := HGR.out.rws.run_index (P := Tryz.prog) slRows Ls.length (by rw [vals_length]; omega)
  have hgc := HGR.out.rws.cell Ls.length (by rw [vals_length]; omega)
  have hgw := HGR.out.row Ls.length (by rw [vals_length]; omega)
  rw [vals_nth _ _ _ (Nat.le_refl _)] at hgw
  have HGW := Lib.hid hgw
  clear hgw
  go_wp2_with fail
  have hvl64 : (vrow p Ls inp Ls.length).length ≤ 64 := by
    have h1 := vrow_length (p := p) (Ls := Ls) HIN.out Ls.length
    unfold below at h1
    rw [if_neg (by omega)] at h1
    have h2 := wideOf_le ((cirErr_ok H0.out).1.2.2.2.2 (Ls.length - 1) (by omega))
    omega
  have HX3 := Lib.hid (HX2.out.trans (Ext.drew w2))
  obtain ⟨OUT, hOUT⟩ : ∃ OUT, vrow p Ls inp Ls.length = OUT := ⟨_, rfl⟩
  rw [hOUT] at HGW HZD HDD hvl64
  have HOUT := Lib.hid hOUT
  clear hOUT
  go_region_held3 (fun w' => w'.cell? ⟨w.heap.size, 0, none⟩ = some (.int .i64 wd) ∧ w'.cell? ⟨w.heap.size, 1, none⟩ = some (.slice ao Ls.length cap) ∧ w'.cell? ⟨b, 3, none⟩ = some vv ∧ w'.cell? (elt vv Ls.length 1) = some (S Ls.length)) (first | exact ⟨hx4.cell ((Ext.drew w2).cell m0), hx4.cell ((Ext.drew w2).cell m1), hx4.cell ((Ext.drew w2).cell hwc), hx4.cell ((Ext.drew w2).cell hgc)⟩ | exact ⟨(Ext.drew w2).cell m0, (Ext.drew w2).cell m1, (Ext.drew w2).cell hwc, (Ext.drew w2).cell hgc⟩ | go_keep) (first | (go_at_call 48; refine (begin_any (p := p) (k := k) (HSP.out.ext HX3.out) (HF.out.ext HX3.out) hk (HV.out.ext HX3.out) (HGW.out.ext (Ext.drew w2)) H0.out hvl64 n HN.out).mono ?_; rw [← HZD.out, ← HDD.out]; rintro e w4 ⟨v4, rfl, hx4, cb, vz, rfl, hcbs, hch, hdg, hiz, hzb⟩))
  have HX4 := Lib.hid ((Ext.drew w2).trans hx4)
  have HCH := Lib.hid hch; have HDG := Lib.hid hdg; have HIZ := Lib.hid hiz; have HZB := Lib.hid hzb; have HCB := Lib.hid hcbs
  have q1 := HX4.out.cell m1
  clear hx4 hch hdg hiz hzb hcbs m0 m1 hwc hgi hgc HX3
  have HO5 := Lib.hid (BlkOf.new w4 [.slice none 0 0, .slice none 0 0] 51)
  have HX5 := Lib.hid (Ext.alloc w4 (Obj.cells #[.slice none 0 0, .slice none 0 0] 51))
  have r1 := HX5.out.cell q1
  go_wp2_with fail
  obtain ⟨w5, hw5⟩ : ∃ w5, w5 = w4.alloc (Obj.cells #[.slice none 0 0, .slice none 0 0] 51) := ⟨_, rfl⟩
  have hs5 : w5.heap.size = w4.heap.size + 1 := by rw [hw5]; simp
  rw [← hw5] at HO5 HX5 r1 ⊢
  have HX25 := Lib.hid (HX4.out.trans HX5.out)
  have hcb4 : cb < w4.heap.size := HCH.out.lt
  have hcb2 : w2.heap.size ≤ cb := Nat.le_trans (Ext.drew w2).size HCB.out
  have hob2 : w2.heap.size ≤ w4.heap.size := HX4.out.size
  have HCH5 := Lib.hid (HCH.out.ext HX5.out)
  have HIZ5 := Lib.hid (show IntsM w5 (MkM cb w4.heap.size (w.heap.size + 1) (.slice none 0 0) (.slice none 0 0)) vz z from ⟨HIZ.out.ext HX5.out, fun q hq => by
    obtain ⟨h1, h2, h3⟩ := HZB.out q hq
    have h4 := HS2.out
    have h5 : w2.heap.size ≤ w2.drew.heap.size := (Ext.drew w2).size
    refine ⟨by omega, ?_⟩
    rintro (h | h | h | h)
    · exact h2 h
    · omega
    · cases h
    · cases h⟩)
  have HRB5 := Lib.hid (HRB2.out.ext HX25.out)
  have HLD := Lib.hid (show D.length = 4 from by rw [HDD.out]; exact drwS_length _ _ (begS_length _ _ _ _ _) _)
  have HLZ := Lib.hid (show (z.length : Int) = wideOf (nthY Ls (Ls.length - 1)).length from by rw [HZD.out, drwL_length, HN.out])
  clear hw5 HX4 HCH HDG HIZ HZB HCB q1 HX5 HRB2
  obtain ⟨ob, hob⟩ : ∃ ob, w4.heap.size = ob := ⟨_, rfl⟩
  rw [hob] at HO5 HIZ5 hob2 hcb4 hs5
  have HOB := Lib.hid hob
  have hgoal : True := trivial
  rw [hob]
  clear hob
  go_loopw [11, 13, 14, 15, 16] (fun x11 x13 _ _ _ wr => ∃ (j : Nat) (vr vl : Value) (Q Rl : Nat → Value), j ≤ Ls.length ∧ x13 = .int .i64 ((Ls.length : Int) - 1 - (j : Int)) ∧ Hid (Ext w2 wr) ∧ Hid (ChP wr cb (.pointer (some ⟨bs, 0, none⟩)) (mkS p k wd Ls inp z D j).2) ∧ Hid (IntsM wr (MkM cb ob (w.heap.size + 1) vr vl) x11 (mkS p k wd Ls inp z D j).1) ∧ Hid (BlkOf wr ob [vr, vl] 51) ∧ Hid (wr.ownsRow w5.heap.size 22 1 vr j ((List.range j).map Q)) ∧ Hid (wr.ownsRow w5.heap.size 23 1 vl j ((List.range j).map Rl)) ∧ Hid (∀ t, t < j → RwsM wr (MkM cb ob (w.heap.size + 1) vr vl) (Q t) (nthC (mkR p k wd Ls inp z D j) t)) ∧ Hid (∀ t, t < j → IntsM wr (MkM cb ob (w.heap.size + 1) vr vl) (Rl t) (nthL (mkL p k wd Ls inp z D j) t)) ∧ Hid (∀ q, vr.ownBlock = some q → vl.ownBlock ≠ some q) ∧ Hid (w5.heap.size ≤ wr.heap.size ∧ BlkOf wr (w.heap.size + 1) [.slice none 0 0, .slice none 0 0] 51)) (fun _ x13 _ _ _ _ => (intOf x13 + 1).toNat)
  case atStart => exact ⟨0, .slice none 0 0, .slice none 0 0, fun _ => undef, fun _ => undef, Nat.zero_le _, by simp, HX25, HCH5, HIZ5, HO5, Lib.hid (World.ownsRow_nil _ _ _ _), Lib.hid (World.ownsRow_nil _ _ _ _), Lib.hid (fun t h => absurd h (Nat.not_lt_zero _)), Lib.hid (fun t h => absurd h (Nat.not_lt_zero _)), Lib.hid (fun q h => by cases h), Lib.hid ⟨Nat.le_refl _, HRB5.out⟩⟩
  case round =>
    clear HX25 HCH5 HIZ5 HO5 HRB5 r1
    obtain ⟨j, vr, vl, Q, Rl, hj, rfl, HXR, HCR, HZR, HOR, HVR, HVL, HQR, HRL, HSEP, HSZ⟩ := hrel
    by_cases hjl : j < Ls.length
    · obtain ⟨i, hi⟩ : ∃ i, Ls.length - 1 - j = i := ⟨_, rfl⟩
      have hil : i < Ls.length := by omega
      have e13 : (Ls.length : Int) - 1 - (j : Int) = (i : Int) := by omega
      have hbn := (beneath_bd (cirErr_ok H0.out).1 hil).1
      have HLZJ := Lib.hid (mkS_len p k wd Ls inp D HLZ.out H0.out j hjl)
      have HLDJ := Lib.hid (mkS_dig p k wd Ls inp z HLD.out j)
      have HRS := Lib.hid (mkR_snoc p k wd Ls inp z D j); have HLS := Lib.hid (mkL_snoc p k wd Ls inp z D j)
      have hss : mkS p k wd Ls inp z D (j + 1) = (layZ p k wd Ls inp (Ls.length - 1 - j) (mkS p k wd Ls inp z D j).1 (mkS p k wd Ls inp z D j).2, layD p k wd Ls inp (Ls.length - 1 - j) (mkS p k wd Ls inp z D j).1 (mkS p k wd Ls inp z D j).2) := rfl
      have HRN := Lib.hid (mkR_len p k wd Ls inp z D j); have HLN := Lib.hid (mkL_len p k wd Ls inp z D j)
      rw [hi] at HRS HLS hss HLZJ
      have HSS := Lib.hid hss
      clear hss
      generalize mkS p k wd Ls inp z D j = st at *
      obtain ⟨zj, Dj⟩ := st
      dsimp only at HLZJ HLDJ HRS HLS HSS HCR HZR
      have HII := Lib.hid hi
      have hzl : zj.length ≤ 30 := by have h1 := HLZJ.out; have h2 := wideOf_hi (nthY Ls i).length; omega
      rw [e13]
      clear hi
      have hgei : ((i : Int) ≥ 0) := by omega
      go_wp2_with (go_at_call 61; refine (down_any (w0 := w2) (HF.out.ext HX2.out) ⟨bs, bf, rt, g, fs, rfl, HSP.out.ext HX2.out, HF.out.ext HX2.out, hk⟩ HWK.out (HV.out.ext HX2.out) HGR.out.rws H0.out HIN.out HXR.out hcb2 HCR.out HLDJ.out i hil (beneath wd Ls i).toNat (by omega) HZR.out.1 hzl (fun q hq e => (HZR.out.2 q hq).2 (.inl (Option.some.inj e))) (layF p wd Ls inp i zj) (fun xs => rfl)).mono ?_; rintro e w6 ⟨vt, vn, vx, Tt, rfl, hg6, hc6, hr6, hl6, hn6, b1, b2, b3, b4, hd6⟩)
      have HC6 := Lib.hid (show ChP w6 cb (.pointer (some ⟨bs, 0, none⟩)) (layD p k wd Ls inp i zj Dj) from hc6)
      have HR6 := Lib.hid (show RwsAt w6 vt (layR p k wd Ls inp i zj Dj) Tt from hr6)
      have HL6 := Lib.hid (show Ints w6 vn (layN p k wd Ls inp i zj Dj) from hl6)
      have HN6 := Lib.hid (show Ints w6 vx (layZ p k wd Ls inp i zj Dj) from hn6)
      have HB1 := Lib.hid b1; have HB2 := Lib.hid (show ∀ t, t < (layR p k wd Ls inp i zj Dj).length → InB wr w6 (Tt t) from fun t ht => b2 t (by unfold layR at ht; rw [dwnT_len] at ht; exact ht)); have HB3 := Lib.hid b3; have HB4 := Lib.hid b4; have HD6 := Lib.hid hd6; have HG6 := Lib.hid hg6
      obtain ⟨av, nv, cv, hvt⟩ : ∃ av nv cv, vt = .slice av nv cv := by obtain ⟨x, y, h⟩ := HR6.out.shape; exact ⟨x, _, y, h⟩
      obtain ⟨an, nn, cn, hvn⟩ : ∃ an nn cn, vn = .slice an nn cn := by obtain ⟨x, y, h⟩ := HL6.out.shape; exact ⟨x, _, y, h⟩
      subst hvt; subst hvn
      clear hc6 hr6 hl6 hn6 b1 b2 b3 b4 hd6 hg6
      have hsw : w5.heap.size ≤ wr.heap.size := HSZ.out.1
      have hs6 := HG6.out.size
      have hr1 : ∀ q, vr.ownBlock = some q → w5.heap.size ≤ q ∧ q < wr.heap.size := HVR.out.lt
      have hr2 : ∀ q, vl.ownBlock = some q → w5.heap.size ≤ q ∧ q < wr.heap.size := HVL.out.lt
      have HO6 := Lib.hid (HOR.out.grown HG6.out (fun e => by have := Option.some.inj e; omega))
      have HV6 := Lib.hid (own_low HVR.out HG6.out (by omega))
      have HVL6 := Lib.hid (own_low HVL.out HG6.out (by omega))
      have hbs : ∀ b ∈ [none, vr.ownBlock, vl.ownBlock], ∀ q, b = some q → w5.heap.size ≤ q ∧ q < wr.heap.size := fun b hb q hq => by
        simp only [List.mem_cons, List.not_mem_nil, or_false] at hb
        rcases hb with rfl | rfl | rfl
        · cases hq
        · exact hr1 q hq
        · exact hr2 q hq
      have HOW := Lib.hid (fun W (h : Rch [none, vr.ownBlock, vl.ownBlock] w6 W) => h.keep (φ := fun W => BlkOf W ob [vr, vl] 51) (fun A B b hb hA hg => hA.grown hg (fun e => by have := (hbs b hb ob e.symm).1; omega)) HO6.out)
      have HSB := Lib.hid hbs
      have hbl : ∀ t, ([none, none, none, none, vr.ownBlock, none, none, none, none, vl.ownBlock, none] : List (Option Nat)).getD t none = none ∨ (t = 4 ∧ ([none, none, none, none, vr.ownBlock, none, none, none, none, vl.ownBlock, none] : List (Option Nat)).getD t none = vr.ownBlock) ∨ (t = 9 ∧ ([none, none, none, none, vr.ownBlock, none, none, none, none, vl.ownBlock, none] : List (Option Nat)).getD t none = vl.ownBlock) := fun t => by
        by_cases h : t < 11
        · have h2 : t = 0 ∨ t = 1 ∨ t = 2 ∨ t = 3 ∨ t = 4 ∨ t = 5 ∨ t = 6 ∨ t = 7 ∨ t = 8 ∨ t = 9 ∨ t = 10 := by omega
          rcases h2 with rfl | rfl | rfl | rfl | rfl | rfl | rfl | rfl | rfl | rfl | rfl <;> first | exact .inl rfl | exact .inr (.inl ⟨rfl, rfl⟩) | exact .inr (.inr ⟨rfl, rfl⟩)
        · exact .inl (by rw [List.getD_eq_getElem?_getD, List.getElem?_eq_none (by simp; omega)]; rfl)
      have hmem : ∀ t, ([none, none, none, none, vr.ownBlock, none, none, none, none, vl.ownBlock, none] : List (Option Nat)).getD t none ∈ [none, vr.ownBlock, vl.ownBlock] := fun t => by
        rcases hbl t with h | ⟨_, h⟩ | ⟨_, h⟩ <;> rw [h] <;> simp
      refine wp_region_rel 11 [SG.eq (.pointer (some ⟨ob, 0, none⟩)), SG.eq vr, SG.eq (.slice av nv cv), SG.lit 22 [(.slice av nv cv)] w6.heap.size, SG.app w5.heap.size 22 (j + 1) ((List.range j).map Q ++ [Value.slice av nv cv]) vr w6.heap.size, SG.eq (.pointer (some ⟨ob, 1, none⟩)), SG.eq vl, SG.eq (.slice an nn cn), SG.lit 23 [(.slice an nn cn)] w6.heap.size, SG.app w5.heap.size 23 (j + 1) ((List.range j).map Rl ++ [Value.slice an nn cn]) vl w6.heap.size, ⟨fun v W => v = (.pointer (some ⟨ob, 0, none⟩)) ∧ Rch [none, vr.ownBlock, vl.ownBlock] w6 W⟩] [fun W => Rch [none, vr.ownBlock, vl.ownBlock] w6 W, fun W => Rch [none, vr.ownBlock, vl.ownBlock] w6 W, fun W => Rch [none, vr.ownBlock, vl.ownBlock] w6 W, fun W => Rch [none, vr.ownBlock, vl.ownBlock] w6 W, fun W => Rch [none, vr.ownBlock, vl.ownBlock] w6 W ∧ W.ownsRow w5.heap.size 22 1 vr j ((List.range j).map Q), fun W => Rch [none, vr.ownBlock, vl.ownBlock] w6 W, fun W => Rch [none, vr.ownBlock, vl.ownBlock] w6 W, fun W => Rch [none, vr.ownBlock, vl.ownBlock] w6 W, fun W => Rch [none, vr.ownBlock, vl.ownBlock] w6 W, fun W => Rch [none, vr.ownBlock, vl.ownBlock] w6 W ∧ W.ownsRow w5.heap.size 23 1 vl j ((List.range j).map Rl), fun W => Rch [none, vr.ownBlock, vl.ownBlock] w6 W] [none, none, none, none, vr.ownBlock, none, none, none, none, vl.ownBlock, none] (by kernel_rfl) (by kernel_rfl) (by kernel_rfl) ?stab ?init ?steps ?tail
      case stab =>
        refine ⟨fun a c ha hc hac v W W' hp hg => ?_, fun a c ha hc hac W W' hp hg => ?_⟩
        · have hb := hbl c; have hm := hmem c
          generalize ([none, none, none, none, vr.ownBlock, none, none, none, none, vl.ownBlock, none] : List (Option Nat)).getD c none = bc at hb hm hg
          have hlt : ∀ q, bc = some q → q < w6.heap.size := fun q hq => by have := (HSB.out bc hm q hq).2; omega
          have h2 : a = 0 ∨ a = 1 ∨ a = 2 ∨ a = 3 ∨ a = 4 ∨ a = 5 ∨ a = 6 ∨ a = 7 ∨ a = 8 ∨ a = 9 ∨ a = 10 := by omega
          rcases h2 with rfl | rfl | rfl | rfl | rfl | rfl | rfl | rfl | rfl | rfl | rfl
          · exact hp
          · exact hp
          · exact hp
          · exact SG.lit_st hp hg hlt
          · refine SG.app_st hp hg fun q hq => ⟨hlt q hq, fun e => ?_⟩
            rcases hb with h | ⟨h, _⟩ | ⟨_, h⟩
            · rw [h] at hq; cases hq
            · exact hac h.symm
            · exact HSEP.out q e (by rw [← h]; exact hq)
          · exact hp
          · exact hp
          · exact hp
          · exact SG.lit_st hp hg hlt
          · refine SG.app_st hp hg fun q hq => ⟨hlt q hq, fun e => ?_⟩
            rcases hb with h | ⟨_, h⟩ | ⟨h, _⟩
            · rw [h] at hq; cases hq
            · exact HSEP.out q (by rw [← h]; exact hq) e
            · exact hac h.symm
          · exact ⟨hp.1, hp.2.step hg hm⟩
        · have hb := hbl c; have hm := hmem c
          generalize ([none, none, none, none, vr.ownBlock, none, none, none, none, vl.ownBlock, none] : List (Option Nat)).getD c none = bc at hb hm hg
          have h2 : a = 0 ∨ a = 1 ∨ a = 2 ∨ a = 3 ∨ a = 4 ∨ a = 5 ∨ a = 6 ∨ a = 7 ∨ a = 8 ∨ a = 9 ∨ a = 10 := by omega
          rcases h2 with rfl | rfl | rfl | rfl | rfl | rfl | rfl | rfl | rfl | rfl | rfl
          · exact Rch.step hp hg hm
          · exact Rch.step hp hg hm
          · exact Rch.step hp hg hm
          · exact Rch.step hp hg hm
          · refine ⟨Rch.step hp.1 hg hm, own_other hp.2 hg fun q hq e => ?_⟩
            rcases hb with h | ⟨h, _⟩ | ⟨_, h⟩
            · rw [h] at hq; cases hq
            · exact hac h.symm
            · exact HSEP.out q e (by rw [← h]; exact hq)
          · exact Rch.step hp hg hm
          · exact Rch.step hp hg hm
          · exact Rch.step hp hg hm
          · exact Rch.step hp hg hm
          · refine ⟨Rch.step hp.1 hg hm, own_other hp.2 hg fun q hq e => ?_⟩
            rcases hb with h | ⟨_, h⟩ | ⟨h, _⟩
            · rw [h] at hq; cases hq
            · exact HSEP.out q (by rw [← h]; exact hq) e
            · exact hac h.symm
          · exact Rch.step hp hg hm
      case init =>
        intro a ha
        have hr0 : Rch [none, vr.ownBlock, vl.ownBlock] w6 w6.drew := Rch.step .refl ((Ext.drew w6).grownBy none) (by simp)
        have h2 : a = 0 ∨ a = 1 ∨ a = 2 ∨ a = 3 ∨ a = 4 ∨ a = 5 ∨ a = 6 ∨ a = 7 ∨ a = 8 ∨ a = 9 ∨ a = 10 := by omega
        rcases h2 with rfl | rfl | rfl | rfl | rfl | rfl | rfl | rfl | rfl | rfl | rfl <;> first | exact hr0 | exact ⟨hr0, own_ext HV6.out (Ext.drew w6)⟩ | exact ⟨hr0, own_ext HVL6.out (Ext.drew w6)⟩
      case steps =>
        intro a ha
        have h2 : a = 0 ∨ a = 1 ∨ a = 2 ∨ a = 3 ∨ a = 4 ∨ a = 5 ∨ a = 6 ∨ a = 7 ∨ a = 8 ∨ a = 9 ∨ a = 10 := by omega
        rcases h2 with rfl | rfl | rfl | rfl | rfl | rfl | rfl | rfl | rfl | rfl | rfl
        · refine RelStep.mk rfl fun vs W hψ hd => ?_
          clear hd
          simp only [fillA, fillL, dstL, List.take_succ_cons, List.take_zero, List.filterMap_cons, List.filterMap_nil, List.contains_cons, List.contains_nil, Nat.reduceAdd, Nat.zero_add, Nat.reduceBEq, Bool.or_false, Bool.or_true, Bool.false_eq_true, ↓reduceIte]
          go_wp2_with fail
          exact ⟨by trivial, World.grownBy.refl _ _, rfl⟩
        · refine RelStep.mk rfl fun vs W hψ hd => ?_
          have e61 : vs 61 = (.pointer (some ⟨ob, 0, none⟩)) := hd 0 (by kernel_rfl)
          have hc0 : W.cell? ⟨ob, 0, none⟩ = some vr := (HOW.out W hψ).cell 0
          clear hd
          simp only [fillA, fillL, dstL, List.take_succ_cons, List.take_zero, List.filterMap_cons, List.filterMap_nil, List.contains_cons, List.contains_nil, Nat.reduceAdd, Nat.zero_add, Nat.reduceBEq, Bool.or_false, Bool.or_true, Bool.false_eq_true, ↓reduceIte]
          rw [e61]
          go_wp2_with fail
          exact ⟨by trivial, World.grownBy.refl _ _, rfl⟩
        · refine RelStep.mk rfl fun vs W hψ hd => ?_
          clear hd
          simp only [fillA, fillL, dstL, List.take_succ_cons, List.take_zero, List.filterMap_cons, List.filterMap_nil, List.contains_cons, List.contains_nil, Nat.reduceAdd, Nat.zero_add, Nat.reduceBEq, Bool.or_false, Bool.or_true, Bool.false_eq_true, ↓reduceIte]
          go_wp2_with fail
          exact ⟨by trivial, World.grownBy.refl _ _, rfl⟩
        · refine RelStep.mk rfl fun vs W hψ hd => ?_
          have e63 : vs 63 = (.slice av nv cv) := hd 2 (by kernel_rfl)
          have hsz : w6.heap.size ≤ W.heap.size := Rch.size hψ
          clear hd
          simp only [fillA, fillL, dstL, List.take_succ_cons, List.take_zero, List.filterMap_cons, List.filterMap_nil, List.contains_cons, List.contains_nil, Nat.reduceAdd, Nat.zero_add, Nat.reduceBEq, Bool.or_false, Bool.or_true, Bool.false_eq_true, ↓reduceIte]
          rw [e63]
          go_wp2_with fail
          exact ⟨by trivial, (Ext.alloc _ _).grownBy _, ⟨W.heap.size, rfl, heap_alloc_new W _, hsz⟩⟩
        · refine RelStep.mk rfl fun vs W hψ hd => ?_
          have e62 : vs 62 = vr := hd 1 (by kernel_rfl)
          obtain ⟨g4, e64, hg4, hg5⟩ : ∃ g, vs 64 = .slice (some ⟨g, 0, none⟩) 1 1 ∧ W.heap[g]? = some (.cells [Value.slice av nv cv].toArray 22 (0, 0)) ∧ w6.heap.size ≤ g := hd 3 (by kernel_rfl)
          obtain ⟨hrc, how⟩ := hψ
          have hsz : w6.heap.size ≤ W.heap.size := Rch.size hrc
          obtain ⟨v', w', hr, k1, k2, k3⟩ := run_app1 (P := Tryz.prog) slCub rfl how (by omega) hg4 rfl (by omega) (by omega) 49
          have HR' := Lib.hid hr; have HK1 := Lib.hid k1; have HK2 := Lib.hid k2; have HK3 := Lib.hid k3
          clear hd hr k1 k2 k3 how hg4
          simp only [fillA, fillL, dstL, List.take_succ_cons, List.take_zero, List.filterMap_cons, List.filterMap_nil, List.contains_cons, List.contains_nil, Nat.reduceAdd, Nat.zero_add, Nat.reduceBEq, Bool.or_false, Bool.or_true, Bool.false_eq_true, ↓reduceIte]
          rw [e62, e64]
          go_wp2_with (at_builtin; refine Lib.wpList_append_run _ rfl _ _ _ _ rfl _ _ rfl rfl _ _ HR'.out ?_)
          exact ⟨by trivial, HK2.out, HK1.out, HK3.out.imp id fun h q hq => Nat.le_trans hsz (h q hq)⟩
        · refine RelStep.mk rfl fun vs W hψ hd => ?_
          clear hd
          simp only [fillA, fillL, dstL, List.take_succ_cons, List.take_zero, List.filterMap_cons, List.filterMap_nil, List.contains_cons, List.contains_nil, Nat.reduceAdd, Nat.zero_add, Nat.reduceBEq, Bool.or_false, Bool.or_true, Bool.false_eq_true, ↓reduceIte]
          go_wp2_with fail
          exact ⟨by trivial, World.grownBy.refl _ _, rfl⟩
        · refine RelStep.mk rfl fun vs W hψ hd => ?_
          have e66 : vs 66 = (.pointer (some ⟨ob, 1, none⟩)) := hd 5 (by kernel_rfl)
          have hc0 : W.cell? ⟨ob, 1, none⟩ = some vl := (HOW.out W hψ).cell 1
          clear hd
          simp only [fillA, fillL, dstL, List.take_succ_cons, List.take_zero, List.filterMap_cons, List.filterMap_nil, List.contains_cons, List.contains_nil, Nat.reduceAdd, Nat.zero_add, Nat.reduceBEq, Bool.or_false, Bool.or_true, Bool.false_eq_true, ↓reduceIte]
          rw [e66]
          go_wp2_with fail
          exact ⟨by trivial, World.grownBy.refl _ _, rfl⟩
        · refine RelStep.mk rfl fun vs W hψ hd => ?_
          clear hd
          simp only [fillA, fillL, dstL, List.take_succ_cons, List.take_zero, List.filterMap_cons, List.filterMap_nil, List.contains_cons, List.contains_nil, Nat.reduceAdd, Nat.zero_add, Nat.reduceBEq, Bool.or_false, Bool.or_true, Bool.false_eq_true, ↓reduceIte]
          go_wp2_with fail
          exact ⟨by trivial, World.grownBy.refl _ _, rfl⟩
        · refine RelStep.mk rfl fun vs W hψ hd => ?_
          have e68 : vs 68 = (.slice an nn cn) := hd 7 (by kernel_rfl)
          have hsz : w6.heap.size ≤ W.heap.size := Rch.size hψ
          clear hd
          simp only [fillA, fillL, dstL, List.take_succ_cons, List.take_zero, List.filterMap_cons, List.filterMap_nil, List.contains_cons, List.contains_nil, Nat.reduceAdd, Nat.zero_add, Nat.reduceBEq, Bool.or_false, Bool.or_true, Bool.false_eq_true, ↓reduceIte]
          rw [e68]
          go_wp2_with fail
          exact ⟨by trivial, (Ext.alloc _ _).grownBy _, ⟨W.heap.size, rfl, heap_alloc_new W _, hsz⟩⟩
        · refine RelStep.mk rfl fun vs W hψ hd => ?_
          have e67 : vs 67 = vl := hd 6 (by kernel_rfl)
          obtain ⟨g4, e69, hg4, hg5⟩ : ∃ g, vs 69 = .slice (some ⟨g, 0, none⟩) 1 1 ∧ W.heap[g]? = some (.cells [Value.slice an nn cn].toArray 23 (0, 0)) ∧ w6.heap.size ≤ g := hd 8 (by kernel_rfl)
          obtain ⟨hrc, how⟩ := hψ
          have hsz : w6.heap.size ≤ W.heap.size := Rch.size hrc
          obtain ⟨v', w', hr, k1, k2, k3⟩ := run_app1 (P := Tryz.prog) slRows rfl how (by omega) hg4 rfl (by omega) (by omega) 22
          have HR' := Lib.hid hr; have HK1 := Lib.hid k1; have HK2 := Lib.hid k2; have HK3 := Lib.hid k3
          clear hd hr k1 k2 k3 how hg4
          simp only [fillA, fillL, dstL, List.take_succ_cons, List.take_zero, List.filterMap_cons, List.filterMap_nil, List.contains_cons, List.contains_nil, Nat.reduceAdd, Nat.zero_add, Nat.reduceBEq, Bool.or_false, Bool.or_true, Bool.false_eq_true, ↓reduceIte]
          rw [e67, e69]
          go_wp2_with (at_builtin; refine Lib.wpList_append_run _ rfl _ _ _ _ rfl _ _ rfl rfl _ _ HR'.out ?_)
          exact ⟨by trivial, HK2.out, HK1.out, HK3.out.imp id fun h q hq => Nat.le_trans hsz (h q hq)⟩
        · refine RelStep.mk rfl fun vs W hψ hd => ?_
          clear hd
          simp only [fillA, fillL, dstL, List.take_succ_cons, List.take_zero, List.filterMap_cons, List.filterMap_nil, List.contains_cons, List.contains_nil, Nat.reduceAdd, Nat.zero_add, Nat.reduceBEq, Bool.or_false, Bool.or_true, Bool.false_eq_true, ↓reduceIte]
          go_wp2_with fail
          exact ⟨by trivial, World.grownBy.refl _ _, rfl, hψ⟩
      case tail =>
        intro vs W hall
        obtain ⟨hv', hm1⟩ : W.ownsRow w5.heap.size 22 1 (vs 65) (j + 1) ((List.range j).map Q ++ [Value.slice av nv cv]) ∧ ((vs 65).ownBlock = vr.ownBlock ∨ ∀ q, (vs 65).ownBlock = some q → w6.heap.size ≤ q) := hall.at 4 (by omega) rfl
        obtain ⟨hl', hm2⟩ : W.ownsRow w5.heap.size 23 1 (vs 70) (j + 1) ((List.range j).map Rl ++ [Value.slice an nn cn]) ∧ ((vs 70).ownBlock = vl.ownBlock ∨ ∀ q, (vs 70).ownBlock = some q → w6.heap.size ≤ q) := hall.at 9 (by omega) rfl
        obtain ⟨e71, hrc⟩ : vs 71 = (.pointer (some ⟨ob, 0, none⟩)) ∧ Rch [none, vr.ownBlock, vl.ownBlock] w6 W := hall.at 10 (by omega) rfl
        clear hall
        simp only [fillA, fillL, dstL, List.take_succ_cons, List.take_zero, List.filterMap_cons, List.filterMap_nil, List.contains_cons, List.contains_nil, Nat.reduceAdd, Nat.zero_add, Nat.reduceBEq, Bool.or_false, Bool.or_true, Bool.false_eq_true, ↓reduceIte]
        rw [e71]
        obtain ⟨a5, c5, e65⟩ := own_shape hv'
        obtain ⟨a0, c0, e70⟩ := own_shape hl'
        rw [e65, e70]
        rw [e65] at hv' hm1
        rw [e70] at hl' hm2
        have HBW := HOW.out W hrc
        have k0 : W.cell? ⟨ob, 0, none⟩ = some vr := HBW.cell 0
        have k1 : W.cell? ⟨ob, 1, none⟩ = some vl := HBW.cell 1
        have z0 := HBW.free 0
        have z1 := HBW.free 1
        have HRC := Lib.hid hrc; have HVN := Lib.hid hv'; have HLN2 := Lib.hid hl'; have HM1 := Lib.hid hm1; have HM2 := Lib.hid hm2; have HBWH := Lib.hid HBW
        clear hrc hv' hl' hm1 hm2 HBW
        go_wp2_with fail
        obtain ⟨vr', hvr⟩ : ∃ vr', vr' = Value.slice a5 (j + 1) c5 := ⟨_, rfl⟩
        obtain ⟨vl', hvl⟩ : ∃ vl', vl' = Value.slice a0 (j + 1) c0 := ⟨_, rfl⟩
        rw [← hvr, ← hvl]
        rw [← hvr] at HVN HM1
        rw [← hvl] at HLN2 HM2
        have hobw : ob < wr.heap.size := by omega
        have hsW : w6.heap.size ≤ W.heap.size := HRC.out.size
        have hgo : W.grownBy ((W.setCell ⟨ob, 0, none⟩ vr').setCell ⟨ob, 1, none⟩ vl') (some ob) := (setCell_grown _ _ _ _).trans (setCell_grown _ _ _ _)
        have hcbw : cb < wr.heap.size := HCR.out.lt
        -- what is beside what will be turned
        have hs2 := HS2.out
        have hwr2 : w2.heap.size ≤ wr.heap.size := HXR.out.size
        have hM2 : ∀ q, q < wr.heap.size → (MkM cb ob (w.heap.size + 1) vr vl q ∨ MkM cb ob (w.heap.size + 1) vr' vl' q) → MkM cb ob (w.heap.size + 1) vr vl q := fun q hq h => by
          rcases h with h | h | h | h | h
          · exact h
          · exact .inl h
          · exact .inr (.inl h)
          · rcases HM1.out with e | e
            · exact .inr (.inr (.inl (by rw [← e]; exact h)))
            · have := e q h; omega
          · rcases HM2.out with e | e
            · exact .inr (.inr (.inr (by rw [← e]; exact h)))
            · have := e q h; omega
        have hnew : ∀ q, wr.heap.size ≤ q → q < w6.heap.size → ¬ (MkM cb ob (w.heap.size + 1) vr vl q ∨ MkM cb ob (w.heap.size + 1) vr' vl' q) := fun q h1 h2 h => by
          rcases h with (h | h | h | h) | (h | h | h | h)
          · omega
          · omega
          · have := (hr1 q h).2; omega
          · have := (hr2 q h).2; omega
          · omega
          · omega
          · rcases HM1.out with e | e
            · rw [e] at h; have := (hr1 q h).2; omega
            · have := e q h; omega
          · rcases HM2.out with e | e
            · rw [e] at h; have := (hr2 q h).2; omega
            · have := e q h; omega
        have hbM : ∀ b ∈ [none, vr.ownBlock, vl.ownBlock], ∀ q, b = some q → (MkM cb ob (w.heap.size + 1) vr vl q ∨ MkM cb ob (w.heap.size + 1) vr' vl' q) := fun b hb q hq => by
          simp only [List.mem_cons, List.not_mem_nil, or_false] at hb
          rcases hb with rfl | rfl | rfl
          · cases hq
          · exact .inl (.inr (.inr (.inl hq)))
          · exact .inl (.inr (.inr (.inr hq)))
        have toW : ∀ v L, RwsM w6 (fun q => MkM cb ob (w.heap.size + 1) vr vl q ∨ MkM cb ob (w.heap.size + 1) vr' vl' q) v L → RwsM ((W.setCell ⟨ob, 0, none⟩ vr').setCell ⟨ob, 1, none⟩ vl') (MkM cb ob (w.heap.size + 1) vr' vl') v L := fun v L h =>
          (HRC.out.keep (φ := fun W => RwsM W (fun q => MkM cb ob (w.heap.size + 1) vr vl q ∨ MkM cb ob (w.heap.size + 1) vr' vl' q) v L) (fun A B b hb hA hg => hA.next hg (hbM b hb) (fun _ _ h => h)) h).next hgo (fun q e => by cases e; exact .inr (.inr (.inl (.inl rfl)))) (fun q _ h => .inr h)
        have toI : ∀ v l, IntsM w6 (fun q => MkM cb ob (w.heap.size + 1) vr vl q ∨ MkM cb ob (w.heap.size + 1) vr' vl' q) v l → IntsM ((W.setCell ⟨ob, 0, none⟩ vr').setCell ⟨ob, 1, none⟩ vl') (MkM cb ob (w.heap.size + 1) vr' vl') v l := fun v l h =>
          (HRC.out.keep (φ := fun W => IntsM W (fun q => MkM cb ob (w.heap.size + 1) vr vl q ∨ MkM cb ob (w.heap.size + 1) vr' vl' q) v l) (fun A B b hb hA hg => hA.next hg (hbM b hb) (fun _ _ h => h)) h).next hgo (fun q e => by cases e; exact .inr (.inr (.inl (.inl rfl)))) (fun q _ h => .inr h)
        have hcbM : ∀ q, some cb = some q → MkM cb ob (w.heap.size + 1) vr vl q := fun q e => .inl (Option.some.inj e).symm
        have HQ2 := Lib.hid (show ∀ t, t < j + 1 → RwsM ((W.setCell ⟨ob, 0, none⟩ vr').setCell ⟨ob, 1, none⟩ vl') (MkM cb ob (w.heap.size + 1) vr' vl') ((fun t => if t < j then Q t else Value.slice av nv cv) t) (nthC (mkR p k wd Ls inp z D (j + 1)) t) from fun t ht => by
          rw [HRS.out, nthC_snoc _ _ _ (by rw [HRN.out]; exact ht), HRN.out]
          by_cases h : t < j
          · simp only [if_pos h]
            exact toW _ _ ((HQR.out t h).next HG6.out hcbM hM2)
          · simp only [if_neg h]
            exact toW _ _ ⟨Tt, HR6.out, fun q hq => ⟨(HB1.out q hq).2, hnew q (HB1.out q hq).1 (HB1.out q hq).2⟩, fun t ht q hq => ⟨(HB2.out t ht q hq).2, hnew q (HB2.out t ht q hq).1 (HB2.out t ht q hq).2⟩⟩)
        have HL2 := Lib.hid (show ∀ t, t < j + 1 → IntsM ((W.setCell ⟨ob, 0, none⟩ vr').setCell ⟨ob, 1, none⟩ vl') (MkM cb ob (w.heap.size + 1) vr' vl') ((fun t => if t < j then Rl t else Value.slice an nn cn) t) (nthL (mkL p k wd Ls inp z D (j + 1)) t) from fun t ht => by
          rw [HLS.out, nthL_snoc _ _ _ (by rw [HLN.out]; exact ht), HLN.out]
          by_cases h : t < j
          · simp only [if_pos h]
            exact toI _ _ ((HRL.out t h).next HG6.out hcbM hM2)
          · simp only [if_neg h]
            exact toI _ _ ⟨HL6.out, fun q hq => ⟨(HB3.out q hq).2, hnew q (HB3.out q hq).1 (HB3.out q hq).2⟩⟩)
        have HZ2 := Lib.hid (toI _ _ ⟨HN6.out, fun q hq => ⟨(HB4.out q hq).2, hnew q (HB4.out q hq).1 (HB4.out q hq).2⟩⟩)
        have hcd := HRC.out.keep (φ := fun A => ChP A cb (.pointer (some ⟨bs, 0, none⟩)) (layD p k wd Ls inp i zj Dj) ∧ DigNew wr A cb) (fun A B b hb hA hg => by
          have hne : some cb ≠ b := fun e => by have := (HSB.out b hb cb e.symm).1; omega
          exact ⟨hA.1.grown hg hne (fun v hv q hq e => by have h1 := hA.2 v hv q hq; have h2 := (HSB.out b hb q e.symm).2; omega), hA.2.grown hA.1.lt hg hne⟩) ⟨HC6.out, HD6.out⟩
        have HC2 := Lib.hid (hcd.1.grown hgo (fun e => by have := Option.some.inj e; omega) (fun v hv q hq e => by have h1 := hcd.2 v hv q hq; have h2 := Option.some.inj e; omega))
        have HX6 := Lib.hid (grown_old HXR.out HG6.out hcb2)
        have hxW := HRC.out.keep (φ := fun A => Ext w2 A) (fun A B b hb hA hg => Below.grown hA.below hg hA.size (fun q e => by have := (HSB.out b hb q e).1; omega)) HX6.out
        have HX2' := Lib.hid (show Ext w2 ((W.setCell ⟨ob, 0, none⟩ vr').setCell ⟨ob, 1, none⟩ vl') from Below.grown hxW.below hgo hxW.size (fun q e => by cases e; exact hob2))
        have hrw := HRC.out.keep (φ := fun A => BlkOf A (w.heap.size + 1) [.slice none 0 0, .slice none 0 0] 51) (fun A B b hb hA hg => hA.grown hg (fun e => by have := (HSB.out b hb _ e.symm).1; have := HS2.out; omega)) (HSZ.out.2.grown HG6.out (fun e => by have := Option.some.inj e; have := HS2.out; omega))
        have HSZ2 := Lib.hid (show w5.heap.size ≤ ((W.setCell ⟨ob, 0, none⟩ vr').setCell ⟨ob, 1, none⟩ vl').heap.size ∧ BlkOf ((W.setCell ⟨ob, 0, none⟩ vr').setCell ⟨ob, 1, none⟩ vl') (w.heap.size + 1) [.slice none 0 0, .slice none 0 0] 51 from ⟨by have := hgo.size; omega, hrw.grown hgo (fun e => by have := Option.some.inj e; have := HS2.out; omega)⟩)
        have hb1 : ∀ q, some ob = some q → vr'.ownBlock ≠ some q := fun q e h => by
          have e1 := Option.some.inj e
          rcases HM1.out with h2 | h2
          · rw [h2] at h; have := (hr1 q h).1; omega
          · have := h2 q h; omega
        have hb2 : ∀ q, some ob = some q → vl'.ownBlock ≠ some q := fun q e h => by
          have e1 := Option.some.inj e
          rcases HM2.out with h2 | h2
          · rw [h2] at h; have := (hr2 q h).1; omega
          · have := h2 q h; omega
        have HVR2 := Lib.hid (own_other HVN.out hgo hb1)
        have HVL2 := Lib.hid (own_other HLN2.out hgo hb2)
        have HSEP2 := Lib.hid (ownsRow_ne HVN.out HLN2.out (by decide))
        have HO2 := Lib.hid ((HBWH.out.set 0 vr').set 1 vl')
        clear hM2 hnew hbM toW toI hcbM hcd hxW hrw hb1 hb2 hgo
        go_roundw
        case rel => exact ⟨j + 1, vr', vl', (fun t => if t < j then Q t else Value.slice av nv cv), (fun t => if t < j then Rl t else Value.slice an nn cn), by omega, by congr 1; omega, HX2', Lib.hid (by rw [HSS.out]; exact HC2.out), Lib.hid (by rw [HSS.out]; exact HZ2.out), HO2, Lib.hid (by rw [range_snocQ]; exact HVR2.out), Lib.hid (by rw [range_snocQ]; exact HVL2.out), HQ2, HL2, HSEP2, HSZ2⟩
        case measure => simp [intOf] <;> omega
    · obtain rfl : j = Ls.length := by omega
      have e13 : (Ls.length : Int) - 1 - (Ls.length : Int) = -1 := by omega
      rw [e13]
      have d0 : wr.cell? ⟨ob, 0, none⟩ = some vr := HOR.out.cell 0
      have d1 : wr.cell? ⟨ob, 1, none⟩ = some vl := HOR.out.cell 1
      have z0 := HOR.out.free 0
      have z1 := HOR.out.free 1
      have HSV := Lib.hid (Sl.of_own HVR.out (by omega)); have HSL := Lib.hid (Sl.of_own HVL.out (by omega))
      go_wp2_with fail
      refine wp_region_quiet_tail 7 (by kernel_rfl) (by kernel_rfl) ?_
      simp only [List.take_succ_cons, List.take_zero, List.drop_succ_cons, List.drop_zero]
      repeat (go_big_quiet_step (first | (go_at_call 62; exact clipC3_q HSV.out _) | (go_at_call 63; exact clipR_q HSL.out _)))
      refine wpQuiet_nil ?_
      rintro _ ⟨nq, rfl⟩
      obtain ⟨ar, cr, hvr⟩ := own_shape HVR.out
      obtain ⟨al, cl, hvl⟩ := own_shape HVL.out
      have HCV := Lib.hid (Sl.clp HSV.out); have HCL := Lib.hid (Sl.clp HSL.out)
      have HGO := Lib.hid (HOR.out.ext (Ext.drewN wr nq))
      have HRS := Lib.hid (HSZ.out.2.ext (Ext.drewN wr nq))
      have e1 : clpV vr Ls.length = .slice ar Ls.length Ls.length := by rw [hvr]; rfl
      have e2 : clpV vl Ls.length = .slice al Ls.length Ls.length := by rw [hvl]; rfl
      rw [e1] at HCV ⊢
      rw [e2] at HCL ⊢
      have hne : some ob ≠ some (w.heap.size + 1) := fun e => by have := Option.some.inj e; have := HS2.out; omega
      have n1 : ¬ ob = w.heap.size + 1 := fun e => hne (by rw [e])
      have n2 : ¬ w.heap.size + 1 = ob := fun e => n1 e.symm
      have f0 := HRS.out.free 0; have f1 := HRS.out.free 1
      have y0 : (wr.drewN nq).cell? ⟨w.heap.size + 1, 0, none⟩ = some (.slice none 0 0) := HRS.out.cell 0
      have y1 : (wr.drewN nq).cell? ⟨w.heap.size + 1, 1, none⟩ = some (.slice none 0 0) := HRS.out.cell 1
      have g0 : (wr.drewN nq).cell? ⟨ob, 0, none⟩ = some vr := HGO.out.cell 0
      have g1 : (wr.drewN nq).cell? ⟨ob, 1, none⟩ = some vl := HGO.out.cell 1
      have q0 := HGO.out.free 0; have q1 := HGO.out.free 1
      go_wp2_with fail
      have hr1 : ∀ q, vr.ownBlock = some q → w5.heap.size ≤ q ∧ q < wr.heap.size := HVR.out.lt
      have hr2 : ∀ q, vl.ownBlock = some q → w5.heap.size ≤ q ∧ q < wr.heap.size := HVL.out.lt
      have hs2 := HS2.out
      have hgo : wr.grownBy (((wr.drewN nq).setCell ⟨ob, 0, none⟩ (.slice ar Ls.length Ls.length)).setCell ⟨ob, 1, none⟩ (.slice al Ls.length Ls.length)) (some ob) := ((Ext.drewN wr nq).grownBy _).trans ((setCell_grown _ _ _ _).trans (setCell_grown _ _ _ _))
      have hgr : World.grownBy (((wr.drewN nq).setCell ⟨ob, 0, none⟩ (.slice ar Ls.length Ls.length)).setCell ⟨ob, 1, none⟩ (.slice al Ls.length Ls.length)) (((((wr.drewN nq).setCell ⟨ob, 0, none⟩ (.slice ar Ls.length Ls.length)).setCell ⟨ob, 1, none⟩ (.slice al Ls.length Ls.length)).setCell ⟨w.heap.size + 1, 0, none⟩ (.slice ar Ls.length Ls.length)).setCell ⟨w.heap.size + 1, 1, none⟩ (.slice al Ls.length Ls.length)) (some (w.heap.size + 1)) := (setCell_grown _ _ _ _).trans (setCell_grown _ _ _ _)
      have hxa : Ext w wr := HX2.out.trans HXR.out
      have hxb : Ext w (((wr.drewN nq).setCell ⟨ob, 0, none⟩ (.slice ar Ls.length Ls.length)).setCell ⟨ob, 1, none⟩ (.slice al Ls.length Ls.length)) := Below.grown hxa.below hgo hxa.size (fun q e => by have := Option.some.inj e; omega)
      have hxf : Ext w (((((wr.drewN nq).setCell ⟨ob, 0, none⟩ (.slice ar Ls.length Ls.length)).setCell ⟨ob, 1, none⟩ (.slice al Ls.length Ls.length)).setCell ⟨w.heap.size + 1, 0, none⟩ (.slice ar Ls.length Ls.length)).setCell ⟨w.heap.size + 1, 1, none⟩ (.slice al Ls.length Ls.length)) := Below.grown hxb.below hgr hxb.size (fun q e => by have := Option.some.inj e; omega)
      have hor : ∀ q, (Value.slice ar Ls.length Ls.length).ownBlock = some q → vr.ownBlock = some q := fun q h => by rw [hvr]; cases ar <;> exact h
      have hol : ∀ q, (Value.slice al Ls.length Ls.length).ownBlock = some q → vl.ownBlock = some q := fun q h => by rw [hvl]; cases al <;> exact h
      have HCV2 := Lib.hid ((HCV.out.grown hgo (fun q h e => by have := (hr1 q (hor q h)).1; have := Option.some.inj e; omega)).grown hgr (fun q h e => by have := (hr1 q (hor q h)).1; have := Option.some.inj e; omega))
      have HCL2 := Lib.hid ((HCL.out.grown hgo (fun q h e => by have := (hr2 q (hol q h)).1; have := Option.some.inj e; omega)).grown hgr (fun q h e => by have := (hr2 q (hol q h)).1; have := Option.some.inj e; omega))
      have hM : ∀ q, q < wr.heap.size → MkM cb ob (w.heap.size + 1) vr vl q → MkM cb ob (w.heap.size + 1) vr vl q := fun _ _ h => h
      have HQF := Lib.hid (fun t (ht : t < Ls.length) => (((HQR.out t ht).next hgo (fun q e => by cases e; exact .inr (.inl (.inl rfl))) (fun _ _ h => h)).next hgr (fun q e => by cases e; exact .inr (.inl (.inr rfl))) (fun _ _ h => h)).rws)
      have HLF := Lib.hid (fun t (ht : t < Ls.length) => (((HRL.out t ht).next hgo (fun q e => by cases e; exact .inr (.inl (.inl rfl))) (fun _ _ h => h)).next hgr (fun q e => by cases e; exact .inr (.inl (.inr rfl))) (fun _ _ h => h)).1)
      refine bodyPost_ret (v := .tuple #[.agg #[.slice ar Ls.length Ls.length, .slice al Ls.length Ls.length], .nilIface]) (by simp [results, Tryz.results22, go_sem, y0, y1]) rfl (.mk _ rfl hxf ⟨_, _, rfl, ⟨Q, by rw [mkR_len]; exact HCV2.out, fun t ht => HQF.out t (by rw [mkR_len] at ht; exact ht)⟩, ⟨Rl, ⟨by rw [mkL_len]; exact HCL2.out, fun t ht => HLF.out t (by rw [mkL_len] at ht; exact ht)⟩⟩⟩)
end
end Go.Proofs.YtaajjaadlpgbiaaGreatDoor
