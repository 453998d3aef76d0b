/- Code as text, the program's side: the text of code: contract. -/
import Derived.Test.YtnkcldhjbhdejaaDoorPb
import Derived.Test.YtnkcldhjbhdejaaDoorEr
namespace Go.Att
open Go.RowKit
/-- The lines so far. -/
def bodyA (l : List In4) (i : Nat) : List Value := (List.range l.length).map fun t => Value.string ⟨(if t < i then lineA l.length (nthI l t) else []).toArray⟩
theorem bodyA_length (l : List In4) (i : Nat) : (bodyA l i).length = l.length := by simp [bodyA]
theorem bodyA_zero (l : List In4) : bodyA l 0 = List.replicate l.length (.string ⟨#[]⟩) := by
  apply List.ext_getElem (by simp [bodyA])
  intro k h1 h2
  simp [bodyA]
theorem bodyA_set (l : List In4) (i : Nat) (_hi : i < l.length) : (bodyA l i).set i (.string ⟨(lineA l.length (nthI l i)).toArray⟩) = bodyA l (i + 1) := by
  apply List.ext_getElem (by simp [bodyA])
  intro k h1 h2
  simp only [bodyA, List.getElem_set, List.getElem_map, List.getElem_range]
  by_cases hk : i = k
  · subst hk; simp
  · rw [if_neg hk]
    by_cases h3 : k < i
    · rw [if_pos h3, if_pos (by omega)]
    · rw [if_neg h3, if_neg (by omega)]
theorem bodyA_at (l : List In4) (k : Nat) (hk : k < l.length) : (bodyA l l.length)[k]? = some (.string ⟨(lineA l.length (nthI l k)).toArray⟩) := by
  unfold bodyA
  rw [List.getElem?_map, List.getElem?_range hk]
  simp [hk]
theorem own_one (w : World) (x : Value) (e : Nat) : (w.alloc (.cells #[x] e)).ownsRow w.heap.size e 1 (.slice (some ⟨w.heap.size, 0, none⟩) 1 1) 1 [x] :=
  ⟨by simp, .inr ⟨w.heap.size, 1, #[x], rfl, Nat.le_refl _, heap_alloc_new w _, Nat.le_refl _, by unfold maxLen; omega, rfl, by simp⟩⟩
/-- What grows beyond leaves what was there. -/
theorem grown_beyond {A W W' : World} {b : Option Nat} {v : Value} (h : A.grownBy W b) (g : W.grownBy W' v.ownBlock) (hv : ∀ k, v.ownBlock = some k → A.heap.size ≤ k) : A.grownBy W' b :=
  ⟨g.os.trans h.os, g.tape.trans h.tape, g.output.trans h.output, Nat.le_trans h.size g.size, fun k hk hne => by
    rw [g.block k (Nat.lt_of_lt_of_le hk h.size) (fun e => by have := hv k e.symm; omega)]; exact h.block k hk hne⟩
theorem wdsA_length (N : Nat) (x : In4) (i : Nat) : (wdsA N x i).length = i + 1 := by simp [wdsA]
end Go.Att
namespace Go.Proofs.YtnkcldhjbhdejaaDoor
open Go.RowKit Go.Att Go.Shelf
theorem pwrite_of {B b : Nat} {l : List UInt8} (s : List UInt8) {t : ByteArray} (ht : t = ⟨s.toArray⟩) {w : World} (h : Bld B b l w) (hl : l.length + s.length ≤ 140737488355328) (hB : B ≤ w.heap.size) :
    Calls Tryd.prog 15 #[.pointer (some ⟨b, 0, none⟩), .string t] w fun e w' => e = .returned (.tuple #[.int .i64 (s.length : Int), .nilIface]) ∧ Bld B b (l ++ s) w' ∧ Below B w w' := by
  rw [ht]; exact pwrite_any s h hl hB
theorem bld_ext {B b : Nat} {l : List UInt8} {w w' : World} (h : Bld B b l w) (hx : Ext w w') : Bld B b l w' := by
  have one : ∀ p, Lib.BuilderAt 52 5 B b p (Lib.byteCells l) w → Lib.BuilderAt 52 5 B b p (Lib.byteCells l) w' := fun p h => by
    have hlt := h.lt
    obtain ⟨h1, v, h2, h3, h4⟩ := h
    exact ⟨h1, v, by rw [hx.below.block b hlt]; exact h2, own_ext h3 hx, h4⟩
  exact h.imp (one _) (one _)
theorem strs_own {w : World} {B e n : Nat} {v : Value} {L : List (List UInt8)} (hn : n = L.length) (h : w.ownsRow B e 1 v n (L.map fun s => .string ⟨s.toArray⟩)) : Strs w v L := by
  subst hn; exact Sl.of_own h (by decide)
section
variable {w : World} {sz : Int} {lv : Value} {l : List In4}
set_option maxRecDepth 100000 in
set_option maxHeartbeats 8000000 in
theorem pprint_any (hc : Inqs w lv l) (hzr : InR sz) (hw : ∀ i, i < l.length → Wid (nthI l i)) (hF : Forms w) (hT : Tab10 w) :
    Calls Tryd.prog 4 #[.agg #[.int .i64 sz, lv]] w fun e w' => e = .returned (.tuple #[.string ⟨(PrtA sz l).toArray⟩, errv (asmErr sz l)]) ∧ Ext w w' := by
  obtain ⟨ao, cap, rfl⟩ := hc.shape
  have hll := fun w' => hc.run_len (P := Tryd.prog) slIns 3 w'
  have hcl := hc.len
  have hx := Ext.alloc w (Obj.cells #[.int .i64 sz, .slice ao l.length cap] 24)
  have HX0 := Lib.hid hx; have HC := Lib.hid hc; have HF := Lib.hid hF; have HT := Lib.hid hT; have HW := Lib.hid hw
  have HK := Lib.hid (BlkOf.new w [.int .i64 sz, .slice ao l.length cap] 24)
  by_cases hbig : 4096 < l.length
  · have HE := Lib.hid (show asmErr sz l = 9 from by unfold asmErr; rw [if_pos hbig])
    have HP := Lib.hid (show PrtA sz l = [] from by unfold PrtA; rw [HE.out, if_neg (by decide)])
    have hb : (4096 : Int) < (l.length : Int) := by omega
    clear hc hx hbig hF hT hw hzr
    go_enter Tryd.func4, Tryd.ntmps4
    go_wp2_with fail
    go_ret2
    exact ⟨by rw [HE.out, HP.out]; trivial, HX0.out⟩
  have CS := Lib.hid (pshort_any sz hzr.1 hzr.2)
  have hb : ¬ (4096 : Int) < (l.length : Int) := by omega
  by_cases hfs : fitsA sz = true
  rotate_left
  · have hfs' : fitsA sz = false := by simpa using hfs
    have HE := Lib.hid (show asmErr sz l = 3 from by unfold asmErr; rw [if_neg hbig, hfs']; rfl)
    have HP := Lib.hid (show PrtA sz l = [] from by unfold PrtA; rw [HE.out, if_neg (by decide)])
    rw [hfs'] at CS
    clear hc hx hbig hfs hfs' hF hT hw hzr
    go_enter Tryd.func4, Tryd.ntmps4
    go_wp2_with (go_at_call 7; refine (CS.out _ (Tab10.ext HT.out HX0.out)).mono ?_; rintro e w1 ⟨rfl, hx1⟩)
    go_ret2
    exact ⟨by rw [HE.out, HP.out]; trivial, HX0.out.trans hx1⟩
  rw [hfs] at CS
  have CB := Lib.hid (fun W h1 h2 h3 => badAny_any (.slice ao l.length cap) l W h1 hw h2 h3)
  obtain ⟨q, hq⟩ : ∃ q, l.all rightA = q := ⟨_, rfl⟩
  rw [hq] at CB
  cases q with
  | false =>
    have HE := Lib.hid (show asmErr sz l = 3 from by unfold asmErr; rw [if_neg hbig, hq, Bool.and_false]; rfl)
    have HP := Lib.hid (show PrtA sz l = [] from by unfold PrtA; rw [HE.out, if_neg (by decide)])
    clear hc hx hbig hfs hF hT hw hzr hq
    go_enter Tryd.func4, Tryd.ntmps4
    go_wp2_with (first | (go_at_call 7; refine (CS.out _ (Tab10.ext HT.out HX0.out)).mono ?_; rintro e w1 ⟨rfl, hx1⟩; have HX1 := Lib.hid (HX0.out.trans hx1); have e1 : w1.cell? ⟨w.heap.size, 1, none⟩ = some (.slice ao l.length cap) := (HK.out.ext hx1).cell 1; clear hx1) | (go_at_call 8; refine (CB.out _ (HC.out.ext HX1.out) (HF.out.ext HX1.out) (Tab10.ext HT.out HX1.out)).mono ?_; rintro e w2 ⟨rfl, hx2⟩))
    go_ret2
    exact ⟨by rw [HE.out, HP.out]; trivial, HX1.out.trans hx2⟩
  | true =>
    have HE := Lib.hid (show asmErr sz l = 0 from by unfold asmErr; rw [if_neg hbig, hq, hfs]; rfl)
    have HP := Lib.hid (show PrtA sz l = textA sz l from by unfold PrtA; rw [HE.out, if_pos rfl])
    have HR := Lib.hid (show ∀ i, i < l.length → rightA (nthI l i) = true from fun i hi => by rw [List.all_eq_true] at hq; exact hq _ (nthI_mem hi))
    have hN : l.length ≤ 4096 := by omega
    have HFS := Lib.hid hfs
    have HZR := Lib.hid hzr
    clear hc hx hbig hfs hF hT hw hzr hq
    go_enter Tryd.func4, Tryd.ntmps4
    go_upto_region 6 with (first | (go_at_call 7; refine (CS.out _ (Tab10.ext HT.out HX0.out)).mono ?_; rintro e w1 ⟨rfl, hx1⟩; have HX1 := Lib.hid (HX0.out.trans hx1); have HK1 := Lib.hid (HK.out.ext hx1); have e1 : w1.cell? ⟨w.heap.size, 1, none⟩ = some (.slice ao l.length cap) := (HK.out.ext hx1).cell 1; clear hx1) | (go_at_call 8; refine (CB.out _ (HC.out.ext HX1.out) (HF.out.ext HX1.out) (Tab10.ext HT.out HX1.out)).mono ?_; rintro e w2 ⟨rfl, hx2⟩))
    have HX2 := Lib.hid (HX1.out.trans hx2); have HK2 := Lib.hid (HK1.out.ext hx2)
    clear e1 hx2 HX1 HK1 CS CB HX0 HK
    generalize hkb : w.heap.size = kb at *
    have HKB := Lib.hid hkb
    clear hkb
    have e1 : w2.cell? ⟨kb, 1, none⟩ = some (.slice ao l.length cap) := HK2.out.cell 1
    go_upto_region 7 with (refine wpList_mkB rfl _ _ 40 rfl slBoolA rfl (by decide) (n := l.length + 1) rfl rfl (by omega) (by omega) ?_; intro w3 hb3 hg3)
    have hx3 := ext_nil hg3
    have HX3 := Lib.hid (HX2.out.trans hx3); have HK3 := Lib.hid (HK2.out.ext hx3)
    have HM3 : Hid (BlkOf w3 w2.heap.size (mkA l 0 ⟨0, 0, 0, 0⟩ 0) 4) := Lib.hid (by rw [mkA_zero]; exact hb3)
    have HMB : Hid (w.heap.size ≤ w2.heap.size) := Lib.hid HX2.out.size
    have HKM : Hid (kb < w2.heap.size) := Lib.hid HK2.out.lt
    clear hb3 hg3 hx3 e1 HX2 HK2
    generalize w2.heap.size = mb at *
    have e1 : w3.cell? ⟨kb, 1, none⟩ = some (.slice ao l.length cap) := HK3.out.cell 1
    go_upto_region 8 with (refine wpList_mkB rfl _ _ 41 rfl slStrA rfl (by decide) (n := l.length) rfl rfl rfl (by omega) ?_; intro w4 hb4 hg4)
    have hx4 := ext_nil hg4
    have HX4 := Lib.hid (HX3.out.trans hx4); have HK4 := Lib.hid (HK3.out.ext hx4); have HM4 := Lib.hid (HM3.out.ext hx4)
    have HB4 : Hid (BlkOf w4 w3.heap.size (bodyA l 0) 9) := Lib.hid (by rw [bodyA_zero]; exact hb4)
    have HBB : Hid (mb < w3.heap.size) := Lib.hid HM3.out.lt
    clear hb4 hg4 hx4 e1 HX3 HK3 HM3
    generalize w3.heap.size = bb at *
    have e1 : w4.cell? ⟨kb, 1, none⟩ = some (.slice ao l.length cap) := HK4.out.cell 1
    go_wp2_with fail
    clear e1
    go_loopw [46] (fun x46 wr => ∃ i : Nat, i ≤ l.length ∧ x46 = .int .i64 i ∧ Hid (BlkOf wr mb (mkA l i ⟨0, 0, 0, 0⟩ 0) 4) ∧ Hid (BlkOf wr bb (bodyA l i) 9) ∧ Hid (Turned mb bb w4 wr)) (fun x46 _ => l.length - (intOf x46).toNat)
    case atStart => exact ⟨0, Nat.zero_le _, rfl, HM4, HB4, Lib.hid (Turned.refl _ _ _)⟩
    case round =>
      clear HM4 HB4
      obtain ⟨i, hi, rfl, HM, HB, HTU⟩ := hrel
      have HXR := Lib.hid (HTU.out.ext HX4.out HMB.out (Nat.le_of_lt (Nat.lt_of_le_of_lt HMB.out HBB.out)))
      have HKR := Lib.hid (HTU.out.blk HK4.out (by have := HKM.out; omega) (by have := HKM.out; have := HBB.out; omega))
      by_cases hil : i < l.length
      · have hcr := HC.out.ext HXR.out
        have hix := hcr.run_index (P := Tryd.prog) slIns i hil
        have c0 := hcr.c0 i hil
        have c1 := hcr.c1 i hil
        have c2 := hcr.c2 i hil
        have c3 := hcr.c3 i hil
        obtain ⟨x, hxe⟩ : ∃ x, nthI l i = x := ⟨_, rfl⟩
        rw [hxe] at c0 c1 c2 c3
        have hrx := HR.out i hil
        rw [hxe] at hrx
        obtain ⟨k, hk⟩ := Int.eq_ofNat_of_zero_le (rightA_op hrx).1
        have hk14 : k < 14 := by have := (rightA_op hrx).2; omega
        have HRX := Lib.hid hrx; have HOP := Lib.hid hk; have HXE := Lib.hid hxe
        have HWX := Lib.hid (show Wid x from by rw [← hxe]; exact HW.out i hil)
        clear hcr hrx hk
        go_upto_region 11 with (fail)
        have hxn := Ext.alloc wr (Obj.cells #[.int .i64 x.op, .int .i64 x.a, .int .i64 x.b, .int .i64 x.c] 37)
        have HBX := Lib.hid (BlkOf.new wr [.int .i64 x.op, .int .i64 x.a, .int .i64 x.b, .int .i64 x.c] 37)
        have HM5 := Lib.hid (HM.out.ext hxn); have HB5 := Lib.hid (HB.out.ext hxn); have HK5 := Lib.hid (HKR.out.ext hxn); have HX5 := Lib.hid (HXR.out.trans hxn)
        have HTU5 := Lib.hid (HTU.out.trans (Turned.of_ext hxn))
        have HMX : Hid (mb < wr.heap.size) := Lib.hid HM.out.lt
        have HBX2 : Hid (bb < wr.heap.size) := Lib.hid HB.out.lt
        clear c0 c1 c2 c3 hix hxn HM HB HKR HXR HTU hxe
        generalize wr.alloc (Obj.cells #[.int .i64 x.op, .int .i64 x.a, .int .i64 x.b, .int .i64 x.c] 37) = w5 at *
        generalize wr.heap.size = xb at *
        have x0 : w5.cell? ⟨xb, 0, none⟩ = some (.int .i64 (k : Int)) := by rw [HBX.out.cell, ← HOP.out]; rfl
        have f0 := (HF.out.ext HX5.out).word k hk14
        have f1 := (HF.out.ext HX5.out).ops k hk14
        have hfa := form_at k hk14
        have hN3 := opsA_len k
        have HL := Lib.hid (opLA_len k)
        have HAT := Lib.hid (opLA_at k)
        obtain ⟨m, hm⟩ : ∃ m, (opsA k).length = m := ⟨_, rfl⟩
        rw [hm] at hN3 HL
        have HM0 := Lib.hid hm
        clear hm
        have hsz : ((opLA k).length : Int) = m := by rw [HL.out]
        go_upto_region 12 with (fail)
        have hxn := Ext.alloc w5 (Obj.cells #[.string ⟨(wordA k).toArray⟩, .string ⟨(opLA k).toArray⟩] 43)
        have HBF := Lib.hid (BlkOf.new w5 [.string ⟨(wordA k).toArray⟩, .string ⟨(opLA k).toArray⟩] 43)
        have HM6 := Lib.hid (HM5.out.ext hxn); have HB6 := Lib.hid (HB5.out.ext hxn); have HK6 := Lib.hid (HK5.out.ext hxn); have HX6 := Lib.hid (HX5.out.trans hxn); have HBX6 := Lib.hid (HBX.out.ext hxn)
        have HTU6 := Lib.hid (HTU5.out.trans (Turned.of_ext hxn))
        have HXF : Hid (xb < w5.heap.size) := Lib.hid HBX.out.lt
        clear x0 f0 f1 hfa hxn HM5 HB5 HK5 HX5 HBX HTU5
        generalize w5.alloc (Obj.cells #[.string ⟨(wordA k).toArray⟩, .string ⟨(opLA k).toArray⟩] 43) = w6 at *
        generalize w5.heap.size = fb at *
        have g0 : w6.cell? ⟨fb, 0, none⟩ = some (.string ⟨(wordA k).toArray⟩) := HBF.out.cell 0
        have g1 : w6.cell? ⟨fb, 1, none⟩ = some (.string ⟨(opLA k).toArray⟩) := HBF.out.cell 1
        go_upto_region 13 with (fail)
        have hxn := Ext.alloc w6 (Obj.cells #[.string ⟨(wordA k).toArray⟩] 9)
        have HO7 : Hid ((w6.alloc (Obj.cells #[.string ⟨(wordA k).toArray⟩] 9)).ownsRow w6.heap.size 9 1 (.slice (some ⟨w6.heap.size, 0, none⟩) 1 1) (0 + 1) ((wdsA l.length x 0).map fun s => .string ⟨s.toArray⟩)) := Lib.hid (by
          have := own_one w6 (.string ⟨(wordA k).toArray⟩) 9
          rw [show (wdsA l.length x 0).map (fun s => Value.string ⟨s.toArray⟩) = [.string ⟨(wordA k).toArray⟩] from by simp [wdsA, HOP.out]]
          exact this)
        have HM7 := Lib.hid (HM6.out.ext hxn); have HG7 : Hid (w6.grownBy (w6.alloc (Obj.cells #[.string ⟨(wordA k).toArray⟩] 9)) (some mb)) := Lib.hid (hxn.grownBy _)
        have h1 : (w6.alloc (Obj.cells #[.string ⟨(wordA k).toArray⟩] 9)).cell? ⟨fb, 1, none⟩ = some (.string ⟨(opLA k).toArray⟩) := hxn.cell g1
        have HFB : Hid (fb < w6.heap.size) := Lib.hid HBF.out.lt
        clear g0 g1 hxn HM6
        generalize w6.alloc (Obj.cells #[.string ⟨(wordA k).toArray⟩] 9) = w7 at *
        obtain ⟨ub, hub⟩ : ∃ ub, w6.heap.size = ub := ⟨_, rfl⟩
        rw [hub] at HO7 HFB ⊢
        have HUB := Lib.hid hub
        clear hub
        go_wp2_with fail
        generalize wr = wo at *
        go_loopw [10, 61] (fun x10 x61 ws => ∃ j : Nat, j ≤ m ∧ x61 = .int .i64 j ∧ Hid (ws.ownsRow ub 9 1 x10 (j + 1) ((wdsA l.length x j).map fun s => .string ⟨s.toArray⟩)) ∧ Hid (BlkOf ws mb (mkA l i x j) 4) ∧ Hid (w6.grownBy ws (some mb))) (fun _ x61 _ => m - (intOf x61).toNat)
        case atStart => exact ⟨0, Nat.zero_le _, rfl, HO7, Lib.hid (by have := HM7.out; unfold mkA at this ⊢; exact this), HG7⟩
        case round =>
          clear HO7 HM7 HG7 h1
          obtain ⟨j, hj, rfl, HO, HMJ, HGJ⟩ := hrel
          have HXJ := Lib.hid ((Turned.one (c := mb) HGJ.out).ext HX6.out HMB.out HMB.out)
          by_cases hjm : j < m
          · have hj3 : j < 3 := by omega
            have hc : wr.cell? ⟨xb, j + 1, none⟩ = some (.int .i64 (valA x j)) := by rw [(HBX6.out.grown HGJ.out (fun e => by have := Option.some.inj e; have := HMX.out; omega)).cell]; exact val_cell x j hj3
            have CF := Lib.hid (pfield_any xb j hj3)
            have CI := Lib.hid (fun W => pitoa_any (valA x j) (HWX.out.val j).1 (HWX.out.val j).2 W)
            have hdl := itoa_le (valA x j) (rightA_val HRX.out j hj3)
            have CL := Lib.hid (fun W => label_any (valA x j) (HWX.out.val j) (rightA_val HRX.out j hj3) W)
            have HGO : Hid (goA l.length x j = ((opsA k).getD j false && decide (0 ≤ valA x j ∧ valA x j ≤ l.length))) := Lib.hid (by unfold goA; rw [HOP.out, Int.toNat_natCast])
            have HOD := Lib.hid (opdA_eq l.length x j)
            obtain ⟨E, hE⟩ : ∃ E, Lib.itoa (valA x j) = E := ⟨_, rfl⟩
            rw [hE] at CI hdl CL HOD
            obtain ⟨y, hvq⟩ : ∃ y, valA x j = y := ⟨_, rfl⟩
            rw [hvq] at hc CI CL HGO
            have HVQ := Lib.hid hvq
            clear hvq hE
            go_upto_region 18 with (first | (go_at_call 13; refine (CF.out _).mono ?_; rintro e w1 ⟨rfl, n1, rfl⟩) | (go_at_call 12; refine (CI.out _ (Tab10.ext HT.out (HXJ.out.trans (Ext.drewN _ _)))).mono ?_; rintro e wi ⟨rfl, hxi⟩))
            have hxs := (Ext.drewN _ _).trans hxi
            have HOI := Lib.hid (own_ext HO.out hxs); have HMI := Lib.hid (HMJ.out.ext hxs); have HGI := Lib.hid (HGJ.out.trans (hxs.grownBy _)); have HXI := Lib.hid (HXJ.out.trans hxs)
            clear hc hxi hxs HO HMJ HGJ HXJ CF CI
            have k1 : wi.cell? ⟨kb, 1, none⟩ = some (.slice ao l.length cap) := (HK6.out.grown HGI.out (fun e => by have := Option.some.inj e; have := HKM.out; omega)).cell 1
            have f1 : wi.cell? ⟨fb, 1, none⟩ = some (.string ⟨(opLA k).toArray⟩) := (HBF.out.grown HGI.out (fun e => by have := Option.some.inj e; have := HMX.out; have := HXF.out; omega)).cell 1
            have hix := str_index (opLA k) j (by rw [HL.out]; exact hjm)
            rw [HAT.out j (by rw [HM0.out]; exact hjm)] at hix
            obtain ⟨t, ht⟩ : ∃ t, (opsA k).getD j false = t := ⟨_, rfl⟩
            rw [ht] at hix HGO
            obtain ⟨c, hcl⟩ : ∃ c : Int, (if t = true then (116 : Int) else 110) = c := ⟨_, rfl⟩
            rw [hcl] at hix
            have HCL := Lib.hid hcl
            clear ht hcl
            have hsx : ub ≤ wi.heap.size := by have := HGI.out.size; have := HUB.out; omega
            have HMU : Hid (mb < ub) := Lib.hid (by have := HMX.out; have := HXF.out; have := HFB.out; omega)
            -- what an append leaves
            have HOC : Hid (∀ (S : List UInt8) (v6 : Value) (w6b : World), opdA l.length x j = S → w6b.ownsRow ub 9 1 v6 (j + 1 + 1) ((wdsA l.length x j).map (fun s => Value.string ⟨s.toArray⟩) ++ #[Value.string ⟨S.toArray⟩].toList) → w6b.ownsRow ub 9 1 v6 (j + 1 + 1) ((wdsA l.length x (j + 1)).map fun s => .string ⟨s.toArray⟩)) := Lib.hid (by
              intro S v6 w6b hS h
              rw [wdsA_succ, List.map_append, hS]
              exact h)
            have HOL : Hid (∀ q, u10.ownBlock = some q → ub ≤ q) := Lib.hid fun q hq => (HOI.out.lt q hq).1
            cases t with
            | false =>
              have hc116 : (c == 116) = false := by rw [← HCL.out]; rfl
              have HSE : Hid (opdA l.length x j = E) := Lib.hid (by rw [HOD.out, if_neg (by rw [HGO.out]; simp)])
              have HMN : Hid (BlkOf wi mb (mkA l i x (j + 1)) 4) := Lib.hid (by rw [mkA_skip l i x j (by rw [HGO.out]; rfl)]; exact HMI.out)
              go_wp2_with (at_builtin; refine wpList_appNw rfl _ _ 41 rfl slStrA rfl hsx HOI.out rfl #[.string ⟨(E).toArray⟩] rfl (by intro u hu; simp at hu; subst hu; rfl) rfl (by omega) (by omega) ?_; intro v6 w6b HO6 HG6 _)
              go_roundw
              case rel => exact ⟨j + 1, by omega, by go_num, Lib.hid (HOC.out E v6 w6b HSE.out HO6), Lib.hid (HMN.out.grown HG6 (fun e => by have := HOL.out _ e.symm; have := HMU.out; omega)), Lib.hid (grown_beyond HGI.out HG6 (fun k hk => by have := HOL.out k hk; have := HUB.out; omega))⟩
              case measure => simp [intOf]; omega
            | true =>
              have hc116 : (c == 116) = true := by rw [← HCL.out]; rfl
              by_cases hy0 : 0 ≤ y
              rotate_left
              · have HDF := Lib.hid (show decide (0 ≤ y ∧ y ≤ (l.length : Int)) = false from decide_eq_false (by omega))
                have HSE : Hid (opdA l.length x j = E) := Lib.hid (by rw [HOD.out, if_neg (by rw [HGO.out, HDF.out]; decide)])
                have HMN : Hid (BlkOf wi mb (mkA l i x (j + 1)) 4) := Lib.hid (by rw [mkA_skip l i x j (by rw [HGO.out, HDF.out]; rfl)]; exact HMI.out)
                go_wp2_with (at_builtin; refine wpList_appNw rfl _ _ 41 rfl slStrA rfl hsx HOI.out rfl #[.string ⟨(E).toArray⟩] rfl (by intro u hu; simp at hu; subst hu; rfl) rfl (by omega) (by omega) ?_; intro v6 w6b HO6 HG6 _)
                go_roundw
                case rel => exact ⟨j + 1, by omega, by go_num, Lib.hid (HOC.out E v6 w6b HSE.out HO6), Lib.hid (HMN.out.grown HG6 (fun e => by have := HOL.out _ e.symm; have := HMU.out; omega)), Lib.hid (grown_beyond HGI.out HG6 (fun k hk => by have := HOL.out k hk; have := HUB.out; omega))⟩
                case measure => simp [intOf]; omega
              by_cases hyn : y ≤ l.length
              rotate_left
              · have HDF := Lib.hid (show decide (0 ≤ y ∧ y ≤ (l.length : Int)) = false from decide_eq_false (by omega))
                have HSE : Hid (opdA l.length x j = E) := Lib.hid (by rw [HOD.out, if_neg (by rw [HGO.out, HDF.out]; decide)])
                have HMN : Hid (BlkOf wi mb (mkA l i x (j + 1)) 4) := Lib.hid (by rw [mkA_skip l i x j (by rw [HGO.out, HDF.out]; rfl)]; exact HMI.out)
                go_wp2_with (at_builtin; refine wpList_appNw rfl _ _ 41 rfl slStrA rfl hsx HOI.out rfl #[.string ⟨(E).toArray⟩] rfl (by intro u hu; simp at hu; subst hu; rfl) rfl (by omega) (by omega) ?_; intro v6 w6b HO6 HG6 _)
                go_roundw
                case rel => exact ⟨j + 1, by omega, by go_num, Lib.hid (HOC.out E v6 w6b HSE.out HO6), Lib.hid (HMN.out.grown HG6 (fun e => by have := HOL.out _ e.symm; have := HMU.out; omega)), Lib.hid (grown_beyond HGI.out HG6 (fun k hk => by have := HOL.out k hk; have := HUB.out; omega))⟩
                case measure => simp [intOf]; omega
              obtain ⟨q, rfl⟩ := Int.eq_ofNat_of_zero_le hy0
              have hqn : q ≤ l.length := by omega
              have HTR : Hid (goA l.length x j = true) := Lib.hid (by rw [HGO.out, decide_eq_true (by omega)]; rfl)
              have HSE : Hid (opdA l.length x j = 108 :: E) := Lib.hid (by rw [HOD.out, if_pos HTR.out])
              have HMS := Lib.hid (mkA_set l i x j q HTR.out HVQ.out hqn)
              have hiq : ∀ w', (Instr.indexAt 40 (.slice (some ⟨mb, 0, none⟩) (l.length + 1) (l.length + 1)) (.int .i64 (q : Int))).run Tryd.prog w' = .ok (.pointer (some ⟨mb, q, none⟩)) w' := fun w' => ix_blk slBoolA mb (by omega) (by unfold maxLen; omega) w'
              go_upto_region 20 with (go_at_call 11; refine (CL.out _ (Tab10.ext HT.out HXI.out)).mono ?_; rintro e wl ⟨rfl, hxl⟩; obtain ⟨yb, d0⟩ : ∃ yb, wl.cell? ⟨mb, q, none⟩ = some yb := ⟨_, by rw [(HMI.out.ext hxl).cell]; exact List.getElem?_eq_getElem (by rw [mkA_length]; omega)⟩; have d1 := (HMI.out.ext hxl).free q)
              have hgs := setCell_grown wl mb q (.bool true)
              have HOS := Lib.hid (own_low (own_ext HOI.out hxl) hgs HMU.out)
              have HMN : Hid (BlkOf (wl.setCell ⟨mb, q, none⟩ (.bool true)) mb (mkA l i x (j + 1)) 4) := Lib.hid (by rw [← HMS.out]; exact (HMI.out.ext hxl).set q (.bool true))
              have HGS := Lib.hid (grown_one (HGI.out.trans (hxl.grownBy _)) hgs)
              clear d0 d1 hiq k1 f1 hix hgs hxl HOI HMI HGI HXI hsx
              revert HOS HMN HGS
              generalize World.setCell wl ⟨mb, q, none⟩ (.bool true) = wz
              intro HOS HMN HGS
              have hsx : ub ≤ wz.heap.size := by have := HGS.out.size; have := HUB.out; omega
              go_wp2_with (at_builtin; refine wpList_appNw rfl _ _ 41 rfl slStrA rfl hsx HOS.out rfl #[.string ⟨(108 :: E).toArray⟩] rfl (by intro u hu; simp at hu; subst hu; rfl) rfl (by omega) (by omega) ?_; intro v6 w6b HO6 HG6 _)
              go_roundw
              case rel => exact ⟨j + 1, by omega, by go_num, Lib.hid (HOC.out (108 :: E) v6 w6b HSE.out HO6), Lib.hid (HMN.out.grown HG6 (fun e => by have := HOL.out _ e.symm; have := HMU.out; omega)), Lib.hid (grown_beyond HGS.out HG6 (fun k hk => by have := HOL.out k hk; have := HUB.out; omega))⟩
              case measure => simp [intOf]; omega
          · obtain rfl : j = m := by omega
            have hLJ : Lib.join (wdsA l.length x j) [32] = lineA l.length x := by
              rw [← lineA_join, show (opsA x.op.toNat).length = j from by rw [HOP.out, Int.toNat_natCast]; exact HM0.out]
            have CJ0 := pjoin_any (strs_own (by rw [wdsA_length]) HO.out) (by rw [wdsA_length]; omega) (by rw [wdsA_length]; omega) (by rw [hLJ]; have := lineA_le l.length x HRX.out; omega)
            rw [hLJ] at CJ0
            have CJ := Lib.hid CJ0
            have HMN : Hid (BlkOf wr mb (mkA l (i + 1) ⟨0, 0, 0, 0⟩ 0) 4) := Lib.hid (by
              have := HMJ.out
              rw [show mkA l i x j = mkA l (i + 1) ⟨0, 0, 0, 0⟩ 0 from by rw [← mkA_next l i x ⟨0, 0, 0, 0⟩ HXE.out.symm, HOP.out, Int.toNat_natCast, HM0.out]] at this
              exact this)
            have HBJ := Lib.hid (HB6.out.grown HGJ.out (fun e => by have := Option.some.inj e; have := HBB.out; omega))
            have HTJ := Lib.hid (HTU6.out.trans (Turned.one HGJ.out))
            have HBS := Lib.hid (bodyA_set l i hil)
            rw [HXE.out] at HBS
            have hib : ∀ w', (Instr.indexAt 41 (.slice (some ⟨bb, 0, none⟩) l.length l.length) (.int .i64 (i : Int))).run Tryd.prog w' = .ok (.pointer (some ⟨bb, i, none⟩)) w' := fun w' => ix_blk slStrA bb hil (by unfold maxLen; omega) w'
            clear hLJ CJ0 HMJ HGJ HO HXJ
            obtain ⟨L, hL⟩ : ∃ L, lineA l.length x = L := ⟨_, rfl⟩
            rw [hL] at CJ HBS
            clear hL
            go_wp2_with (go_at_call 14; refine CJ.out.mono ?_; rintro e wj ⟨rfl, hxj⟩; obtain ⟨yb, d0⟩ : ∃ yb, wj.cell? ⟨bb, i, none⟩ = some yb := ⟨_, by rw [(HBJ.out.ext hxj).cell]; exact List.getElem?_eq_getElem (by rw [bodyA_length]; omega)⟩; have d1 := (HBJ.out.ext hxj).free i)
            have hgs := setCell_grown wj bb i (.string ⟨L.toArray⟩)
            go_roundw
            case rel => exact ⟨i + 1, by omega, by go_num, Lib.hid ((HMN.out.ext hxj).grown hgs (fun e => by have := Option.some.inj e; have := HBB.out; omega)), Lib.hid (by rw [← HBS.out]; exact (HBJ.out.ext hxj).set i _), Lib.hid ((HTJ.out.trans (Turned.of_ext hxj)).trans (Turned.two hgs))⟩
            case measure => simp [intOf]; omega
      · obtain rfl : i = l.length := by omega
        have HTX := Lib.hid (fun k (hk : k ≤ l.length + 1) => textU_le sz l HFS.out HR.out hN k hk)
        have HWM := Lib.hid (fun k (hk : k ≤ l.length) => mkA_at l ⟨0, 0, 0, 0⟩ k hk)
        have HBA := Lib.hid (fun k (hk : k < l.length) => bodyA_at l k hk)
        have CZ := Lib.hid (fun W => pitoa_any sz HZR.out.1 HZR.out.2 W)
        have hzl := itoa_le sz HFS.out
        have HT0 : Hid (textU sz l 0 = [115, 105, 122, 101, 32] ++ Lib.itoa sz ++ [10]) := Lib.hid (by simp [textU])
        obtain ⟨D, hD⟩ : ∃ D, Lib.itoa sz = D := ⟨_, rfl⟩
        rw [hD] at CZ HT0 hzl
        have HLR : Hid (∀ i, i < l.length → (lineA l.length (nthI l i)).length ≤ 73) := Lib.hid fun i hi => lineA_le _ _ (HR.out i hi)
        clear hD HC HW HFS HTU hil HK4 HX4
        go_upto_region 25 with (fail)
        have hxn := Ext.alloc wr (Obj.cells #[.pointer none, .slice none 0 0] 52)
        have HBL := Lib.hid (bld_new wr)
        have HM5 := Lib.hid (HM.out.ext hxn); have HB5 := Lib.hid (HB.out.ext hxn); have HK5 := Lib.hid (HKR.out.ext hxn); have HX5 := Lib.hid (HXR.out.trans hxn)
        have HBW := Lib.hid (show Below wr.heap.size wr (wr.alloc (Obj.cells #[.pointer none, .slice none 0 0] 52)) from hxn)
        clear hxn
        generalize wr.alloc (Obj.cells #[.pointer none, .slice none 0 0] 52) = w5 at *
        obtain ⟨sb, hsb⟩ : ∃ sb, wr.heap.size = sb := ⟨_, rfl⟩
        rw [hsb] at HBL HBW ⊢
        have HSB := Lib.hid hsb
        clear hsb
        have k0 : w5.cell? ⟨kb, 0, none⟩ = some (.int .i64 sz) := HK5.out.cell 0
        have HE0 : Hid (ByteArray.mk #[115, 105, 122, 101, 32] ++ ByteArray.mk D.toArray ++ ByteArray.mk #[10] = ⟨(textU sz l 0).toArray⟩) := Lib.hid ((str_app3 [115, 105, 122, 101, 32] D [10]).trans (by rw [HT0.out]))
        go_upto_region 26 with (first | (go_at_call 12; refine (CZ.out _ (Tab10.ext HT.out HX5.out)).mono ?_; rintro e w6 ⟨rfl, hx6⟩; have HBL6 := Lib.hid (bld_ext HBL.out hx6)) | (go_at_call 15; refine (pwrite_of (textU sz l 0) HE0.out HBL6.out (by have := HTX.out 0 (by omega); simp; omega) (by have := HBW.out.size; have := hx6.size; have := HSB.out; omega)).mono ?_; rintro e w7 ⟨rfl, hb7, hw7⟩))
        have HBL7 : Hid (Bld sb sb (textU sz l 0) w7) := Lib.hid hb7
        have HX7 : Hid (Ext wr w7) := Lib.hid (by
          have h1 := HBW.out.trans (Below.mono hx6 (by have := HBW.out.size; have := HSB.out; omega))
          have h2 := h1.trans hw7
          rw [← HSB.out] at h2
          exact h2)
        clear hb7 hx6 hw7 k0 HE0 HT0 hzl CZ HBL HBL6 HBW HM5 HB5 HK5 HX5
        go_wp2_with fail
        generalize wr = wB at *
        go_loopw [111] (fun x111 ws => ∃ i : Nat, i ≤ l.length + 1 ∧ x111 = .int .i64 i ∧ Hid (Bld sb sb (textU sz l i) ws) ∧ Hid (Ext wB ws)) (fun x111 _ => l.length + 1 - (intOf x111).toNat)
        case atStart => exact ⟨0, Nat.zero_le _, rfl, HBL7, HX7⟩
        case round =>
          clear HBL7 HX7
          obtain ⟨i, hi, rfl, HBL, HX⟩ := hrel
          by_cases hin : i ≤ l.length
          · have hTl := HTX.out i (by omega)
            obtain ⟨T, hT⟩ : ∃ T, textU sz l i = T := ⟨_, rfl⟩
            rw [hT] at HBL hTl
            have hTb : T.length ≤ 1000000 := by omega
            have HT1 := Lib.hid hT
            clear hT hTl
            have hmi := (HM.out.ext HX.out).cell i
            rw [HWM.out i hin] at hmi
            have hiq : ∀ w', (Instr.indexAt 40 (.slice (some ⟨mb, 0, none⟩) (l.length + 1) (l.length + 1)) (.int .i64 (i : Int))).run Tryd.prog w' = .ok (.pointer (some ⟨mb, i, none⟩)) w' := fun w' => ix_blk slBoolA mb (by omega) (by unfold maxLen; omega) w'
            have hii : (i : Int) < (l.length : Int) + 1 := by omega
            have HSZ : Hid (sb ≤ wr.heap.size) := Lib.hid (by have := HX.out.size; have := HSB.out; omega)
            obtain ⟨T', hT'⟩ : ∃ T', T' = T ++ labA l i := ⟨_, rfl⟩
            have hTb' : T'.length ≤ 1000100 := by have := labA_le l i (by omega); rw [hT', List.length_append]; omega
            have HT' : Hid (T' = textU sz l i ++ labA l i) := Lib.hid (by rw [HT1.out, hT'])
            obtain ⟨hw, hwe⟩ : ∃ b, wantA l i l.length = b := ⟨_, rfl⟩
            rw [hwe] at hmi
            have HLA : Hid (labA l i = if hw = true then 108 :: (Lib.itoa i ++ [58, 10]) else []) := Lib.hid (by unfold labA; rw [hwe])
            have HTT := Lib.hid hT'
            have CL := Lib.hid (fun W => label_any (i : Int) (by unfold InR; omega) (fitsA_nat (by omega)) W)
            have hdl := itoa_le (i : Int) (fitsA_nat (by omega))
            have hll2 := labA_le l i (by omega)
            clear hwe hT'
            cases hw
            case' true =>
              obtain ⟨E, hE⟩ : ∃ E, Lib.itoa (i : Int) = E := ⟨_, rfl⟩
              rw [hE] at CL hdl HLA
              have HLE : Hid (ByteArray.mk (108 :: E).toArray ++ ByteArray.mk #[58, 10] = ⟨(labA l i).toArray⟩) := Lib.hid ((str_app (108 :: E) [58, 10]).trans (by rw [HLA.out]; rfl))
              obtain ⟨LB, hLB⟩ : ∃ LB, labA l i = LB := ⟨_, rfl⟩
              rw [hLB] at HLE HTT hll2
              clear hLB
              go_upto_region 31 with (first | (go_at_call 11; refine (CL.out _ (Tab10.ext HT.out (HXR.out.trans HX.out))).mono ?_; rintro e w8 ⟨rfl, hx8⟩; have HB8 := Lib.hid (bld_ext HBL.out hx8)) | (go_at_call 15; refine (pwrite_of LB HLE.out HB8.out (by omega) (by have := HSZ.out; have := hx8.size; omega)).mono ?_; rintro e w9 ⟨rfl, hb9, hw9⟩))
              have HBT : Hid (Bld sb sb T' w9) := Lib.hid (by rw [HTT.out]; exact hb9)
              have HXT : Hid (Ext wB w9) := Lib.hid (by
                have h1 : Ext wB w8 := HX.out.trans hx8
                rw [← HSB.out] at hw9
                exact Below.trans h1 hw9)
              clear hb9 hw9 hx8 HB8 HBL HX
              generalize w9 = wt at *
            case' false =>
              have HBT : Hid (Bld sb sb T' wr) := Lib.hid (by rw [HTT.out, HLA.out, if_neg (by decide), List.append_nil]; exact HBL.out)
              go_upto_region 31 with (fail)
              have HXT := HX
              clear HBL HX
              generalize wr = wt at *
            all_goals
              clear HLA CL hdl hmi hiq hll2 HTT
              have HSZ2 : Hid (sb ≤ wt.heap.size) := Lib.hid (by have := HXT.out.size; have := HSB.out; omega)
              by_cases hil : i < l.length
              · have hib : ∀ w', (Instr.indexAt 41 (.slice (some ⟨bb, 0, none⟩) l.length l.length) (.int .i64 (i : Int))).run Tryd.prog w' = .ok (.pointer (some ⟨bb, i, none⟩)) w' := fun w' => ix_blk slStrA bb hil (by unfold maxLen; omega) w'
                have hbi := (HB.out.ext HXT.out).cell i
                rw [HBA.out i hil] at hbi
                have hle := HLR.out i hil
                have HTN : Hid (T' ++ (lineA l.length (nthI l i) ++ [10]) = textU sz l (i + 1)) := Lib.hid (by rw [HT'.out, textU_succ, rowA_eq, if_pos hil]; simp only [List.append_assoc])
                obtain ⟨L, hL⟩ : ∃ L, lineA l.length (nthI l i) = L := ⟨_, rfl⟩
                rw [hL] at hbi hle HTN
                have HLE : Hid (ByteArray.mk L.toArray ++ ByteArray.mk #[10] = ⟨(L ++ [10]).toArray⟩) := Lib.hid (str_app L [10])
                have hle2 : (L ++ [10]).length ≤ 74 := by rw [List.length_append]; simp; omega
                clear hL
                go_wp2_with (go_at_call 15; refine (pwrite_of (L ++ [10]) HLE.out HBT.out (by omega) HSZ2.out).mono ?_; rintro e wu ⟨rfl, hbu, hwu⟩)
                have HXU : Hid (Ext wB wu) := Lib.hid (by
                  have h1 := HXT.out
                  rw [← HSB.out] at hwu
                  exact Below.trans h1 hwu)
                go_roundw
                case rel => exact ⟨i + 1, by omega, by go_num, Lib.hid (by rw [← HTN.out]; exact hbu), HXU⟩
                case measure => simp [intOf]; omega
              · obtain rfl : i = l.length := by omega
                have HTN : Hid (T' = textU sz l (l.length + 1)) := Lib.hid (by rw [HT'.out, textU_succ, rowA_eq, if_neg (by omega), List.append_nil])
                go_wp2_with fail
                go_roundw
                case rel => exact ⟨l.length + 1, by omega, by go_num, Lib.hid (by rw [← HTN.out]; exact HBT.out), HXT⟩
                case measure => simp [intOf]
          · obtain rfl : i = l.length + 1 := by omega
            have CT := Lib.hid (ptext_any HBL.out (by have := HX.out.size; have := HSB.out; omega))
            have HTA : Hid (textU sz l (l.length + 1) = textA sz l) := Lib.hid rfl
            rw [HTA.out] at CT
            obtain ⟨V, hV⟩ : ∃ V, textA sz l = V := ⟨_, rfl⟩
            rw [hV] at CT HP
            clear hV HTA HBL HTX HWM HBA
            go_wp2_with (go_at_call 16; refine CT.out.mono ?_; rintro e wu ⟨rfl, hwu⟩)
            go_ret2
            exact ⟨by rw [HE.out, HP.out]; trivial, HXR.out.trans (by have h1 : Ext wB wr := HX.out; rw [← HSB.out] at hwu; exact Below.trans h1 hwu)⟩
end
end Go.Proofs.YtnkcldhjbhdejaaDoor
