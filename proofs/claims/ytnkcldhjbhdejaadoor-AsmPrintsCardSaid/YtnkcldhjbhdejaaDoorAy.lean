/- Code as text, the document's side: the text of code: contract. -/
import Derived.Test.YtnkcldhjbhdejaaDoorAx
import Derived.BigRegion
import Derived.BigQuiet
import Derived.Deep.RegionHeld3
import Derived.Deep.DrawnRows
namespace Go.Att
open Go.RowKit
/-- What is wanted so far. -/
def mkA (l : List In4) (i : Nat) (x : In4) (j : Nat) : List Value := (List.range (l.length + 1)).map fun t => Value.bool (wantA l t i || hitA l.length x t j)
theorem mkA_length (l : List In4) (i : Nat) (x : In4) (j : Nat) : (mkA l i x j).length = l.length + 1 := by simp [mkA]
theorem mkA_zero (l : List In4) (x : In4) : mkA l 0 x 0 = List.replicate (l.length + 1) (.bool false) := by
  apply List.ext_getElem (by simp [mkA])
  intro k h1 h2
  simp [mkA, wantA, hitA]
theorem mkA_next (l : List In4) (i : Nat) (x y : In4) (hx : x = nthI l i) : mkA l i x (opsA x.op.toNat).length = mkA l (i + 1) y 0 := by
  subst hx
  unfold mkA
  apply List.map_congr_left
  intro t _
  rw [wantA_succ]
  simp [hitA]
theorem mkA_skip (l : List In4) (i : Nat) (x : In4) (j : Nat) (h : goA l.length x j = false) : mkA l i x (j + 1) = mkA l i x j := by
  unfold mkA
  apply List.map_congr_left
  intro t _
  rw [hitA_succ, h]; simp
theorem mkA_set (l : List In4) (i : Nat) (x : In4) (j q : Nat) (h : goA l.length x j = true) (hv : valA x j = (q : Int)) (_hq : q ≤ l.length) : (mkA l i x j).set q (.bool true) = mkA l i x (j + 1) := by
  apply List.ext_getElem (by simp [mkA])
  intro k h1 h2
  simp only [mkA, List.getElem_set, List.getElem_map, List.getElem_range, hitA_succ, h, hv]
  by_cases hk : q = k
  · subst hk; simp
  · rw [if_neg hk]
    have : ((q : Int) == (k : Int)) = false := by rw [beq_eq_false_iff_ne]; omega
    rw [this]; simp
theorem mkA_at (l : List In4) (x : In4) (k : Nat) (hk : k ≤ l.length) : (mkA l l.length x 0)[k]? = some (.bool (wantA l k l.length)) := by
  unfold mkA
  rw [List.getElem?_map, List.getElem?_range (by omega)]
  simp [hitA]
theorem all_right {l : List In4} (h : ∀ k, k < l.length → rightA (nthI l k) = true) : l.all rightA = true := by
  rw [List.all_eq_true]
  intro x hx
  obtain ⟨i, hi, rfl⟩ := List.getElem_of_mem hx
  have := h i hi
  rwa [nthI_eq hi] at this
theorem not_all_right {l : List In4} {k : Nat} (hk : k < l.length) (h : rightA (nthI l k) = false) : l.all rightA = false := by
  rw [nthI_eq hk] at h
  rw [List.all_eq_false]
  exact ⟨l[k], List.getElem_mem hk, by rw [h]; simp⟩
theorem ext_nil {w w' : World} (h : w.grownBy w' none) : Ext w w' := ⟨h.os, h.tape, h.output, h.size, fun i hi => h.block i hi (by simp)⟩
theorem opdA_eq (N : Nat) (x : In4) (i : Nat) : opdA N x i = if goA N x i = true then 108 :: Lib.itoa (valA x i) else Lib.itoa (valA x i) := by rw [opdA]
theorem str_app4 (a b c d : List UInt8) : (ByteArray.mk a.toArray) ++ (ByteArray.mk b.toArray) ++ (ByteArray.mk c.toArray) ++ (ByteArray.mk d.toArray) = ⟨(a ++ b ++ c ++ d).toArray⟩ := by
  rw [str_app a b, str_app (a ++ b) c, str_app (a ++ b ++ c) d]
theorem str_app3 (a b c : List UInt8) : (ByteArray.mk a.toArray) ++ (ByteArray.mk b.toArray) ++ (ByteArray.mk c.toArray) = ⟨(a ++ b ++ c).toArray⟩ := by
  rw [str_app a b, str_app (a ++ b) c]
/-- What the text of code comes to. -/
def PrtA (sz : Int) (l : List In4) : List UInt8 := if asmErr sz l = 0 then textA sz l else []
end Go.Att
namespace Go.Proofs.YtnkcldhjbhdejaaDoor
open Go.RowKit Go.Att
section
variable {w : World} {sz : Int} {lv : Value} {l : List In4}
set_option maxRecDepth 100000 in
set_option maxHeartbeats 8000000 in
theorem aprint_any (hc : Inqs w lv l) : Calls Tryd.prog 5 #[.agg #[.int .i64 sz, lv]] w fun e w' => e = .returned (.tuple #[.string ⟨(PrtA sz l).toArray⟩, .int .i64 (asmErr sz l)]) ∧ Ext w w' := by
  obtain ⟨ao, cap, rfl⟩ := hc.shape
  have hll := fun w' => hc.run_len (P := Tryd.prog) slIns 3 w'
  have hcl := hc.len
  have hx := Ext.alloc w (Obj.cells #[.int .i64 sz, .slice ao l.length cap] 24)
  have HX0 := Lib.hid hx; have HC := Lib.hid hc
  have HK := Lib.hid (BlkOf.new w [.int .i64 sz, .slice ao l.length cap] 24)
  by_cases hbig : 4096 < l.length
  · have HE := Lib.hid (show asmErr sz l = 9 from by unfold asmErr; rw [if_pos hbig])
    have HP := Lib.hid (show PrtA sz l = [] from by unfold PrtA; rw [HE.out, if_neg (by decide)])
    have hb : (4096 : Int) < (l.length : Int) := by omega
    clear hc hx hbig
    go_enter Tryd.func5, Tryd.ntmps5
    go_wp2_with fail
    go_ret2
    exact ⟨by rw [HE.out, HP.out]; trivial, HX0.out⟩
  by_cases hfs : fitsA sz = true
  rotate_left
  · have hfs' : fitsA sz = false := by simpa using hfs
    have HE := Lib.hid (show asmErr sz l = 3 from by unfold asmErr; rw [if_neg hbig, hfs']; rfl)
    have HP := Lib.hid (show PrtA sz l = [] from by unfold PrtA; rw [HE.out, if_neg (by decide)])
    have CF := Lib.hid (fun W => by have := afits_any sz W; rw [hfs'] at this; exact this)
    have hb : ¬ (4096 : Int) < (l.length : Int) := by omega
    clear hc hx hbig hfs hfs'
    go_enter Tryd.func5, Tryd.ntmps5
    go_wp2_with fail
    refine (CF.out _).mono ?_
    rintro e w' ⟨rfl, rfl⟩
    go_wp2_with fail
    go_ret2
    exact ⟨by rw [HE.out, HP.out]; trivial, HX0.out⟩
  have CF := Lib.hid (fun W => by have := afits_any sz W; rw [hfs] at this; exact this)
  have HFS := Lib.hid hfs
  have hb : ¬ (4096 : Int) < (l.length : Int) := by omega
  have hN : l.length ≤ 4096 := by omega
  clear hc hx hfs
  go_enter Tryd.func5, Tryd.ntmps5
  go_upto_region 1 with (fail)
  generalize w.alloc (Obj.cells #[.int .i64 sz, .slice ao l.length cap] 24) = W0 at *
  generalize hkb : w.heap.size = kb at *
  have HKB := Lib.hid hkb
  clear hkb
  have e0 : W0.cell? ⟨kb, 0, none⟩ = some (.int .i64 sz) := HK.out.cell 0
  have e1 : W0.cell? ⟨kb, 1, none⟩ = some (.slice ao l.length cap) := HK.out.cell 1
  go_wp2_with fail
  refine (CF.out _).mono ?_
  rintro e w' ⟨rfl, rfl⟩
  go_upto_region 7 with (fail)
  go_upto_region 8 with (refine wpList_mkB rfl _ _ 40 rfl slBoolA rfl (by decide) (n := l.length + 1) rfl rfl (by omega) (by omega) ?_; intro w1 hb1 hg1)
  have hx1 := ext_nil hg1
  have HX1 := Lib.hid (HX0.out.trans hx1); have HK1 := Lib.hid (HK.out.ext hx1)
  have HB1 : Hid (BlkOf w1 W0.heap.size (mkA l 0 ⟨0, 0, 0, 0⟩ 0) 4) := Lib.hid (by rw [mkA_zero]; exact hb1)
  have HMB : Hid (w.heap.size ≤ W0.heap.size) := Lib.hid HX0.out.size
  have HKM : Hid (kb < W0.heap.size) := Lib.hid HK.out.lt
  clear hb1 hg1 hx1 e0 e1 HX0 HK
  generalize W0.heap.size = mb at *
  go_upto_region 9 with (go_at_call 18; refine (aneeds_new _).mono ?_; rintro e w2 ⟨v2, rfl, hx2, hs2, hn2⟩)
  have HX2 := Lib.hid (HX1.out.trans hx2); have HK2 := Lib.hid (HK1.out.ext hx2); have HB2 := Lib.hid (HB1.out.ext hx2); have HS2 := Lib.hid hs2
  have HN2 : Hid (∀ k, v2.ownBlock = some k → k ≠ mb) := Lib.hid fun k hk e => by have h1 := hn2 k hk; have h2 := HB1.out.lt; omega
  clear hx2 hs2 hn2 HX1 HK1 HB1
  go_wp2_with fail
  go_loopw [8] (fun x8 wr => ∃ i : Nat, i ≤ l.length ∧ x8 = .int .i64 i ∧ Hid (BlkOf wr mb (mkA l i ⟨0, 0, 0, 0⟩ 0) 4) ∧ Hid (w2.grownBy wr (some mb)) ∧ Hid (∀ k, k < i → rightA (nthI l k) = true)) (fun x8 _ => l.length - (intOf x8).toNat)
  case atStart => exact ⟨0, Nat.zero_le _, rfl, HB2, Lib.hid (World.grownBy.refl _ _), Lib.hid fun k hk => by omega⟩
  case round =>
    clear HB2
    obtain ⟨i, hi, rfl, HB, HG, HR⟩ := hrel
    have HX := Lib.hid ((Turned.one (c := mb) HG.out).ext HX2.out HMB.out HMB.out)
    have HKR := Lib.hid (HK2.out.grown HG.out (fun e => by have := Option.some.inj e; have := HKM.out; omega))
    have e1 : wr.cell? ⟨kb, 1, none⟩ = some (.slice ao l.length cap) := HKR.out.cell 1
    by_cases hil : i < l.length
    · have hcr := HC.out.ext HX.out
      have hix := hcr.run_index (P := Tryd.prog) slIns i hil
      have c0 := hcr.c0 i hil
      have c1 := hcr.c1 i hil
      have c2 := hcr.c2 i hil
      have c3 := hcr.c3 i hil
      obtain ⟨x, hxe⟩ : ∃ x, nthI l i = x := ⟨_, rfl⟩
      rw [hxe] at c0 c1 c2 c3
      clear hcr
      go_upto_region 13 with (fail)
      have hxn := Ext.alloc wr (Obj.cells #[.int .i64 x.op, .int .i64 x.a, .int .i64 x.b, .int .i64 x.c] 37)
      have HBX := Lib.hid (BlkOf.new wr [.int .i64 x.op, .int .i64 x.a, .int .i64 x.b, .int .i64 x.c] 37)
      have HBM := Lib.hid (HB.out.ext hxn); have HGM := Lib.hid (HG.out.trans (hxn.grownBy _))
      have HKX := Lib.hid (HKR.out.ext hxn)
      have HXE := Lib.hid hxe
      have HXM : Hid (mb < wr.heap.size) := Lib.hid HB.out.lt
      clear c0 c1 c2 c3 e1 hix hxn HB HG HKR HX hxe
      generalize wr.alloc (Obj.cells #[.int .i64 x.op, .int .i64 x.a, .int .i64 x.b, .int .i64 x.c] 37) = W3 at *
      generalize wr.heap.size = xb at *
      have x0 : W3.cell? ⟨xb, 0, none⟩ = some (.int .i64 x.op) := HBX.out.cell 0
      have x1 : W3.cell? ⟨xb, 1, none⟩ = some (.int .i64 x.a) := HBX.out.cell 1
      have x2 : W3.cell? ⟨xb, 2, none⟩ = some (.int .i64 x.b) := HBX.out.cell 2
      have x3 : W3.cell? ⟨xb, 3, none⟩ = some (.int .i64 x.c) := HBX.out.cell 3
      by_cases hr : rightA x = true
      rotate_left
      · have hr' : rightA x = false := by simpa using hr
        have HE := Lib.hid (show asmErr sz l = 3 from by unfold asmErr; rw [if_neg hbig, not_all_right hil (by rw [HXE.out]; exact hr'), Bool.and_false]; rfl)
        have HP := Lib.hid (show PrtA sz l = [] from by unfold PrtA; rw [HE.out, if_neg (by decide)])
        have CP := Lib.hid (fun W => by have := aproper_any x W; rw [hr'] at this; exact this)
        have HXZ := Lib.hid ((Turned.one (c := mb) HGM.out).ext HX2.out HMB.out HMB.out)
        clear hr hr'
        go_wp2_with fail
        refine (CP.out _).mono ?_
        rintro e w4 ⟨rfl, hx4⟩
        go_wp2_with fail
        go_ret2
        exact ⟨by rw [HE.out, HP.out]; trivial, HXZ.out.trans hx4⟩
      have CP := Lib.hid (fun W => by have := aproper_any x W; rw [hr] at this; exact this)
      have HRX := Lib.hid hr
      obtain ⟨k, hk⟩ := Int.eq_ofNat_of_zero_le (rightA_op hr).1
      have hk14 : k < 14 := by have := (rightA_op hr).2; omega
      have HOP := Lib.hid hk
      clear hr hk
      go_wp2_with fail
      refine (CP.out _).mono ?_
      rintro e w4 ⟨rfl, hx4⟩
      have HB4 := Lib.hid (HBM.out.ext hx4); have HG4 := Lib.hid (HGM.out.trans (hx4.grownBy _)); have HX4 := Lib.hid (HBX.out.ext hx4)
      clear hx4 x0 x1 x2 x3 HBM HGM HBX HKX CP
      go_upto_region 16 with (fail)
      have x0 : w4.cell? ⟨xb, 0, none⟩ = some (.int .i64 (k : Int)) := by rw [HX4.out.cell, ← HOP.out]; rfl
      have hs4 := Strs.grown HS2.out HG4.out HN2.out
      have hi4 := Sl.run_index (P := Tryd.prog) hs4 slStrA k (by omega) (by simp [needsA]; omega)
      rw [Int.toNat_natCast] at hi4
      have hc4 := hs4.cell (i := k) (by simp [needsA]; omega)
      rw [show needsA[k]'(by simp [needsA]; omega) = needA k by simp [needsA]] at hc4
      clear hs4
      have hNA := need_len k hk14
      have HAT := Lib.hid (need_at k hk14)
      have HIX := Lib.hid (fun i (h : i < (needA k).length) w' => str_index (needA k) i h w')
      have hN3 := opsA_len k
      obtain ⟨m, hm⟩ : ∃ m, (opsA k).length = m := ⟨_, rfl⟩
      rw [hm] at hNA hN3
      have HM := Lib.hid hm; have HNA := Lib.hid hNA
      have HB5 : Hid (BlkOf w4 mb (mkA l i x 0) 4) := Lib.hid (by have := HB4.out; unfold mkA at this ⊢; exact this)
      have hsz : ((needA k).length : Int) = m := by rw [HNA.out]
      go_wp2_with fail
      obtain ⟨wo, hwo⟩ : ∃ wo : World, wo = wr := ⟨_, rfl⟩
      clear hwo
      go_loopw [12] (fun x12 ws => ∃ j : Nat, j ≤ m ∧ x12 = .int .i64 j ∧ Hid (BlkOf ws mb (mkA l i x j) 4) ∧ Hid (BlkOf ws xb [.int .i64 x.op, .int .i64 x.a, .int .i64 x.b, .int .i64 x.c] 37) ∧ Hid (w2.grownBy ws (some mb))) (fun x12 _ => m - (intOf x12).toNat)
      case atStart => exact ⟨0, Nat.zero_le _, rfl, HB5, HX4, HG4⟩
      case round =>
        clear HB5 HX4 HG4 HB4 x0 hi4 hc4 hm hNA
        obtain ⟨j, hj, rfl, HBJ, HXJ, HGJ⟩ := hrel
        by_cases hjm : j < m
        · have hj3 : j < 3 := by omega
          have hix := HIX.out j (by rw [HNA.out]; exact hjm)
          have hat := HAT.out j (by rw [HM.out]; exact hjm)
          rw [hat] at hix
          clear hat
          obtain ⟨t, ht⟩ : ∃ t, (opsA k).getD j false = t := ⟨_, rfl⟩
          rw [ht] at hix
          obtain ⟨c, hcl⟩ : ∃ c, letA t j = c := ⟨_, rfl⟩
          rw [hcl] at hix
          have HGO : Hid (goA l.length x j = (t && decide (0 ≤ valA x j ∧ valA x j ≤ l.length))) := Lib.hid (by unfold goA; rw [HOP.out, Int.toNat_natCast, ht])
          have CG := Lib.hid (aget_c x t j hj3 hcl)
          have HCL := Lib.hid (let_c hcl)
          have q0 : wr.cell? ⟨xb, 0, none⟩ = some (.int .i64 x.op) := HXJ.out.cell 0
          have q1 : wr.cell? ⟨xb, 1, none⟩ = some (.int .i64 x.a) := HXJ.out.cell 1
          have q2 : wr.cell? ⟨xb, 2, none⟩ = some (.int .i64 x.b) := HXJ.out.cell 2
          have q3 : wr.cell? ⟨xb, 3, none⟩ = some (.int .i64 x.c) := HXJ.out.cell 3
          clear ht hcl
          obtain ⟨y, hvq⟩ : ∃ y, valA x j = y := ⟨_, rfl⟩
          rw [hvq] at HGO CG
          have HVQ := Lib.hid hvq
          clear hvq
          go_upto_region 20 with (fail)
          go_region_held3 (fun w' => w'.cell? ⟨xb, 0, none⟩ = some (.int .i64 x.op) ∧ w'.cell? ⟨xb, 1, none⟩ = some (.int .i64 x.a) ∧ w'.cell? ⟨xb, 2, none⟩ = some (.int .i64 x.b) ∧ w'.cell? ⟨xb, 3, none⟩ = some (.int .i64 x.c)) (first | exact ⟨hx5.cell ((Ext.drew wr).cell q0), hx5.cell ((Ext.drew wr).cell q1), hx5.cell ((Ext.drew wr).cell q2), hx5.cell ((Ext.drew wr).cell q3)⟩ | exact ⟨(Ext.drew wr).cell q0, (Ext.drew wr).cell q1, (Ext.drew wr).cell q2, (Ext.drew wr).cell q3⟩ | go_keep) (first | (go_at_call 20; refine (CG.out _).mono ?_; rintro e w5 ⟨rfl, hx5⟩))
          have HB6 := Lib.hid (HBJ.out.ext ((Ext.drew wr).trans hx5)); have HX6 := Lib.hid (HXJ.out.ext ((Ext.drew wr).trans hx5)); have HG6 := Lib.hid (HGJ.out.trans (((Ext.drew wr).trans hx5).grownBy _))
          clear q0 q1 q2 q3 HBJ HXJ HGJ hx5 CG
          have HSK : Hid (goA l.length x j = false → BlkOf w5 mb (mkA l i x (j + 1)) 4) := Lib.hid fun h => by rw [mkA_skip l i x j h]; exact HB6.out
          cases t with
          | false =>
            have HBN : Hid (BlkOf w5 mb (mkA l i x (j + 1)) 4) := Lib.hid (HSK.out (by rw [HGO.out]; rfl))
            have hc97 : ¬ c < 97 := by have := HCL.out; simp at this; omega
            go_wp2_with fail
            go_roundw
            case rel => exact ⟨j + 1, by omega, by go_num, HBN, HX6, HG6⟩
            case measure => simp [intOf]; omega
          | true =>
            have hc97 : c < 97 := by have := HCL.out; simp at this; omega
            by_cases hy0 : 0 ≤ y
            rotate_left
            · have HBN : Hid (BlkOf w5 mb (mkA l i x (j + 1)) 4) := Lib.hid (HSK.out (by rw [HGO.out, decide_eq_false (by omega)]; rfl))
              go_wp2_with fail
              go_roundw
              case rel => exact ⟨j + 1, by omega, by go_num, HBN, HX6, HG6⟩
              case measure => simp [intOf]; omega
            by_cases hyn : y ≤ l.length
            rotate_left
            · have HBN : Hid (BlkOf w5 mb (mkA l i x (j + 1)) 4) := Lib.hid (HSK.out (by rw [HGO.out, decide_eq_false (by omega)]; rfl))
              go_wp2_with fail
              go_roundw
              case rel => exact ⟨j + 1, by omega, by go_num, HBN, HX6, HG6⟩
              case measure => simp [intOf]; omega
            obtain ⟨q, rfl⟩ := Int.eq_ofNat_of_zero_le hy0
            have hqn : q ≤ l.length := by omega
            have HTR : Hid (goA l.length x j = true) := Lib.hid (by rw [HGO.out, decide_eq_true (by omega)]; rfl)
            obtain ⟨yb, d0⟩ : ∃ yb, w5.cell? ⟨mb, q, none⟩ = some yb := ⟨_, by rw [HB6.out.cell]; exact List.getElem?_eq_getElem (by rw [mkA_length]; omega)⟩
            have d1 := HB6.out.free q
            have hiq : ∀ w', (Instr.indexAt 40 (.slice (some ⟨mb, 0, none⟩) (l.length + 1) (l.length + 1)) (.int .i64 (q : Int))).run Tryd.prog w' = .ok (.pointer (some ⟨mb, q, none⟩)) w' := fun w' => ix_blk slBoolA mb (by omega) (by unfold maxLen; omega) w'
            have HGS := Lib.hid (setCell_grown w5 mb q (.bool true))
            have HBN : Hid (BlkOf (w5.setCell ⟨mb, q, none⟩ (.bool true)) mb (mkA l i x (j + 1)) 4) := Lib.hid (by rw [← mkA_set l i x j q HTR.out HVQ.out hqn]; exact HB6.out.set q (.bool true))
            go_wp2_with fail
            go_roundw
            case rel => exact ⟨j + 1, by omega, by go_num, HBN, Lib.hid (HX6.out.grown HGS.out (fun e => by have := Option.some.inj e; have := HXM.out; omega)), Lib.hid (grown_one HG6.out HGS.out)⟩
            case measure => simp [intOf]; omega
        · obtain rfl : j = m := by omega
          have HBN : Hid (BlkOf wr mb (mkA l (i + 1) ⟨0, 0, 0, 0⟩ 0) 4) := Lib.hid (by
            have := HBJ.out
            rw [← HM.out, show k = x.op.toNat by rw [HOP.out, Int.toNat_natCast], mkA_next l i x ⟨0, 0, 0, 0⟩ HXE.out.symm] at this
            exact this)
          have HRN : Hid (∀ k, k < i + 1 → rightA (nthI l k) = true) := Lib.hid fun k hk => by
            by_cases e : k = i
            · subst e; rw [HXE.out]; exact HRX.out
            · exact HR.out k (by omega)
          clear HBJ
          go_wp2_with fail
          go_roundw
          case rel => exact ⟨i + 1, by omega, by go_num, HBN, HGJ, HRN⟩
          case measure => simp [intOf]; omega
    · obtain rfl : i = l.length := by omega
      have HE := Lib.hid (show asmErr sz l = 0 from by unfold asmErr; rw [if_neg hbig, HFS.out, all_right HR.out]; rfl)
      have HP := Lib.hid (show PrtA sz l = textA sz l from by unfold PrtA; rw [HE.out, if_pos rfl])
      have HTX := Lib.hid (fun k (hk : k ≤ l.length + 1) => textU_le sz l HFS.out HR.out hN k hk)
      have HWM := Lib.hid (fun k (hk : k ≤ l.length) => mkA_at l ⟨0, 0, 0, 0⟩ k hk)
      have CD := Lib.hid (fun W => adigits_any sz HFS.out W)
      have HKR := Lib.hid (HK2.out.grown HG.out (fun e => by have := Option.some.inj e; have := HKM.out; omega))
      have HNS := Lib.hid (Strs.grown HS2.out HG.out HN2.out)
      have e0 : wr.cell? ⟨kb, 0, none⟩ = some (.int .i64 sz) := HKR.out.cell 0
      have hzl := itoa_le sz HFS.out
      have HT0 : Hid (textU sz l 0 = [115, 105, 122, 101, 32] ++ Lib.itoa sz ++ [10]) := Lib.hid (by simp [textU])
      clear CF HN2 hil HK2 HG HS2 e1 hbig
      obtain ⟨D, hD⟩ : ∃ D, Lib.itoa sz = D := ⟨_, rfl⟩
      rw [hD] at CD HT0 hzl
      clear hD
      go_wp2_with fail
      refine (CD.out _).mono ?_
      rintro e w' ⟨rfl, rfl⟩
      clear CD
      go_upto_region 26 with (go_at_call 22; refine (awords_any _).mono ?_; rintro e w3 ⟨v3, rfl, hx3, hs3⟩)
      have HX3 := Lib.hid (HX.out.trans hx3); have HK3 := Lib.hid (HKR.out.ext hx3); have HB3 := Lib.hid (HB.out.ext hx3); have HNS3 := Lib.hid (HNS.out.ext hx3); have HS3 := Lib.hid hs3
      clear hx3 hs3 HX HKR HB HNS e0
      rw [show (ByteArray.mk #[115, 105, 122, 101, 32] ++ ByteArray.mk D.toArray ++ ByteArray.mk #[10]) = ⟨(textU sz l 0).toArray⟩ from by rw [HT0.out, ← str_app, ← str_app]]
      clear HT0 hzl
      go_wp2_with fail
      go_loopw [14, 15, 17] (fun _ x15 x17 ws => ∃ i : Nat, i ≤ l.length ∧ x17 = .int .i64 i ∧ x15 = .string ⟨(textU sz l i).toArray⟩ ∧ Hid (Ext w3 ws)) (fun _ _ x17 _ => l.length + 1 - (intOf x17).toNat)
      case atStart => exact ⟨0, Nat.zero_le _, rfl, rfl, Lib.hid (Ext.refl _)⟩
      case round =>
        obtain ⟨i, hi, rfl, hx15, HX⟩ := hrel
        obtain ⟨T, hT⟩ : ∃ T, textU sz l i = T := ⟨_, rfl⟩
        have hTl := HTX.out i (by omega)
        rw [hT] at hx15 hTl
        subst hx15
        have HT := Lib.hid hT
        have hTb : T.length ≤ 1000000 := by omega
        clear hT hTl
        have hmi := (HB3.out.ext HX.out).cell i
        rw [HWM.out i hi] at hmi
        have hiq : ∀ w', (Instr.indexAt 40 (.slice (some ⟨mb, 0, none⟩) (l.length + 1) (l.length + 1)) (.int .i64 (i : Int))).run Tryd.prog w' = .ok (.pointer (some ⟨mb, i, none⟩)) w' := fun w' => ix_blk slBoolA mb (by omega) (by unfold maxLen; omega) w'
        have hil : (i : Int) ≤ (l.length : Int) := by omega
        obtain ⟨T', hT'⟩ : ∃ T', T' = T ++ labA l i := ⟨_, rfl⟩
        have hTb' : T'.length ≤ 1000100 := by have := labA_le l i (by omega); rw [hT', List.length_append]; omega
        have HT' : Hid (T' = textU sz l i ++ labA l i) := Lib.hid (by rw [HT.out, hT'])
        obtain ⟨hw, hwe⟩ : ∃ b, wantA l i l.length = b := ⟨_, rfl⟩
        rw [hwe] at hmi
        have HLA : Hid (labA l i = if hw = true then 108 :: (Lib.itoa i ++ [58, 10]) else []) := Lib.hid (by unfold labA; rw [hwe])
        have CD := Lib.hid (fun W => adigits_any (i : Int) (fitsA_nat (by omega)) W)
        have hdl := itoa_le (i : Int) (fitsA_nat (by omega))
        clear hwe
        cases hw
        case' true =>
          obtain ⟨E, hE⟩ : ∃ E, Lib.itoa (i : Int) = E := ⟨_, rfl⟩
          rw [hE] at CD hdl HLA
          go_upto_region 31 with (go_at_call 21; refine (CD.out _).mono ?_; rintro e w' ⟨rfl, rfl⟩)
          go_upto_region 32 with (fail)
          rw [show (ByteArray.mk T.toArray ++ ByteArray.mk #[108] ++ ByteArray.mk E.toArray ++ ByteArray.mk #[58, 10]) = ⟨T'.toArray⟩ from (str_app4 T [108] E [58, 10]).trans (by rw [hT', HLA.out]; simp)]
        case' false =>
          have hTe : T = T' := by rw [hT', HLA.out, if_neg (by decide)]; simp
          go_upto_region 32 with (fail)
          rw [hTe]
          clear hTe
        all_goals
          clear HLA CD hdl hmi hiq hT'
          by_cases hin : i < l.length
          rotate_left
          · obtain rfl : i = l.length := by omega
            have HTA : Hid (T' = textA sz l) := Lib.hid (by rw [HT'.out]; unfold textA; rw [textU_succ, rowA_eq, if_neg (by omega), List.append_nil])
            clear HT HT' HTX hin
            go_wp2_with fail
            go_ret2
            exact ⟨by rw [HE.out, HP.out, HTA.out]; trivial, HX3.out.trans HX.out⟩
          have hnb : ((i : Int) == (l.length : Int)) = false := by rw [beq_eq_false_iff_ne]; omega
          have e1 : wr.cell? ⟨kb, 1, none⟩ = some (.slice ao l.length cap) := (HK3.out.ext HX.out).cell 1
          have hcr := HC.out.ext (HX3.out.trans HX.out)
          have hix := hcr.run_index (P := Tryd.prog) slIns i hin
          have c0 := hcr.c0 i hin
          have c1 := hcr.c1 i hin
          have c2 := hcr.c2 i hin
          have c3 := hcr.c3 i hin
          obtain ⟨x, hxe⟩ : ∃ x, nthI l i = x := ⟨_, rfl⟩
          rw [hxe] at c0 c1 c2 c3
          have hr := HR.out i hin
          rw [hxe] at hr
          have hrv := rightA_val hr
          obtain ⟨k, hk⟩ := Int.eq_ofNat_of_zero_le (rightA_op hr).1
          have hk14 : k < 14 := by have := (rightA_op hr).2; omega
          have HOP := Lib.hid hk; have HXE := Lib.hid hxe; have HRV := Lib.hid hrv
          clear hcr hr hk hrv
          go_upto_region 35 with (fail)
          have hxn := Ext.alloc wr (Obj.cells #[.int .i64 x.op, .int .i64 x.a, .int .i64 x.b, .int .i64 x.c] 37)
          have HBX := Lib.hid (BlkOf.new wr [.int .i64 x.op, .int .i64 x.a, .int .i64 x.b, .int .i64 x.c] 37)
          have HX5 := Lib.hid (HX.out.trans hxn)
          clear c0 c1 c2 c3 e1 hix hxn hxe HX
          generalize wr.alloc (Obj.cells #[.int .i64 x.op, .int .i64 x.a, .int .i64 x.b, .int .i64 x.c] 37) = W5 at *
          generalize wr.heap.size = xb at *
          have x0 : W5.cell? ⟨xb, 0, none⟩ = some (.int .i64 (k : Int)) := by rw [HBX.out.cell, ← HOP.out]; rfl
          have hs5 := HS3.out.ext HX5.out
          have hn5 := HNS3.out.ext HX5.out
          have hi5 := Sl.run_index (P := Tryd.prog) hs5 slStrA k (by omega) (by simp [wordsA]; omega)
          have hi6 := Sl.run_index (P := Tryd.prog) hn5 slStrA k (by omega) (by simp [needsA]; omega)
          rw [Int.toNat_natCast] at hi5 hi6
          have hc5 := hs5.cell (i := k) (by simp [wordsA]; omega)
          have hc6 := hn5.cell (i := k) (by simp [needsA]; omega)
          rw [show wordsA[k]'(by simp [wordsA]; omega) = wordA k by simp [wordsA]] at hc5
          rw [show needsA[k]'(by simp [needsA]; omega) = needA k by simp [needsA]] at hc6
          have hwl := wordA_len k
          have hNA := need_len k hk14
          have HAT := Lib.hid (need_at k hk14)
          have HIX := Lib.hid (fun i (h : i < (needA k).length) w' => str_index (needA k) i h w')
          have hN3 := opsA_len k
          obtain ⟨m, hm⟩ : ∃ m, (opsA k).length = m := ⟨_, rfl⟩
          rw [hm] at hNA hN3
          have HM := Lib.hid hm; have HNA := Lib.hid hNA
          have hsz : ((needA k).length : Int) = m := by rw [HNA.out]
          have HLN : Hid (lineA l.length x = wordA k ++ opdsA l.length x m) := Lib.hid (by unfold lineA; rw [HOP.out, Int.toNat_natCast, HM.out])
          clear hs5 hn5 hm hNA
          obtain ⟨V, hV⟩ : ∃ V, wordA k = V := ⟨_, rfl⟩
          rw [hV] at hc5 hwl HLN
          clear hV
          go_upto_region 36 with (fail)
          rw [show (ByteArray.mk T'.toArray ++ ByteArray.mk V.toArray) = ⟨(T' ++ V ++ opdsA l.length x 0).toArray⟩ from by rw [str_app]; simp [opdsA]]
          go_wp2_with fail
          obtain ⟨wo, hwo⟩ : ∃ wo : World, wo = wr := ⟨_, rfl⟩
          clear hwo
          have hTV : (T' ++ V).length ≤ 1000104 := by rw [List.length_append]; omega
          have HTV : Hid (T' ++ V ++ opdsA l.length x m ++ [10] = textU sz l (i + 1)) := Lib.hid (by rw [HT'.out, textU_succ, rowA_eq, if_pos hin, HXE.out, HLN.out]; simp only [List.append_assoc])
          generalize T' ++ V = T2 at *
          clear hc5 hwl HLN hTb' hTb HT HT' HTX
          go_loopw [14, 15, 20] (fun _ x15 x20 ws => ∃ j : Nat, j ≤ m ∧ x20 = .int .i64 j ∧ x15 = .string ⟨(T2 ++ opdsA l.length x j).toArray⟩ ∧ Hid (BlkOf ws xb [.int .i64 x.op, .int .i64 x.a, .int .i64 x.b, .int .i64 x.c] 37) ∧ Hid (Ext w3 ws)) (fun _ _ x20 _ => m - (intOf x20).toNat)
          case atStart => exact ⟨0, Nat.zero_le _, rfl, rfl, HBX, HX5⟩
          case round =>
            clear HBX HX5 x0 hi5 hi6 hc6
            obtain ⟨j, hj, rfl, hx15, HXJ, HXX⟩ := hrel
            have hol := opdsA_le l.length x j (fun q hq => HRV.out q (by omega))
            by_cases hjm : j < m
            · have hj3 : j < 3 := by omega
              have hix := HIX.out j (by rw [HNA.out]; exact hjm)
              have hat := HAT.out j (by rw [HM.out]; exact hjm)
              rw [hat] at hix
              clear hat
              obtain ⟨t, ht⟩ : ∃ t, (opsA k).getD j false = t := ⟨_, rfl⟩
              rw [ht] at hix
              obtain ⟨c, hcl⟩ : ∃ c, letA t j = c := ⟨_, rfl⟩
              rw [hcl] at hix
              have HGO : Hid (goA l.length x j = (t && decide (0 ≤ valA x j ∧ valA x j ≤ l.length))) := Lib.hid (by unfold goA; rw [HOP.out, Int.toNat_natCast, ht])
              have CG := Lib.hid (aget_c x t j hj3 hcl)
              have HCL := Lib.hid (let_c hcl)
              have q0 : wr.cell? ⟨xb, 0, none⟩ = some (.int .i64 x.op) := HXJ.out.cell 0
              have q1 : wr.cell? ⟨xb, 1, none⟩ = some (.int .i64 x.a) := HXJ.out.cell 1
              have q2 : wr.cell? ⟨xb, 2, none⟩ = some (.int .i64 x.b) := HXJ.out.cell 2
              have q3 : wr.cell? ⟨xb, 3, none⟩ = some (.int .i64 x.c) := HXJ.out.cell 3
              have CD := Lib.hid (fun W => adigits_any (valA x j) (HRV.out j hj3) W)
              have hdl := itoa_le (valA x j) (HRV.out j hj3)
              have HOD : Hid (opdA l.length x j = if goA l.length x j = true then 108 :: Lib.itoa (valA x j) else Lib.itoa (valA x j)) := Lib.hid (opdA_eq l.length x j)
              have HOS := Lib.hid (opdsA_succ l.length x j)
              clear ht hcl
              obtain ⟨S, hS⟩ : ∃ S, T2 ++ opdsA l.length x j = S := ⟨_, rfl⟩
              have hSl : S.length ≤ 1000200 := by rw [← hS, List.length_append]; omega
              have HSS : Hid (T2 ++ opdsA l.length x (j + 1) = S ++ [32] ++ opdA l.length x j) := Lib.hid (by rw [HOS.out, ← hS]; simp)
              rw [hS] at hx15
              subst hx15
              clear hS hol HOS
              obtain ⟨E, hE⟩ : ∃ E, Lib.itoa (valA x j) = E := ⟨_, rfl⟩
              rw [hE] at CD hdl HOD
              obtain ⟨y, hvq⟩ : ∃ y, valA x j = y := ⟨_, rfl⟩
              rw [hvq] at HGO CG CD
              clear hvq hE
              go_upto_region 40 with (fail)
              go_region_held3 (fun w' => w'.cell? ⟨xb, 0, none⟩ = some (.int .i64 x.op) ∧ w'.cell? ⟨xb, 1, none⟩ = some (.int .i64 x.a) ∧ w'.cell? ⟨xb, 2, none⟩ = some (.int .i64 x.b) ∧ w'.cell? ⟨xb, 3, none⟩ = some (.int .i64 x.c)) (first | exact ⟨hx5.cell ((Ext.drew wr).cell q0), hx5.cell ((Ext.drew wr).cell q1), hx5.cell ((Ext.drew wr).cell q2), hx5.cell ((Ext.drew wr).cell q3)⟩ | exact ⟨(Ext.drew wr).cell q0, (Ext.drew wr).cell q1, (Ext.drew wr).cell q2, (Ext.drew wr).cell q3⟩ | go_keep) (first | (go_at_call 20; refine (CG.out _).mono ?_; rintro e w5 ⟨rfl, hx5⟩))
              have HX6 := Lib.hid (HXJ.out.ext ((Ext.drew wr).trans hx5)); have HXX6 := Lib.hid (HXX.out.trans ((Ext.drew wr).trans hx5))
              clear q0 q1 q2 q3 HXJ HXX hx5 CG
              go_wp2_with fail
              refine (CD.out _).mono ?_
              rintro e w' ⟨rfl, rfl⟩
              clear CD
              have HNO : goA l.length x j = false → Hid (ByteArray.mk S.toArray ++ ByteArray.mk #[32] ++ ByteArray.mk E.toArray = ⟨(T2 ++ opdsA l.length x (j + 1)).toArray⟩) := fun h => Lib.hid ((str_app3 S [32] E).trans (by rw [HSS.out, HOD.out, if_neg (by rw [h]; decide)]))
              cases t with
              | false =>
                have HN := HNO (by rw [HGO.out]; rfl)
                have hc97 : ¬ c < 97 := by have := HCL.out; simp at this; omega
                clear HNO
                go_wp2_with fail
                go_roundw
                case rel => exact ⟨j + 1, by omega, by go_num, by rw [HN.out], HX6, HXX6⟩
                case measure => simp [intOf]; omega
              | true =>
                have hc97 : c < 97 := by have := HCL.out; simp at this; omega
                by_cases hy0 : 0 ≤ y
                rotate_left
                · have HN := HNO (by rw [HGO.out, decide_eq_false (by omega)]; rfl)
                  clear HNO
                  go_wp2_with fail
                  go_roundw
                  case rel => exact ⟨j + 1, by omega, by go_num, by rw [HN.out], HX6, HXX6⟩
                  case measure => simp [intOf]; omega
                by_cases hyn : y ≤ l.length
                rotate_left
                · have HN := HNO (by rw [HGO.out, decide_eq_false (by omega)]; rfl)
                  clear HNO
                  go_wp2_with fail
                  go_roundw
                  case rel => exact ⟨j + 1, by omega, by go_num, by rw [HN.out], HX6, HXX6⟩
                  case measure => simp [intOf]; omega
                have HTR : Hid (goA l.length x j = true) := Lib.hid (by rw [HGO.out, decide_eq_true (by omega)]; rfl)
                have HN : Hid (ByteArray.mk S.toArray ++ ByteArray.mk #[32] ++ (ByteArray.mk #[108] ++ ByteArray.mk E.toArray) = ⟨(T2 ++ opdsA l.length x (j + 1)).toArray⟩) := Lib.hid (by
                  rw [show ByteArray.mk #[108] ++ ByteArray.mk E.toArray = ⟨([108] ++ E).toArray⟩ from str_app [108] E]
                  exact (str_app3 S [32] ([108] ++ E)).trans (by rw [HSS.out, HOD.out, if_pos HTR.out, List.singleton_append]))
                clear HNO
                go_wp2_with fail
                go_roundw
                case rel => exact ⟨j + 1, by omega, by go_num, by rw [HN.out], HX6, HXX6⟩
                case measure => simp [intOf]; omega
            · obtain rfl : j = m := by omega
              have hSl : (T2 ++ opdsA l.length x j).length ≤ 1000200 := by rw [List.length_append]; omega
              generalize T2 ++ opdsA l.length x j = S at *
              subst hx15
              have HN : Hid (ByteArray.mk S.toArray ++ ByteArray.mk #[10] = ⟨(textU sz l (i + 1)).toArray⟩) := Lib.hid ((str_app S [10]).trans (by rw [HTV.out]))
              clear hol
              go_wp2_with fail
              go_roundw
              case rel => exact ⟨i + 1, by omega, by go_num, by rw [HN.out], HXX⟩
              case measure => simp [intOf]; omega
end
end Go.Proofs.YtnkcldhjbhdejaaDoor
