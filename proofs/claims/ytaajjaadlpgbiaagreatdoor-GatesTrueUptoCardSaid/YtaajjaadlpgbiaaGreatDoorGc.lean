/- The chain of a circuit is begun, the document's side: contract. -/
import Derived.Test.YtaajjaadlpgbiaaGreatDoorGb
namespace Go.Proofs.YtaajjaadlpgbiaaGreatDoor
open Go.RowKit Go.Att
section
variable {w : World} {p : Int} {k : Nat} {wd : Int} {lv vo : Value} {Ls : List (List Tri)} {R : Nat → Value} {outs : List Int}
set_option maxRecDepth 100000 in
set_option maxHeartbeats 8000000 in
theorem rbeg_any (h23 : 23 ≤ p) (hp2 : p ≤ 2147483647) (hk : IsPw p k) (hv : LysAt w lv Ls R) (ho : Ints w vo outs) (hE : cirErr wd Ls = 0) (hol : outs.length ≤ 64) (n : Nat) (hn : wideOf outs.length = n) :
    Calls Tryz.prog 51 #[.int .i64 p, .agg #[.int .i64 wd, lv], vo] w (Gives w fun u w' => ∃ cb vz, u = .tuple #[.pointer (some ⟨cb, 0, none⟩), vz] ∧ w.heap.size ≤ cb ∧ ChD w' cb p (drwS p k (begS p k wd Ls outs) n) ∧ DigNew w w' cb ∧ Ints w' vz (drwL p k (begS p k wd Ls outs) n) ∧ ∀ q, vz.ownBlock = some q → w.heap.size ≤ q ∧ q ≠ cb ∧ q < w'.heap.size) := by
  have HKP := Lib.hid hk; have HV := Lib.hid hv; have HO := Lib.hid ho; have HE := Lib.hid hE
  obtain ⟨hS, hG⟩ := cirErr_ok hE
  have hlen8 : Ls.length ≤ 8 := hS.2.2.2.1
  have hlen1 : 1 ≤ Ls.length := hS.2.2.1
  have h64 := fun i (hi : i < Ls.length) => wideOf_le (hS.2.2.2.2 i hi)
  have HLL := Lib.hid (labL_len p wd Ls (fun i hi => by have := h64 i hi; omega))
  have H64 := Lib.hid h64
  obtain ⟨ao, cap, rfl⟩ := hv.shape
  have hll := hv.run_len (P := Tryz.prog) slLayers
  have hx1 := Ext.alloc w (Obj.cells #[.int .i64 wd, .slice ao Ls.length cap] 48)
  have HX1 := Lib.hid hx1
  have k0 := cell_new w #[.int .i64 wd, .slice ao Ls.length cap] 48 0
  have k1 := cell_new w #[.int .i64 wd, .slice ao Ls.length cap] 48 1
  have HK0 := Lib.hid k0; have HK1 := Lib.hid k1
  clear hk hv ho hE hS hG h64 hx1 k0 k1
  go_enter Tryz.func51, Tryz.ntmps51
  obtain ⟨w1, hw1⟩ : ∃ w1, w1 = w.alloc (Obj.cells #[.int .i64 wd, .slice ao Ls.length cap] 48) := ⟨_, rfl⟩
  have m0 : (w.alloc (Obj.cells #[.int .i64 wd, .slice ao Ls.length cap] 48)).cell? ⟨w.heap.size, 0, none⟩ = some (.int .i64 wd) := HK0.out
  have m1 : (w.alloc (Obj.cells #[.int .i64 wd, .slice ao Ls.length cap] 48)).cell? ⟨w.heap.size, 1, none⟩ = some (.slice ao Ls.length cap) := HK1.out
  go_upto_region 1 with (fail)
  rw [← hw1] at HX1 HK0 HK1 m0 m1 ⊢
  have HV1 := Lib.hid (HV.out.ext HX1.out)
  have HSZ := Lib.hid (show w.heap.size < w1.heap.size from by rw [hw1]; simp)
  clear hw1
  have HX3 := Lib.hid ((Ext.alloc w1 (Obj.cells #[.int .i64 p, .int .i64 wd, .int .i64 (Ls.length : Nat)] 3)))
  have HO3 := Lib.hid (own_litB (W := w1) (B := w1.heap.size) [.int .i64 p, .int .i64 wd, .int .i64 (Ls.length : Nat)] 3 (by simp) (Nat.le_refl _))
  have q1 := (Ext.alloc w1 (Obj.cells #[.int .i64 p, .int .i64 wd, .int .i64 (Ls.length : Nat)] 3)).cell m1
  go_wp2_with fail
  have HOL := Lib.hid (show (w1.alloc (Obj.cells #[.int .i64 p, .int .i64 wd, .int .i64 (Ls.length : Nat)] 3)).ownsRow w1.heap.size 3 1 (.slice (some ⟨w1.heap.size, 0, none⟩) 3 3) (labL p wd Ls 0).length ((labL p wd Ls 0).map (Value.int .i64)) from HO3.out)
  generalize w1.alloc (Obj.cells #[.int .i64 p, .int .i64 wd, .int .i64 (Ls.length : Nat)] 3) = w3 at *
  clear m0 m1 q1 HO3
  go_loopw [8, 9, 10, 11] (fun x8 x9 _ _ wr => ∃ i : Nat, i ≤ Ls.length ∧ x9 = .int .i64 i ∧ Hid (wr.ownsRow w1.heap.size 3 1 x8 (labL p wd Ls i).length ((labL p wd Ls i).map (Value.int .i64))) ∧ Hid (Ext w1 wr)) (fun _ x9 _ _ _ => Ls.length - (intOf x9).toNat)
  case atStart => exact ⟨0, Nat.zero_le _, rfl, HOL, HX3⟩
  case round =>
    clear HOL HX3
    obtain ⟨i, hi, rfl, HOW, HXW⟩ := hrel
    by_cases hin : i < Ls.length
    · have hq1 : wr.cell? ⟨w.heap.size, 1, none⟩ = some (.slice ao Ls.length cap) := HXW.out.cell HK1.out
      have hV := HV1.out.ext HXW.out
      have hix := hV.run_index (P := Tryz.prog) slLayers i hin
      have hcc := hV.cell i hin
      have hrow := hV.row i hin
      have hln := hrow.run_len (P := Tryz.prog) slGates
      have h64 := H64.out i hin
      have hr1 := HV1.out.row i hin
      have hll9 := HLL.out i hi
      have HSN := Lib.hid (labL_snoc p wd Ls i hin)
      obtain ⟨M, hM⟩ : ∃ M, (nthY Ls i).length = M := ⟨_, rfl⟩
      have HM := Lib.hid hM
      have HLS := Lib.hid (layU_snoc (nthY Ls i)); have HL0 := Lib.hid (layU_zero (nthY Ls i)); have HLN := Lib.hid (layU_len (nthY Ls i))
      rw [hM] at hln h64
      have HOWo := HOW.out; have HXWo := HXW.out
      have HCI := Lib.hid (fun W (hx : Ext w1 W) => hx.cell (HV1.out.cell i hin))
      have HIX := Lib.hid (HV1.out.run_index (P := Tryz.prog) slLayers i hin)
      have HLN1 := Lib.hid hln
      generalize R i = ri at *
      obtain ⟨L, hL⟩ : ∃ L, labL p wd Ls i = L := ⟨_, rfl⟩
      have HL := Lib.hid hL
      rw [hL] at HOWo hll9
      clear hV hrow hM hL HXW
      go_wp2_with (at_builtin; refine wpList_appNw rfl _ _ 23 rfl slInts rfl HXWo.size HOWo rfl _ rfl (by intro u hu; simp at hu; subst hu; rfl) rfl (by omega) (by omega) ?_; intro v4 w4 HO4 HG4 _; have HX4 := Ext.own_grown HXWo HOWo HG4; have hq4 := HX4.cell HK1.out; have hc4 := HCI.out _ HX4)
      have HO40 := Lib.hid (show w4.ownsRow w1.heap.size 3 1 v4 (L ++ layU (nthY Ls i) 0).length ((L ++ layU (nthY Ls i) 0).map (Value.int .i64)) from by rw [HL0.out, HM.out, List.length_append, List.map_append]; exact HO4)
      have HX40 := Lib.hid HX4
      clear HO4 HG4 HX4 hix hcc hln HOWo HXWo HOW hq1 hq4 hc4
      go_loopw [8, 10, 11] (fun x8 x10 _ wq => ∃ k : Nat, k ≤ M ∧ x10 = .int .i64 k ∧ Hid (wq.ownsRow w1.heap.size 3 1 x8 (L ++ layU (nthY Ls i) k).length ((L ++ layU (nthY Ls i) k).map (Value.int .i64))) ∧ Hid (Ext w1 wq)) (fun _ x10 _ _ => M - (intOf x10).toNat)
      case atStart => exact ⟨0, Nat.zero_le _, rfl, HO40, HX40⟩
      case round =>
        clear HO40 HX40
        obtain ⟨k2, hk2, rfl, HOW, HXW⟩ := hrel
        have HRW := Lib.hid (hr1.ext HXW.out)
        have hq1 : wr.cell? ⟨w.heap.size, 1, none⟩ = some (.slice ao Ls.length cap) := HXW.out.cell HK1.out
        have hci := HCI.out _ HXW.out
        have hix := HIX.out
        have hln := HLN1.out
        by_cases hkm : k2 < M
        · have hix2 := HRW.out.run_index (P := Tryz.prog) slGates k2 (by rw [HM.out]; exact hkm)
          have g0 := HRW.out.c0 k2 (by rw [HM.out]; exact hkm)
          have g1 := HRW.out.c1 k2 (by rw [HM.out]; exact hkm)
          have g2 := HRW.out.c2 k2 (by rw [HM.out]; exact hkm)
          have hst := HLS.out k2 (by rw [HM.out]; exact hkm)
          have hln9 := HLN.out k2 (by rw [HM.out]; exact hk2)
          generalize nthT (nthY Ls i) k2 = G at g0 g1 g2 hst
          obtain ⟨gk, ga, gb⟩ := G
          have HST := Lib.hid hst
          have HXa := Ext.alloc wr (Obj.cells #[.int .i64 gk, .int .i64 ga, .int .i64 gb] 61)
          have HQ0 := cell_new wr #[.int .i64 gk, .int .i64 ga, .int .i64 gb] 61 0
          have HQ1 := cell_new wr #[.int .i64 gk, .int .i64 ga, .int .i64 gb] 61 1
          have HQ2 := cell_new wr #[.int .i64 gk, .int .i64 ga, .int .i64 gb] 61 2
          have HXb := HXa.trans (Ext.alloc (wr.alloc (Obj.cells #[.int .i64 gk, .int .i64 ga, .int .i64 gb] 61)) (Obj.cells #[.int .i64 gk, .int .i64 ga, .int .i64 gb] 3))
          have HXB := Lib.hid HXb
          have hsl := sl_lit (wr.alloc (Obj.cells #[.int .i64 gk, .int .i64 ga, .int .i64 gb] 61)) [.int .i64 gk, .int .i64 ga, .int .i64 gb] 3 (by simp)
          rw [World.size_alloc] at hsl
          have HSL := Lib.hid hsl
          have HTL := Lib.hid (show ((L ++ layU (nthY Ls i) k2).length : Nat) ≤ 4294960000 from by rw [List.length_append, hln9]; omega)
          obtain ⟨L2, hL2⟩ : ∃ L2, L ++ layU (nthY Ls i) k2 = L2 := ⟨_, rfl⟩
          rw [hL2] at HOW HTL
          have HL2 := Lib.hid hL2
          clear hst hsl HXa HXb hL2
          go_wp2_with (at_builtin; refine wpList_appSl rfl _ _ 23 rfl slInts rfl (HXW.out.trans HXB.out) (own_ext HOW.out HXB.out) rfl HSL.out (by intro u hu; simp at hu; rcases hu with rfl | rfl | rfl <;> rfl) rfl (by have := HTL.out; simp; omega) (by omega) ?_; intro v6 w6 HO6 HX6 HG6)
          go_roundw
          case rel => exact ⟨k2 + 1, by omega, by go_num, Lib.hid (by rw [HST.out, ← List.append_assoc, HL2.out, List.length_append, List.map_append]; exact HO6), Lib.hid HX6⟩
          case measure => simp [intOf]; omega
        · obtain rfl : k2 = M := by omega
          have HOZ := Lib.hid (show wr.ownsRow w1.heap.size 3 1 _ (labL p wd Ls (i + 1)).length ((labL p wd Ls (i + 1)).map (Value.int .i64)) from by rw [HSN.out, HL.out, HM.out]; exact HOW.out)
          go_wp2_with fail
          go_roundw
          case rel => exact ⟨i + 1, by omega, by go_num, HOZ, HXW⟩
          case measure => simp [intOf]; omega
    · obtain rfl : i = Ls.length := by omega
      have hll9 := HLL.out Ls.length (Nat.le_refl _)
      have hq1 : wr.cell? ⟨w.heap.size, 1, none⟩ = some (.slice ao Ls.length cap) := HXW.out.cell HK1.out
      obtain ⟨LB, hLB⟩ : ∃ LB, labL p wd Ls Ls.length = LB := ⟨_, rfl⟩
      have HBG := Lib.hid (show begS p k wd Ls outs = stepP p k 2 [] (LB ++ outs) from by unfold begS; rw [hLB])
      rw [hLB] at HOW hll9
      have HOX := Lib.hid ((HO.out.ext HX1.out).ext HXW.out)
      have hlo := HO.out.run_len (P := Tryz.prog) slInts
      clear hLB
      have hvn := Lib.hid hn
      have hn6 : n ≤ 6 := by
        have := wideOf_hi outs.length
        omega
      clear hn
      go_wp2_with (first | (at_builtin; refine wpList_appSl rfl _ _ 23 rfl slInts rfl HXW.out HOW.out rfl HOX.out (by intro u hu; simp only [List.mem_map] at hu; obtain ⟨_, _, rfl⟩ := hu; rfl) rfl (by omega) (by omega) ?_; intro v6 w6 HO6 HX6 HG6) | (go_at_call 106; refine (rbegin_any p k v6 (LB ++ outs) _ h23 hp2 HKP.out (Ints.of_own (B := w1.heap.size) (e := 3) (by rw [List.map_append]; exact HO6)) (by rw [List.length_append]; omega)).mono ?_; rintro e w7 ⟨v7, rfl, hx7, rfl, hc7, hd7⟩; have HX7 := Lib.hid (HX6.trans hx7); have HC7 := Lib.hid hc7; have HD7 := Lib.hid hd7; have HS6 := Lib.hid HX6.size; clear hc7 hd7 hx7 HO6 HG6 HX6) | (go_at_call 105; refine (rwide_any _ _).mono ?_; rw [hvn.out]; rintro e w8 ⟨rfl, rfl⟩))
      have hcb : w.heap.size ≤ w6.heap.size := Nat.le_trans HX1.out.size HS6.out
      have HX8 := Lib.hid (HX1.out.trans HX7.out)
      have HD8 := Lib.hid (HD7.out.mono hcb)
      have HLT := Lib.hid HC7.out.lt
      rw [← HBG.out] at HC7
      have HBL := Lib.hid (begS_length p k wd Ls outs)
      obtain ⟨D, hD⟩ : ∃ D, begS p k wd Ls outs = D := ⟨_, rfl⟩
      rw [hD] at HC7 HBL
      have HDD := Lib.hid hD
      clear hD
      clear HX7 HD7
      generalize w7 = W at *
      go_loopw [14, 15, 16] (fun x14 x15 _ wr => ∃ j : Nat, j ≤ n ∧ x15 = .int .i64 j ∧ Hid (wr.ownsRow W.heap.size 3 1 x14 j ((drwL p k D j).map (Value.int .i64))) ∧ Hid (W.grownBy wr (some w6.heap.size)) ∧ Hid (ChD wr w6.heap.size p (drwS p k D j)) ∧ Hid (DigNew w wr w6.heap.size)) (fun _ x15 _ _ => n - (intOf x15).toNat)
      case atStart => exact ⟨0, Nat.zero_le _, rfl, Lib.hid (World.ownsRow_nil _ _ _ _), Lib.hid (World.grownBy.refl _ _), HC7, HD8⟩
      case round =>
        clear HC7 HD8
        obtain ⟨j, hj, rfl, HOJ, HGJ, HCJ, HDJ⟩ := hrel
        by_cases hjn : j < n
        · have hsz := HGJ.out.size
          have hDl := drwS_length p k HBL.out j
          have hltw := HLT.out
          go_wp2_with (first | (go_at_call 55; refine (rdraw_any p k _ _ _ h23 hp2 HKP.out HCJ.out (by omega)).mono ?_; rintro e w3 ⟨rfl, hg3, hc3, hd3⟩; have HD3 := Lib.hid hd3; have HG3 := Lib.hid (HGJ.out.trans hg3); have HC3 := Lib.hid hc3; have HO3 := own_low HOJ.out hg3 HLT.out; have hs3 := hg3.size; clear hg3 hc3 hd3) | (at_builtin; refine wpList_appNw rfl _ _ 23 rfl slInts rfl (by omega) HO3 rfl _ rfl (by intro u hu; simp at hu; subst hu; rfl) rfl (by omega) (by omega) ?_; intro v7 w7 HO7 HG7 _))
          have hne : some w6.heap.size ≠ Value.ownBlock _ := fun e => by have := (HO3.lt _ e.symm).1; omega
          have HC9 := Lib.hid (HC3.out.grown HG7 hne (fun v hv q hq e => by have h5 := HD3.out v hv q hq; have h6 := (HOJ.out.lt _ e.symm).2; omega))
          have HD9 := Lib.hid ((HD3.out.grown HC3.out.lt HG7 hne).mono (show w.heap.size ≤ wr.heap.size from by have := HX8.out.size; omega))
          go_roundw
          case rel => exact ⟨j + 1, by omega, by go_num, Lib.hid (by rw [drwL_snoc, List.map_append]; exact HO7), Lib.hid (grown_low HG3.out HG7 (fun q hq => (HO3.lt q hq).1)), HC9, HD9⟩
          case measure => simp [intOf]; omega
        · obtain rfl : j = n := by omega
          go_wp2_with fail
          go_ret2
          refine .mk _ rfl (Below.grown HX8.out.below HGJ.out HX8.out.size (fun q e => by cases e; exact hcb)) ⟨w6.heap.size, _, rfl, hcb, by rw [HDD.out]; exact HCJ.out, HDJ.out, by rw [HDD.out]; exact Ints.of_own HOJ.out, fun q hq => ?_⟩
          have h5 := (HOJ.out.lt q hq).1
          have h7 := HLT.out
          have h8 := HX8.out.size
          exact ⟨by omega, by omega, (HOJ.out.lt q hq).2⟩
end
end Go.Proofs.YtaajjaadlpgbiaaGreatDoor
