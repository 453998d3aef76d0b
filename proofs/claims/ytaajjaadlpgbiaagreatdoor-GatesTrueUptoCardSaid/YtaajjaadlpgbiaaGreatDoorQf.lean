/- A layer is checked, the program's side: contract. -/
import Derived.Test.YtaajjaadlpgbiaaGreatDoorZx17
import Derived.Test.YtaajjaadlpgbiaaGreatDoorGe
import Derived.Test.YtaajjaadlpgbiaaGreatDoorZx5
namespace Go.Proofs.YtaajjaadlpgbiaaGreatDoor
open Go.RowKit Go.Att
section
variable {w0 w : World} {cb kb bs bf : Nat} {p g : Int} {k : Nat} {fs : List Int} {wd : Int} {lv vz vt vl : Value} {Ls : List (List Tri)} {R RT : Nat → Value} {z D ln : List Int} {T : List (List Int)}
set_option maxRecDepth 100000 in
set_option maxHeartbeats 16000000 in
theorem ckdown_any (hf : Fld w0 (.pointer (some ⟨bf, 0, none⟩)) p g fs) (hs : Spg w0 (.pointer (some ⟨bs, 0, none⟩)) p k) (hL : LysAt w0 lv Ls R) (hE : cirErr wd Ls = 0) (hT : RwsAt w0 vt T RT) (hln : Ints w0 vl ln) (h23 : 23 ≤ p)
    (hx : Ext w0 w) (hcb : w0.heap.size ≤ cb) (hk : Wlk w kb (.pointer (some ⟨bf, 0, none⟩)) wd lv (.pointer (some ⟨cb, 0, none⟩))) (hkc : kb ≠ cb) (hc : ChP w cb (.pointer (some ⟨bs, 0, none⟩)) D) (hD : D.length = 4) (i : Nat) (hi : i < Ls.length) (n : Nat) (hn : beneath wd Ls i = n)
    (hz : Ints w vz z) (lz : z.length ≤ 30) (hzb : ∀ q, vz.ownBlock = some q → some q ≠ some cb) (c : Int) :
    Calls Tryz.prog 49 #[.pointer (some ⟨kb, 0, none⟩), .int .i64 i, vz, .int .i64 c, vt, vl] w fun e w' => w.grownBy w' (some cb) ∧
      ((lyB p k (nthY Ls i) n z c D T ln = false ∧ e = .returned (.tuple #[.slice none 0 0, .int .i64 0, .bool false])) ∨
       (lyB p k (nthY Ls i) n z c D T ln = true ∧ ∃ vn, e = .returned (.tuple #[vn, .int .i64 (lyC p k n c D T ln), .bool true]) ∧ ChP w' cb (.pointer (some ⟨bs, 0, none⟩)) (lyD p k n c D T ln) ∧ Ints w' vn (lyZ p k n c D T ln) ∧ InB w w' vn)) := by
  have HF := Lib.hid hf; have HS := Lib.hid hs; have HL := Lib.hid hL; have HE := Lib.hid hE; have HX := Lib.hid hx; have HK := Lib.hid hk; have HC := Lib.hid hc; have HD := Lib.hid hD; have HN := Lib.hid hn; have HZ := Lib.hid hz; have HZB := Lib.hid hzb; have HT := Lib.hid hT; have HLN := Lib.hid hln
  have hn6 : n ≤ 6 := by have := (beneath_bd (cirErr_ok hE).1 hi).2; omega
  have hlt : cb < w.heap.size := hc.lt
  have HKC := Lib.hid (show some kb ≠ some cb from fun e => hkc (Option.some.inj e))
  have k0 := hk.c0; have k1 := hk.c1; have k2 := hk.c2; have k3 := hk.c3
  have hi8 : Ls.length ≤ 8 := (cirErr_ok hE).1.2.2.2.1
  have hlt1 := hT.run_len (P := Tryz.prog) slRows
  have hll1 := hln.run_len (P := Tryz.prog) slInts
  have htl := hT.len
  have hlnl := hln.len
  clear hf hs hL hE hx hk hc hD hn hz hzb hT hln hkc
  obtain ⟨aL, cL, rfl⟩ := HL.out.shape
  by_cases eT : T.length = 2 * n
  rotate_left
  · have b1 : ((T.length : Int) != 2 * (n : Int)) = true := by rw [bne_iff_ne]; omega
    have HB := Lib.hid (show lyB p k (nthY Ls i) n z c D T ln = false from by unfold lyB frmB; rw [decide_eq_false eT]; rfl)
    clear eT
    go_enter Tryz.func49, Tryz.ntmps49
    go_wp2_with (go_at_call 98; refine (varsB_any wd _ Ls R i _ (HL.out.ext HX.out) hi).mono ?_; rw [HN.out]; rintro e w1 ⟨rfl, hx1⟩)
    go_ret3
    exact ⟨hx1.grownBy _, .inl ⟨HB.out, rfl⟩⟩
  by_cases eL : ln.length = n + 1
  rotate_left
  · have b1 : ((T.length : Int) != 2 * (n : Int)) = false := by rw [bne_eq_false_iff_eq]; omega
    have b2 : ((ln.length : Int) != (n : Int) + 1) = true := by rw [bne_iff_ne]; omega
    have HB := Lib.hid (show lyB p k (nthY Ls i) n z c D T ln = false from by unfold lyB frmB; rw [decide_eq_false eL, Bool.and_false]; rfl)
    clear eT eL
    go_enter Tryz.func49, Tryz.ntmps49
    go_wp2_with (go_at_call 98; refine (varsB_any wd _ Ls R i _ (HL.out.ext HX.out) hi).mono ?_; rw [HN.out]; rintro e w1 ⟨rfl, hx1⟩)
    go_ret3
    exact ⟨hx1.grownBy _, .inl ⟨HB.out, rfl⟩⟩
  have b1 : ((T.length : Int) != 2 * (n : Int)) = false := by rw [bne_eq_false_iff_eq]; omega
  have b2 : ((ln.length : Int) != (n : Int) + 1) = false := by rw [bne_eq_false_iff_eq]; omega
  have ht3 := thr3_bad (T := T)
  rw [eT] at ht3
  have HTL := Lib.hid eT
  have HLL := Lib.hid eL
  by_cases e3 : T.any bad3 = true
  · have H3 := Lib.hid e3
    have HB := Lib.hid (show lyB p k (nthY Ls i) n z c D T ln = false from by unfold lyB frmB; rw [ht3, e3, Bool.not_true, Bool.and_false]; rfl)
    clear eT eL e3 ht3
    go_enter Tryz.func49, Tryz.ntmps49
    go_wp2_with (first | (go_at_call 98; refine (varsB_any wd _ Ls R i _ (HL.out.ext HX.out) hi).mono ?_; rw [HN.out]; rintro e w1 ⟨rfl, hx1⟩; have HX1 := Lib.hid hx1; clear hx1) | (go_at_call 26; refine (ckcontains_any vt T RT _ (HT.out.ext (HX.out.trans HX1.out))).mono ?_; rw [H3.out]; rintro e w2 ⟨rfl, n2, rfl⟩))
    go_ret3
    exact ⟨(HX1.out.grownBy _).trans ((Ext.drewN w1 n2).grownBy _), .inl ⟨HB.out, rfl⟩⟩
  have e3' : T.any bad3 = false := by simpa using e3
  rw [e3', Bool.not_false] at ht3
  have H3 := Lib.hid e3'; have HT3 := Lib.hid ht3
  have HFB := Lib.hid (show frmB n T ln = true from by unfold frmB; rw [ht3, decide_eq_true eT, decide_eq_true eL]; rfl)
  rw [eT] at hlt1
  rw [eL] at hll1
  clear eL e3 e3' ht3 b1 b2 htl hlnl eT
  have b1 : ((2 * (n : Int)) != 2 * (n : Int)) = false := by simp
  have b2 : (((n : Int) + 1) != (n : Int) + 1) = false := by simp
  go_enter Tryz.func49, Tryz.ntmps49
  go_wp2_with (first | (go_at_call 98; refine (varsB_any wd _ Ls R i _ (HL.out.ext HX.out) hi).mono ?_; rw [HN.out]; rintro e w1 ⟨rfl, hx1⟩; have HX1 := Lib.hid hx1; clear hx1) | (go_at_call 26; refine (ckcontains_any vt T RT _ (HT.out.ext (HX.out.trans HX1.out))).mono ?_; rw [H3.out]; rintro e w2 ⟨rfl, n2, rfl⟩))
  have HX2 := Lib.hid (HX1.out.trans (Ext.drewN w1 n2))
  have HG2 := Lib.hid (HX2.out.grownBy (some cb))
  have HC2 := Lib.hid (HC.out.ext HX2.out)
  clear k0 k1 k2 k3
  go_loopw [3, 16, 18, 19, 52] (fun x3 x16 _ _ x52 wr => ∃ m : Nat, m ≤ 2 * n ∧ x52 = .int .i64 m ∧ x3 = .int .i64 (ckS p k T c D m).2.1 ∧ Hid (wr.ownsRow w.heap.size 3 1 x16 m ((ckS p k T c D m).1.map (Value.int .i64))) ∧ Hid (w.grownBy wr (some cb)) ∧ Hid (ChP wr cb (.pointer (some ⟨bs, 0, none⟩)) (ckS p k T c D m).2.2) ∧ Hid (ckA p k T c D m = true)) (fun _ _ _ _ x52 _ => 2 * n - (intOf x52).toNat)
  case atStart => exact ⟨0, Nat.zero_le _, rfl, rfl, Lib.hid (World.ownsRow_nil _ _ _ _), HG2, HC2, Lib.hid rfl⟩
  case round =>
    clear HG2 HC2 HX2
    obtain ⟨m, hm, rfl, rfl, HXS, HG, HCM, HA⟩ := hrel
    have HXO := Lib.hid (grown_old HX.out HG.out hcb)
    have HKW := Lib.hid (HK.out.grown HG.out HKC.out)
    have k0 := HKW.out.c0; have k3 := HKW.out.c3
    have HLK := Lib.hid (show kb < w.heap.size from World.block_lt_of_cell? w _ HK.out.c0)
    by_cases hmn : m < 2 * n
    · have hmT : m < T.length := by rw [HTL.out]; exact hmn
      have hix := HT.out.run_index (P := Tryz.prog) slRows m hmT
      have hcr := HXO.out.cell (HT.out.cell m hmT)
      have hrow0 := HT.out.row m hmT
      have hrow := hrow0.ext HXO.out
      have hl3 := thr3_at HT3.out hmn
      have hdl := ckS_len p k T c D m
      have hdd := ckS_dig p k T c HD.out m
      have hsn : ckS p k T c D (m + 1) = ((ckS p k T c D m).1 ++ [nth (stepP p k 4 (stepP p k 3 (ckS p k T c D m).2.2 (nthL T m)) []) 0], thrV p (nthL T m) (nth (stepP p k 4 (stepP p k 3 (ckS p k T c D m).2.2 (nthL T m)) []) 0), stepP p k 4 (stepP p k 3 (ckS p k T c D m).2.2 (nthL T m)) []) := rfl
      have hA1 : ckA p k T c D (m + 1) = (ckA p k T c D m && ckB p k T c D m) := rfl
      have hB0 : ckB p k T c D m = (fadd p (nth (nthL T m) 0) (nth (nthL T m) 1) == (ckS p k T c D m).2.1) := rfl
      have HBF := Lib.hid (fun h => ckA_false (p := p) (k := k) (T := T) (c := c) (D := D) (m := m) h (2 * n) hmn)
      generalize ckS p k T c D m = st at *
      obtain ⟨xs, cm, DD⟩ := st
      dsimp only at hdl hdd hsn hB0 HXS HCM
      obtain ⟨l, hl⟩ : ∃ l, nthL T m = l := ⟨_, rfl⟩
      rw [hl] at hrow hrow0 hl3 hsn hB0
      obtain ⟨al, cl, hsh⟩ := hrow.shape
      generalize RT m = rm at *
      subst hsh
      have hi0 := hrow.run_index (P := Tryz.prog) slInts 0 (by omega)
      have hi1 := hrow.run_index (P := Tryz.prog) slInts 1 (by omega)
      have hc0 := hrow.cell 0 (by omega)
      have hc1 := hrow.cell 1 (by omega)
      rw [show ((0 : Nat) : Int) = 0 from rfl] at hi0
      rw [show ((1 : Nat) : Int) = 1 from rfl] at hi1
      have HROW0 := Lib.hid hrow0; have HL3 := Lib.hid hl3; have HSN := Lib.hid hsn; have HA1 := Lib.hid hA1; have HXL := Lib.hid hdl
      have HFW := Lib.hid (HF.out.ext HXO.out)
      clear hrow hrow0 hl3 hsn hA1 hl hdl
      generalize nth l 0 = l0 at *
      generalize nth l 1 = l1 at *
      by_cases hB : ckB p k T c D m = true
      · have bb : (fadd p l0 l1 != cm) = false := by
          rw [hB] at hB0
          rw [bne_eq_false_iff_eq]; exact beq_iff_eq.1 hB0.symm
        have HB := Lib.hid hB
        clear hB hB0
        go_wp2_with fail
        go_quiet ((go_at_call 70; exact add_q HFW.out _ _ _))
        have HGW := Lib.hid (HG.out.trans ((Ext.drewN wr nq).grownBy _))
        have HCW := Lib.hid (HCM.out.ext (Ext.drewN wr nq))
        have HXSW := Lib.hid (own_ext HXS.out (Ext.drewN wr nq))
        have HKQ := Lib.hid (HKW.out.ext (Ext.drewN wr nq))
        have k0 := HKQ.out.c0; have k3 := HKQ.out.c3
        clear hi0 hi1 hc0 hc1 hix hcr HG HCM HXS HKW HXO HFW
        generalize wr.drewN nq = W at *
        go_wp2_with fail
        refine (ctake_any (p := p) (k := k) HCW.out (HS.out.ext (grown_old HX.out HGW.out hcb)) _ l (HROW0.out.ext (grown_old HX.out HGW.out hcb)) (by rw [hdd, HL3.out]; decide)).mono ?_
        rintro e wF ⟨rfl, hgF, hcF, -⟩
        have HGF := Lib.hid (HGW.out.trans hgF)
        have HXSF := Lib.hid (own_low HXSW.out hgF hlt)
        have HKF := Lib.hid (HKQ.out.grown hgF HKC.out)
        have HCF := Lib.hid hcF
        clear k0 k3 hcF hgF HGW HXSW HKQ HCW
        have k0 := HKF.out.c0; have k3 := HKF.out.c3
        go_wp2_with fail
        refine (cdraw_any (p := p) (k := k) HCF.out (HS.out.ext (grown_old HX.out HGF.out hcb)) (by rw [stepP_length]; omega)).mono ?_
        rintro e wH ⟨rfl, hgH, hcH, hdH⟩
        have HDH := Lib.hid hdH; have HLH := Lib.hid hcH.lt
        have HXB := Lib.hid (HXSF.out.lt)
        clear hdH
        have HGH := Lib.hid (HGF.out.trans hgH)
        have HXSH := Lib.hid (own_low HXSF.out hgH hlt)
        have HKH := Lib.hid (HKF.out.grown hgH HKC.out)
        have HCH := Lib.hid hcH
        clear k0 k3 hcH hgH HGF HXSF HKF HCF
        have k0 := HKH.out.c0; have k3 := HKH.out.c3
        obtain ⟨x, hx⟩ : ∃ x, nth (stepP p k 4 (stepP p k 3 DD l) []) 0 = x := ⟨_, rfl⟩
        obtain ⟨E, hE⟩ : ∃ E, stepP p k 4 (stepP p k 3 DD l) [] = E := ⟨_, rfl⟩
        have HSN2 := HSN.out
        rw [hx, hE] at HSN2
        rw [hE] at HCH
        have HSN3 := Lib.hid HSN2
        rw [hx]
        clear hx hE HSN2 HSN
        go_wp2_with (first | (go_at_call 102; refine (gthrough_any (HF.out.ext (grown_old HX.out HGH.out hcb)) _ l x (HROW0.out.ext (grown_old HX.out HGH.out hcb)) (by rw [HL3.out]; decide) (by rw [HL3.out]; omega)).mono ?_; rintro e wJ ⟨uJ, rfl, hxJ, rfl⟩; have HXSJ := Lib.hid (own_ext HXSH.out hxJ); have HGJ := Lib.hid (HGH.out.trans (hxJ.grownBy _)); have HCJ := Lib.hid (HCH.out.ext hxJ); have HDJ := Lib.hid (HDH.out.ext HLH.out hxJ); have hszJ := HGJ.out.size; clear hxJ) | (at_builtin; refine wpList_appNw rfl _ _ 23 rfl slInts rfl hszJ HXSJ.out rfl _ rfl (by intro u hu; simp at hu; subst hu; rfl) rfl (by omega) (by omega) ?_; intro vI wI hoI hgI hmI))
        have hne : some cb ≠ Value.ownBlock _ := fun e => by have := (HXSJ.out.lt _ e.symm).1; omega
        have HCI := Lib.hid (HCJ.out.grown hgI hne (fun v hv q hq e => by have h5 := HDJ.out v hv q hq; have h6 := (HXB.out q e.symm).2; omega))
        have HGI := Lib.hid (grown_low HGJ.out hgI (fun q hq => (HXSJ.out.lt q hq).1))
        have HOI := Lib.hid hoI
        have HAN := Lib.hid (show ckA p k T c D (m + 1) = true from by rw [HA1.out, HA.out, HB.out]; rfl)
        clear hoI hgI hmI hne k0 k3
        go_roundw
        case rel => exact ⟨m + 1, by omega, by go_num, by rw [HSN3.out], Lib.hid (by rw [HSN3.out, List.map_append]; exact HOI.out), HGI, Lib.hid (by rw [HSN3.out]; exact HCI.out), HAN⟩
        case measure => simp [intOf]; omega
      · have hB' : ckB p k T c D m = false := by simpa using hB
        have bb : (fadd p l0 l1 != cm) = true := by
          rw [hB'] at hB0
          rw [bne_iff_ne]; exact fun e => by rw [e] at hB0; simp at hB0
        have HBAD := Lib.hid (show lyB p k (nthY Ls i) n z c D T ln = false from by unfold lyB; rw [HBF.out hB', Bool.and_false]; rfl)
        clear hB hB' hB0
        go_wp2_with fail
        go_quiet ((go_at_call 70; exact add_q HFW.out _ _ _))
        go_wp2_with fail
        go_ret3
        exact ⟨HG.out.trans ((Ext.drewN wr nq).grownBy _), .inl ⟨HBAD.out, rfl⟩⟩
    · obtain rfl : m = 2 * n := by omega
      have hdl := ckS_len p k T c D (2 * n)
      have hdd := ckS_dig p k T c HD.out (2 * n)
      have hlD : lyD p k n c D T ln = stepP p k 4 (stepP p k 3 (ckS p k T c D (2 * n)).2.2 ln) [] := rfl
      have hlZ : lyZ p k n c D T ln = onL p ((ckS p k T c D (2 * n)).1.take n) ((ckS p k T c D (2 * n)).1.drop n) (nth (lyD p k n c D T ln) 0) := rfl
      have hlC : lyC p k n c D T ln = thrV p ln (nth (lyD p k n c D T ln) 0) := rfl
      have hlB : lyB p k (nthY Ls i) n z c D T ln = (lnV p (nthY Ls i) z ((ckS p k T c D (2 * n)).1.take n) ((ckS p k T c D (2 * n)).1.drop n) ln n == (ckS p k T c D (2 * n)).2.1) := by unfold lyB; rw [HFB.out, HA.out]; rfl
      clear HA
      obtain ⟨st, hst⟩ : ∃ st, ckS p k T c D (2 * n) = st := ⟨_, rfl⟩
      rw [hst] at hdl hdd hlD hlZ hlB HXS HCM
      rw [hst]
      clear hst
      obtain ⟨X, cm, DD⟩ := st
      dsimp only at hdl hdd hlD hlZ hlB HXS HCM
      rw [hlD] at hlZ hlC
      have hxi := Ints.of_own HXS.out
      have htk := hxi.run_take (P := Tryz.prog) slInts n (by omega)
      have hdr := hxi.run_drop (P := Tryz.prog) slInts n (by omega)
      have HXT := Lib.hid (hxi.take n (by omega)); have HXD := Lib.hid (hxi.drop n (by omega))
      have HLT := Lib.hid (show (X.take n).length = n from by rw [List.length_take]; omega)
      have HLD := Lib.hid (show (X.drop n).length = n from by rw [List.length_drop]; omega)
      have HBT := Lib.hid (HXS.out.lt)
      clear hxi
      obtain ⟨xl, hxl⟩ : ∃ xl, X.take n = xl := ⟨_, rfl⟩
      obtain ⟨yl, hyl⟩ : ∃ yl, X.drop n = yl := ⟨_, rfl⟩
      rw [hxl] at HXT HLT
      rw [hyl] at HXD HLD
      rw [hxl, hyl] at hlZ hlB
      clear hxl hyl
      obtain ⟨E, hE⟩ : ∃ E, stepP p k 4 (stepP p k 3 DD ln) [] = E := ⟨_, rfl⟩
      rw [hE] at hlD hlZ hlC
      obtain ⟨t, htt⟩ : ∃ t, nth E 0 = t := ⟨_, rfl⟩
      rw [htt] at hlZ hlC
      have HLYD := Lib.hid hlD; have HLYZ := Lib.hid hlZ; have HLYC := Lib.hid hlC; have HLYB := Lib.hid hlB
      have HEE := Lib.hid hE; have HTT := Lib.hid htt
      clear hlD hlZ hlC hlB hE htt
      have HBX := Lib.hid (upTo_block _ n HBT.out)
      have HBY := Lib.hid (fromV_block _ n HBT.out)
      go_wp2_with fail
      go_quiet (fail)
      have HGW := Lib.hid (HG.out.trans ((Ext.drewN wr nq).grownBy _))
      have HCW := Lib.hid (HCM.out.ext (Ext.drewN wr nq))
      have HKQ := Lib.hid (HKW.out.ext (Ext.drewN wr nq))
      have HXTW := Lib.hid (HXT.out.ext (Ext.drewN wr nq)); have HXDW := Lib.hid (HXD.out.ext (Ext.drewN wr nq))
      have HSW := Lib.hid (Ext.drewN wr nq).size
      have k0 := HKQ.out.c0; have k3 := HKQ.out.c3
      clear htk hdr HG HCM HXS HXT HXD HKW HXO
      generalize wr.drewN nq = W at *
      generalize hvx : upTo _ n = vx at *
      generalize hvy : fromV _ n = vy at *
      clear hvx hvy
      have hcbx : ∀ {v : Value} {C : Nat}, (∀ q, v.ownBlock = some q → w.heap.size ≤ q ∧ q < C) → ∀ q, v.ownBlock = some q → some q ≠ some cb := fun h q hq e => by have h1 := (h q hq).1; have h2 := Option.some.inj e; omega
      have HCBX := Lib.hid (hcbx HBX.out); have HCBY := Lib.hid (hcbx HBY.out)
      clear hcbx
      go_wp2_with fail
      refine (ctake_any (p := p) (k := k) HCW.out (HS.out.ext (grown_old HX.out HGW.out hcb)) _ ln (HLN.out.ext (grown_old HX.out HGW.out hcb)) (by rw [HLL.out]; omega)).mono ?_
      rintro e wF ⟨rfl, hgF, hcF, -⟩
      have HGF := Lib.hid (HGW.out.trans hgF)
      have HKF := Lib.hid (HKQ.out.grown hgF HKC.out)
      have HCF := Lib.hid hcF
      have HXF := Lib.hid (HXTW.out.grown hgF HCBX.out); have HYF := Lib.hid (HXDW.out.grown hgF HCBY.out)
      clear k0 k3 hcF hgF HGW HKQ HCW HXTW HXDW
      have k0 := HKF.out.c0; have k3 := HKF.out.c3
      go_wp2_with fail
      refine (cdraw_any (p := p) (k := k) HCF.out (HS.out.ext (grown_old HX.out HGF.out hcb)) (by rw [stepP_length]; omega)).mono ?_
      rintro e wH ⟨rfl, hgH, hcH, -⟩
      have HGH := Lib.hid (HGF.out.trans hgH)
      have HKH := Lib.hid (HKF.out.grown hgH HKC.out)
      have HCH := Lib.hid hcH
      have HXH := Lib.hid (HXF.out.grown hgH HCBX.out); have HYH := Lib.hid (HYF.out.grown hgH HCBY.out)
      clear k0 k3 hcH hgH HGF HKF HCF HXF HYF
      rw [HEE.out] at HCH
      rw [HEE.out, HTT.out]
      have HXOH := Lib.hid (grown_old HX.out HGH.out hcb)
      have HLNH := Lib.hid (HLN.out.ext HXOH.out)
      have HZH := Lib.hid (HZ.out.grown HGH.out HZB.out)
      have hi0 := HLNH.out.run_index (P := Tryz.prog) slInts 0 (by rw [HLL.out]; omega)
      have hi1 := HLNH.out.run_index (P := Tryz.prog) slInts (min 1 n) (by rw [HLL.out]; omega)
      have hc0 := HLNH.out.cell 0 (by rw [HLL.out]; omega)
      have hc1 := HLNH.out.cell (min 1 n) (by rw [HLL.out]; omega)
      rw [show ((0 : Nat) : Int) = 0 from rfl] at hi0
      rw [show ((min 1 n : Nat) : Int) = (if (n : Int) < 1 then (n : Int) else 1) from by split <;> omega] at hi1
      have HLNV := Lib.hid (show lnV p (nthY Ls i) z xl yl ln n = fadd p (fmul p (wireU (nthY Ls i) 0 z xl yl (nthY Ls i).length % p) (fadd p (nth ln 0) (nth ln (min 1 n)))) (fmul p (wireU (nthY Ls i) 1 z xl yl (nthY Ls i).length % p) (fmul p (nth ln 0) (nth ln (min 1 n)))) from rfl)
      generalize nth ln 0 = l0 at *
      generalize nth ln (min 1 n) = l1 at *
      go_wp2_with fail
      go_region
      generalize (if (n : Int) < 1 then (n : Int) else 1) = mn at *
      all_goals
        have HGS := Lib.hid (HGH.out.trans ((Ext.drew wH).grownBy _))
        have HKS := Lib.hid (HKH.out.ext (Ext.drew wH))
        have HCS := Lib.hid (HCH.out.ext (Ext.drew wH))
        have HXS := Lib.hid (HXH.out.ext (Ext.drew wH)); have HYS := Lib.hid (HYH.out.ext (Ext.drew wH)); have HZS := Lib.hid (HZH.out.ext (Ext.drew wH))
        have HLNS := Lib.hid (HLNH.out.ext (Ext.drew wH))
        have HXOS := Lib.hid (HXOH.out.trans (Ext.drew wH))
        clear hi0 hi1 hc0 hc1 HGH HKH HCH HXH HYH HZH HLNH HXOH
        generalize wH.drew = w1 at *
        obtain ⟨U0, hU0⟩ : ∃ U0, wireU (nthY Ls i) 0 z xl yl (nthY Ls i).length % p = U0 := ⟨_, rfl⟩
        obtain ⟨U1, hU1⟩ : ∃ U1, wireU (nthY Ls i) 1 z xl yl (nthY Ls i).length % p = U1 := ⟨_, rfl⟩
        have HU0 := Lib.hid hU0; have HU1 := Lib.hid hU1
        have HLY := Lib.hid (show lyB p k (nthY Ls i) n z c D T ln = (fadd p (fmul p U0 (fadd p l0 l1)) (fmul p U1 (fmul p l0 l1)) == cm) from by rw [HLYB.out, HLNV.out, hU0, hU1])
        clear hU0 hU1
        go_wp2_with fail
        have k0 := HKS.out.c0; have k1 := HKS.out.c1; have k2 := HKS.out.c2
        go_region_held3 (fun w' => w'.cell? ⟨kb, 0, none⟩ = some (.pointer (some ⟨bf, 0, none⟩)) ∧ w'.cell? ⟨kb, 1, none⟩ = some (.int .i64 wd) ∧ w'.cell? ⟨kb, 2, none⟩ = some (.slice aL Ls.length cL)) (first | exact ⟨(Ext.drewN wA nA).cell (hxA.cell ((Ext.drew w1).cell k0)), (Ext.drewN wA nA).cell (hxA.cell ((Ext.drew w1).cell k1)), (Ext.drewN wA nA).cell (hxA.cell ((Ext.drew w1).cell k2))⟩ | exact ⟨hxA.cell ((Ext.drew w1).cell k0), hxA.cell ((Ext.drew w1).cell k1), hxA.cell ((Ext.drew w1).cell k2)⟩ | exact ⟨(Ext.drew w1).cell k0, (Ext.drew w1).cell k1, (Ext.drew w1).cell k2⟩ | go_keep) (first | (go_at_call 103; refine (wire_any (HF.out.ext (HXOS.out.trans (Ext.drew w1))) wd _ Ls R i 0 vz vx vy z xl yl (HL.out.ext (HXOS.out.trans (Ext.drew w1))) hi HE.out (HZS.out.ext (Ext.drew w1)) (HXS.out.ext (Ext.drew w1)) (HYS.out.ext (Ext.drew w1)) lz (by rw [HLT.out]; omega) (by rw [HLD.out]; omega)).mono ?_; rw [HU0.out]; rintro e wA ⟨rfl, hxA⟩) | (go_at_call 70; refine (add_any (HF.out.ext ((HXOS.out.trans (Ext.drew w1)).trans hxA)) _ _).mono ?_; rintro e w' ⟨rfl, nA, rfl⟩) | (go_at_call 71; refine (mul_any (HF.out.ext (((HXOS.out.trans (Ext.drew w1)).trans hxA).trans (Ext.drewN wA nA))) _ _).mono ?_; rintro e w' ⟨rfl, mA, rfl⟩))
        have hx3 := ((Ext.drew w1).trans hxA).trans (Ext.drewN wA (nA + mA))
        have HX3 := Lib.hid hx3
        have HKT := Lib.hid (HKS.out.ext hx3)
        have HXT := Lib.hid (HXS.out.ext hx3); have HYT := Lib.hid (HYS.out.ext hx3); have HZT := Lib.hid (HZS.out.ext hx3)
        have HXOT := Lib.hid (HXOS.out.trans hx3)
        clear k0 k1 k2 hxA hx3
        generalize wA.drewN (nA + mA) = w3 at *
        obtain ⟨S0, hS0⟩ : ∃ S0, fmul p U0 (fadd p l0 l1) = S0 := ⟨_, rfl⟩
        have HLY2 := HLY.out
        rw [hS0] at HLY2 ⊢
        clear hS0
        go_wp2_with fail
        have k0 := HKT.out.c0; have k1 := HKT.out.c1; have k2 := HKT.out.c2
        go_region_held3 (fun w' => w'.cell? ⟨kb, 0, none⟩ = some (.pointer (some ⟨bf, 0, none⟩)) ∧ w'.cell? ⟨kb, 1, none⟩ = some (.int .i64 wd) ∧ w'.cell? ⟨kb, 2, none⟩ = some (.slice aL Ls.length cL)) (first | exact ⟨(Ext.drewN wB nB).cell (hxB.cell ((Ext.drew w3).cell k0)), (Ext.drewN wB nB).cell (hxB.cell ((Ext.drew w3).cell k1)), (Ext.drewN wB nB).cell (hxB.cell ((Ext.drew w3).cell k2))⟩ | exact ⟨hxB.cell ((Ext.drew w3).cell k0), hxB.cell ((Ext.drew w3).cell k1), hxB.cell ((Ext.drew w3).cell k2)⟩ | exact ⟨(Ext.drew w3).cell k0, (Ext.drew w3).cell k1, (Ext.drew w3).cell k2⟩ | go_keep) (first | (go_at_call 103; refine (wire_any (HF.out.ext (HXOT.out.trans (Ext.drew w3))) wd _ Ls R i 1 vz vx vy z xl yl (HL.out.ext (HXOT.out.trans (Ext.drew w3))) hi HE.out (HZT.out.ext (Ext.drew w3)) (HXT.out.ext (Ext.drew w3)) (HYT.out.ext (Ext.drew w3)) lz (by rw [HLT.out]; omega) (by rw [HLD.out]; omega)).mono ?_; rw [HU1.out]; rintro e wB ⟨rfl, hxB⟩) | (go_at_call 71; refine (mul_any (HF.out.ext (show Ext w0 _ from by first | with_reducible exact (((HXOT.out.trans (Ext.drew w3)).trans hxB).trans (Ext.drewN wB nB)) | with_reducible exact ((HXOT.out.trans (Ext.drew w3)).trans hxB))) _ _).mono ?_; first | (have hnb := nB; clear hnb; rintro e w' ⟨rfl, mB, rfl⟩) | (rintro e w' ⟨rfl, nB, rfl⟩)))
        have hx4 := ((Ext.drew w3).trans hxB).trans (Ext.drewN wB (nB + mB))
        have HX4 := Lib.hid (HX3.out.trans hx4)
        have HKU := Lib.hid (HKT.out.ext hx4)
        have HXU := Lib.hid (HXT.out.ext hx4); have HYU := Lib.hid (HYT.out.ext hx4)
        have HXOU := Lib.hid (HXOT.out.trans hx4)
        clear k0 k1 k2 hxB hx4 HX3 HKT HXT HYT HZT HXOT
        generalize wB.drewN (nB + mB) = w4 at *
        obtain ⟨S1, hS1⟩ : ∃ S1, fmul p U1 (fmul p l0 l1) = S1 := ⟨_, rfl⟩
        rw [hS1] at HLY2 ⊢
        clear hS1
        have k0 := HKU.out.c0
        by_cases hv : fadd p S0 S1 = cm
        · have bb : (fadd p S0 S1 != cm) = false := by rw [bne_eq_false_iff_eq]; exact hv
          have HBT2 := Lib.hid (show lyB p k (nthY Ls i) n z c D T ln = true from by rw [HLY2, beq_iff_eq]; exact hv)
          clear hv HLY2
          go_upto_region 23 with (go_at_call 70; refine (add_any (HF.out.ext HXOU.out) _ _).mono ?_; rintro e w5 ⟨rfl, n5, rfl⟩; replace k0 := (Ext.drewN w4 n5).cell k0)
          have hx5 := Ext.drewN w4 n5
          have HX5 := Lib.hid (HX4.out.trans hx5)
          have HXU5 := Lib.hid (HXU.out.ext hx5); have HYU5 := Lib.hid (HYU.out.ext hx5)
          have HXO5 := Lib.hid (HXOU.out.trans hx5)
          clear hx5 HX4 HKU HXU HYU HXOU
          generalize w4.drewN n5 = w5 at *
          have hszW := HGS.out.size
          go_region_held3 (fun w' => w'.cell? ⟨kb, 0, none⟩ = some (.pointer (some ⟨bf, 0, none⟩))) (first | exact hxD.cell (hxC.cell ((Ext.drew w5).cell k0)) | exact hxC.cell ((Ext.drew w5).cell k0) | exact (Ext.drew w5).cell k0 | go_keep) (first | (go_at_call 104; refine (between_any (HF.out.ext (HXO5.out.trans (Ext.drew w5))) vx vy xl yl _ (HXU5.out.ext (Ext.drew w5)) (HYU5.out.ext (Ext.drew w5)) (by rw [HLT.out, HLD.out]; exact Nat.le_refl _) (by rw [HLT.out]; omega)).mono ?_; rintro e wC ⟨vC, rfl, hxC, hoC⟩) | (go_at_call 102; refine (gthrough_any (HF.out.ext ((HXO5.out.trans (Ext.drew w5)).trans hxC)) _ ln t (HLN.out.ext ((HXO5.out.trans (Ext.drew w5)).trans hxC)) (by rw [HLL.out]; omega) (by rw [HLL.out]; omega)).mono ?_; rintro e wD ⟨uD, rfl, hxD, rfl⟩))
          have hx6 := ((Ext.drew w5).trans hxC).trans hxD
          have hGG := HGS.out.trans ((HX5.out.trans hx6).grownBy (some cb))
          have hCC := HCS.out.ext (HX5.out.trans hx6)
          have hoD := own_ext hoC hxD
          have hs5 := HX5.out.size
          have hs6 := (Ext.drew w5).size
          rw [HLT.out] at hoD
          have HGG := Lib.hid hGG; have HCC := Lib.hid hCC; have HOD := Lib.hid hoD
          clear hGG hCC hoD hoC hxC hxD hx6 k0
          go_wp2_with fail
          go_ret3
          refine ⟨HGG.out, .inr ⟨HBT2.out, vC, by rw [HLYC.out]; rfl, by rw [HLYD.out]; exact HCC.out, by rw [HLYZ.out]; exact Ints.of_own HOD.out, fun q hq => ?_⟩⟩
          have h1 := HOD.out.lt q hq
          exact ⟨by omega, h1.2⟩
        · have bb : (fadd p S0 S1 != cm) = true := by rw [bne_iff_ne]; exact hv
          have HBT2 := Lib.hid (show lyB p k (nthY Ls i) n z c D T ln = false from by rw [HLY2, beq_eq_false_iff_ne]; exact hv)
          clear hv HLY2
          go_wp2_with (go_at_call 70; refine (add_any (HF.out.ext HXOU.out) _ _).mono ?_; rintro e w5 ⟨rfl, n5, rfl⟩)
          go_ret3
          exact ⟨HGS.out.trans ((HX4.out.trans (Ext.drewN w4 n5)).grownBy _), .inl ⟨HBT2.out, rfl⟩⟩
end
end Go.Proofs.YtaajjaadlpgbiaaGreatDoor
