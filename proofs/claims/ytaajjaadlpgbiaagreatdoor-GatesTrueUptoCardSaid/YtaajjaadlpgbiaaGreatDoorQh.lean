/- Whether a circuit is shown, the document's side: contract. -/
import Derived.Test.YtaajjaadlpgbiaaGreatDoorZx17
import Derived.Test.YtaajjaadlpgbiaaGreatDoorGh
import Derived.Test.YtaajjaadlpgbiaaGreatDoorGc
import Derived.Test.YtaajjaadlpgbiaaGreatDoorC3
namespace Go.Proofs.YtaajjaadlpgbiaaGreatDoor
open Go.RowKit Go.Att
section
variable {w : World} {p : Int} {k : Nat} {wd : Int} {lv vo vu vl : Value} {Ls : List (List Tri)} {R : Nat → Value} {outs : List Int} {U : List (List (List Int))} {V : List (List Int)}
set_option maxRecDepth 100000 in
set_option maxHeartbeats 16000000 in
theorem rcheck_any (h23 : 23 ≤ p) (hp2 : p ≤ 2147483647) (hk : IsPw p k) (hv : LysAt w lv Ls R) (ho : Ints w vo outs) (hu : Cub w vu U) (hw : Rws w vl V) :
    Calls Tryz.prog 20 #[.int .i64 p, .agg #[.int .i64 wd, lv], vo, .agg #[vu, vl]] w (Gives w fun u w' => CkGot (ckAll p k wd Ls outs U V) (ckEnd p k wd Ls outs U V).1 (ckEnd p k wd Ls outs U V).2.1 u w') := by
  obtain ⟨QU, hu⟩ := hu.at'
  obtain ⟨RV, hw⟩ := hw
  have HV := Lib.hid hv; have HO := Lib.hid ho; have HU := Lib.hid hu; have HWW := Lib.hid hw; have HKP := Lib.hid hk
  obtain ⟨ao, cap, rfl⟩ := hv.shape
  obtain ⟨al, cl, rfl⟩ := hw.shape
  obtain ⟨au, cu, hus⟩ : ∃ au cu, vu = .slice au U.length cu := by obtain ⟨a, c, h, _⟩ := hu.sl; exact ⟨a, c, h⟩
  subst hus
  have hlo := ho.run_len (P := Tryz.prog) slInts
  have hlen := hv.len
  clear hv ho hu hw hk
  have HX0 := Lib.hid ((Ext.alloc w (Obj.cells #[.int .i64 wd, .slice ao Ls.length cap] 48)).trans (Ext.alloc _ (Obj.cells #[.slice au U.length cu, .slice al V.length cl] 51)))
  have k0 := (Ext.alloc (w.alloc (Obj.cells #[.int .i64 wd, .slice ao Ls.length cap] 48)) (Obj.cells #[.slice au U.length cu, .slice al V.length cl] 51)).cell (cell_new w #[.int .i64 wd, .slice ao Ls.length cap] 48 0)
  have k1 := (Ext.alloc (w.alloc (Obj.cells #[.int .i64 wd, .slice ao Ls.length cap] 48)) (Obj.cells #[.slice au U.length cu, .slice al V.length cl] 51)).cell (cell_new w #[.int .i64 wd, .slice ao Ls.length cap] 48 1)
  have m0 := cell_new (w.alloc (Obj.cells #[.int .i64 wd, .slice ao Ls.length cap] 48)) #[.slice au U.length cu, .slice al V.length cl] 51 0
  have m1 := cell_new (w.alloc (Obj.cells #[.int .i64 wd, .slice ao Ls.length cap] 48)) #[.slice au U.length cu, .slice al V.length cl] 51 1
  rw [World.size_alloc] at m0 m1
  have HK0 := Lib.hid k0; have HK1 := Lib.hid k1; have HM0 := Lib.hid m0; have HM1 := Lib.hid m1
  clear k0 k1 m0 m1
  go_enter Tryz.func20, Tryz.ntmps20
  go_upto_region 1 with (fail)
  generalize ((w.alloc (Obj.cells #[.int .i64 wd, .slice ao Ls.length cap] 48)).alloc (Obj.cells #[.slice au U.length cu, .slice al V.length cl] 51)) = w1 at *
  have k0 : w1.cell? ⟨w.heap.size, 0, none⟩ = some (.int .i64 wd) := HK0.out
  have k1 : w1.cell? ⟨w.heap.size, 1, none⟩ = some (.slice ao Ls.length cap) := HK1.out
  by_cases hE : cirErr wd Ls = 0
  rotate_left
  · have bE : (cirErr wd Ls != 0) = true := by rw [bne_iff_ne]; exact hE
    have HB := Lib.hid (ckAll_err (p := p) (k := k) (outs := outs) (U := U) (V := V) hE)
    clear hE
    go_wp2_with (go_at_call 50; refine (rfaultc_any wd _ Ls R _ (HV.out.ext HX0.out)).mono ?_; rintro e w2 ⟨rfl, hx2⟩)
    go_ret3
    exact .mk _ rfl (HX0.out.trans hx2) (.inl ⟨HB.out, rfl⟩)
  have H0 := Lib.hid hE
  have hS := (cirErr_ok hE).1
  have hlen8 : Ls.length ≤ 8 := hS.2.2.2.1
  have hlen1 : 1 ≤ Ls.length := hS.2.2.1
  have hlst := HV.out.run_index (P := Tryz.prog) slLayers (Ls.length - 1) (by omega)
  rw [show ((Ls.length - 1 : Nat) : Int) = (Ls.length : Int) - 1 by omega] at hlst
  have hlc := HV.out.cell (Ls.length - 1) (by omega)
  have hlr := (HV.out.row (Ls.length - 1) (by omega)).run_len (P := Tryz.prog) slGates
  have H64 := Lib.hid (wideOf_le (hS.2.2.2.2 (Ls.length - 1) (by omega)))
  have HWP := Lib.hid (hS.2.2.2.2 (Ls.length - 1) (by omega))
  clear hE hS
  by_cases e1 : outs.length = (nthY Ls (Ls.length - 1)).length
  rotate_left
  · have HB := Lib.hid (ckAll_len (p := p) (k := k) (wd := wd) (Ls := Ls) (outs := outs) (U := U) (V := V) (fun h => e1 h.1))
    have b1 : ((outs.length : Int) != ((nthY Ls (Ls.length - 1)).length : Int)) = true := by rw [bne_iff_ne]; omega
    clear e1
    go_wp2_with (go_at_call 50; refine (rfaultc_any wd _ Ls R _ (HV.out.ext HX0.out)).mono ?_; rw [H0.out]; rintro e w2 ⟨rfl, hx2⟩; have j0 := hx2.cell k0; have j1 := hx2.cell k1; have hlc2 := hx2.cell (HX0.out.cell hlc); have i0 := hx2.cell HM0.out; have i1 := hx2.cell HM1.out)
    go_ret3
    exact .mk _ rfl (HX0.out.trans hx2) (.inl ⟨HB.out, rfl⟩)
  have b1 : ((outs.length : Int) != ((nthY Ls (Ls.length - 1)).length : Int)) = false := by rw [bne_eq_false_iff_eq]; omega
  by_cases e2 : U.length = Ls.length
  rotate_left
  · have HB := Lib.hid (ckAll_len (p := p) (k := k) (wd := wd) (Ls := Ls) (outs := outs) (U := U) (V := V) (fun h => e2 h.2.1))
    have b2 : ((U.length : Int) != (Ls.length : Int)) = true := by rw [bne_iff_ne]; omega
    clear e2 e1
    go_wp2_with (go_at_call 50; refine (rfaultc_any wd _ Ls R _ (HV.out.ext HX0.out)).mono ?_; rw [H0.out]; rintro e w2 ⟨rfl, hx2⟩; have j0 := hx2.cell k0; have j1 := hx2.cell k1; have hlc2 := hx2.cell (HX0.out.cell hlc); have i0 := hx2.cell HM0.out; have i1 := hx2.cell HM1.out)
    go_ret3
    exact .mk _ rfl (HX0.out.trans hx2) (.inl ⟨HB.out, rfl⟩)
  have b2 : ((U.length : Int) != (Ls.length : Int)) = false := by rw [bne_eq_false_iff_eq]; omega
  by_cases e3 : V.length = Ls.length
  rotate_left
  · have HB := Lib.hid (ckAll_len (p := p) (k := k) (wd := wd) (Ls := Ls) (outs := outs) (U := U) (V := V) (fun h => e3 h.2.2))
    have b3 : ((V.length : Int) != (Ls.length : Int)) = true := by rw [bne_iff_ne]; omega
    clear e3 e2 e1
    go_wp2_with (go_at_call 50; refine (rfaultc_any wd _ Ls R _ (HV.out.ext HX0.out)).mono ?_; rw [H0.out]; rintro e w2 ⟨rfl, hx2⟩; have j0 := hx2.cell k0; have j1 := hx2.cell k1; have hlc2 := hx2.cell (HX0.out.cell hlc); have i0 := hx2.cell HM0.out; have i1 := hx2.cell HM1.out)
    go_ret3
    exact .mk _ rfl (HX0.out.trans hx2) (.inl ⟨HB.out, rfl⟩)
  have b3 : ((V.length : Int) != (Ls.length : Int)) = false := by rw [bne_eq_false_iff_eq]; omega
  have HALL := Lib.hid (ckAll_in (p := p) (k := k) H0.out e1 e2 e3)
  have HEND := Lib.hid (show ckEnd p k wd Ls outs U V = chS p k wd Ls U V (ckZ p k wd Ls outs) (ext outs (ckZ p k wd Ls outs) % p) (ckD p k wd Ls outs) Ls.length from rfl)
  obtain ⟨n, hn⟩ : ∃ n, (wideOf (nthY Ls (Ls.length - 1)).length).toNat = n := ⟨_, rfl⟩
  have hn2 : wideOf (nthY Ls (Ls.length - 1)).length = n := by have := HWP.out; omega
  have hn6 : n ≤ 6 := by have := (wideOf_bd (nthY Ls (Ls.length - 1)).length).2; omega
  obtain ⟨z, hz⟩ : ∃ z, ckZ p k wd Ls outs = z := ⟨_, rfl⟩
  obtain ⟨D, hD⟩ : ∃ D, ckD p k wd Ls outs = D := ⟨_, rfl⟩
  have hz2 : drwL p k (begS p k wd Ls outs) n = z := by rw [← hz]; unfold ckZ; rw [hn]
  have hD2 : drwS p k (begS p k wd Ls outs) n = D := by rw [← hD]; unfold ckD; rw [hn]
  rw [hz, hD] at HALL HEND
  have HLZ := Lib.hid (show z.length = n from by rw [← hz2, drwL_length])
  have HLD := Lib.hid (show D.length = 4 from by rw [← hD2]; exact drwS_length _ _ (begS_length _ _ _ _ _) _)
  have HZ2 := Lib.hid hz2; have HD2 := Lib.hid hD2; have HN2 := Lib.hid hn2
  have HE1 := Lib.hid e1; have HE2 := Lib.hid e2; have HE3 := Lib.hid e3
  obtain ⟨c, hc⟩ : ∃ c, ext outs z % p = c := ⟨_, rfl⟩
  have HCC := Lib.hid hc
  rw [hc] at HALL HEND
  clear e1 e2 e3 hn hn2 hz hD hz2 hD2 hc
  go_upto_region 9 with (first | (go_at_call 50; refine (rfaultc_any wd _ Ls R _ (HV.out.ext HX0.out)).mono ?_; rw [H0.out]; rintro e w2 ⟨rfl, hx2⟩; have j0 := hx2.cell k0; have j1 := hx2.cell k1; have hlc2 := hx2.cell (HX0.out.cell hlc); have i0 := hx2.cell HM0.out; have i1 := hx2.cell HM1.out) | (go_at_call 51; refine (rbeg_any (p := p) (k := k) h23 hp2 HKP.out (HV.out.ext (HX0.out.trans hx2)) (HO.out.ext (HX0.out.trans hx2)) H0.out (by rw [HE1.out]; have := H64.out; omega) n (by rw [HE1.out]; exact HN2.out)).mono ?_; rw [HZ2.out, HD2.out]; rintro e w4 ⟨v4, rfl, hx4, cb, vz, rfl, hcb, hch, -, hiz, hzb⟩; have HX4 := Lib.hid hx4; have HCB := Lib.hid hcb; have HCH := Lib.hid hch; have HIZ := Lib.hid hiz; have HZB := Lib.hid hzb; clear hcb hch hiz hzb) | (go_at_call 52; refine (rextend_any p _ _ outs z _ (by omega) hp2 (HO.out.ext ((HX0.out.trans hx2).trans HX4.out)) HIZ.out (by rw [HLZ.out]; omega)).mono ?_; rw [HCC.out]; rintro e w' ⟨rfl, rfl⟩))
  have HX2 := Lib.hid (HX0.out.trans hx2)
  have HM2 := Lib.hid (And.intro (And.intro (hx2.cell HK0.out) (hx2.cell HK1.out)) (And.intro (hx2.cell HM0.out) (hx2.cell HM1.out)))
  have HX24 := Lib.hid HX4.out
  have HZB9 := Lib.hid (show ∀ q, vz.ownBlock = some q → some q ≠ some cb from fun q hq e => (HZB.out q hq).2.1 (Option.some.inj e))
  have hcb4 : cb < w4.heap.size := HCH.out.lt
  clear k0 k1 hlc hlc2 hlst hlr b1 b2 b3 hx2 hlo i0 i1 j0 j1
  go_wp2_with fail
  go_loopw [14, 15, 16, 17, 18, 19, 20, 21, 22, 23, 24, 25, 26, 27, 28, 29, 30, 31, 32, 33, 34] (fun x14 x15 x16 _ _ _ _ _ _ _ _ _ _ _ _ _ _ _ _ _ _ wr => ∃ j : Nat, j ≤ Ls.length ∧ x16 = .int .i64 j ∧ x15 = .int .i64 (chS p k wd Ls U V z c D j).2.1 ∧ Hid (Ints wr x14 (chS p k wd Ls U V z c D j).1) ∧ Hid (∀ q, x14.ownBlock = some q → some q ≠ some cb) ∧ Hid (ChD wr cb p (chS p k wd Ls U V z c D j).2.2) ∧ Hid (w4.grownBy wr (some cb)) ∧ Hid (chA p k wd Ls U V z c D j = true)) (fun _ _ x16 _ _ _ _ _ _ _ _ _ _ _ _ _ _ _ _ _ _ _ => Ls.length - (intOf x16).toNat)
  case atStart => exact ⟨0, Nat.zero_le _, rfl, rfl, HIZ, HZB9, HCH, Lib.hid (World.grownBy.refl _ _), Lib.hid rfl⟩
  case round =>
    clear HIZ HZB9 HCH HZB
    obtain ⟨j, hj, rfl, rfl, HIZR, HZBR, HCR, HG, HA⟩ := hrel
    have HXR := Lib.hid (grown_old HX24.out HG.out HCB.out)
    have HXWR := Lib.hid (HX2.out.trans HXR.out)
    by_cases hjl : j < Ls.length
    · obtain ⟨i, hi⟩ : ∃ i, Ls.length - 1 - j = i := ⟨_, rfl⟩
      have hil : i < Ls.length := by omega
      have HEI := Lib.hid (show (Ls.length : Int) - 1 - (j : Int) = (i : Int) by omega)
      have hbn := beneath_bd (cirErr_ok H0.out).1 hil
      obtain ⟨nn, hnn⟩ := Int.eq_ofNat_of_zero_le hbn.1
      have hnn6 : nn ≤ 6 := by omega
      have hzl := chS_len p k wd Ls U V c D (z := z) (by rw [HLZ.out, HN2.out]) H0.out j hjl
      have hdl := chS_dig p k wd Ls U V z c HLD.out j
      have hsn : chS p k wd Ls U V z c D (j + 1) = (lyZ p k (beneath wd Ls (Ls.length - 1 - j)).toNat (chS p k wd Ls U V z c D j).2.1 (chS p k wd Ls U V z c D j).2.2 (nthC U j) (nthL V j), lyC p k (beneath wd Ls (Ls.length - 1 - j)).toNat (chS p k wd Ls U V z c D j).2.1 (chS p k wd Ls U V z c D j).2.2 (nthC U j) (nthL V j), lyD p k (beneath wd Ls (Ls.length - 1 - j)).toNat (chS p k wd Ls U V z c D j).2.1 (chS p k wd Ls U V z c D j).2.2 (nthC U j) (nthL V j)) := rfl
      have hA1 : chA p k wd Ls U V z c D (j + 1) = (chA p k wd Ls U V z c D j && chB p k wd Ls U V z c D j) := rfl
      have hB0 : chB p k wd Ls U V z c D j = lyB p k (nthY Ls (Ls.length - 1 - j)) (beneath wd Ls (Ls.length - 1 - j)).toNat (chS p k wd Ls U V z c D j).1 (chS p k wd Ls U V z c D j).2.1 (chS p k wd Ls U V z c D j).2.2 (nthC U j) (nthL V j) := rfl
      have hz30 := (wideOf_bd (nthY Ls (Ls.length - 1 - j)).length).2
      rw [hi] at hsn hB0 hzl hz30
      rw [hnn, Int.toNat_natCast] at hsn hB0
      have HNN := Lib.hid hnn
      generalize chS p k wd Ls U V z c D j = st at *
      obtain ⟨zj, cj, Dj⟩ := st
      dsimp only at hzl hdl hsn hB0 HIZR HCR
      have hzj : zj.length ≤ 30 := by omega
      have HWL := Lib.hid (show (nthY Ls i).length = 2 ^ zj.length from by
        have h1 := wideOf_pow ((cirErr_ok H0.out).1.2.2.2.2 i hil)
        rw [← hzl, Int.toNat_natCast] at h1
        exact_mod_cast h1)
      have HGK := Lib.hid (show ∀ k, k < (nthY Ls i).length → gateOk (2 ^ nn) (nthT (nthY Ls i) k) from fun k hk => by
        have h1 := (cirErr_ok H0.out).2 i hil k hk
        rw [below_pow (cirErr_ok H0.out).1 hil, HNN.out, Int.toNat_natCast] at h1
        exact_mod_cast h1)
      have hju : j < U.length := by rw [HE2.out]; exact hjl
      have hjv : j < V.length := by rw [HE3.out]; exact hjl
      have hixu := HU.out.run_index (P := Tryz.prog) slCubB j hju
      have hixl := HWW.out.run_index (P := Tryz.prog) slRows j hjv
      obtain ⟨RT, hrt⟩ := HU.out.row j hju
      obtain ⟨T, hT⟩ : ∃ T, nthC U j = T := ⟨_, rfl⟩
      obtain ⟨ln, hln⟩ : ∃ ln, nthL V j = ln := ⟨_, rfl⟩
      rw [hT] at hrt hsn hB0
      rw [hln] at hsn hB0
      have hrl := HWW.out.row j hjv
      rw [hln] at hrl
      have HRT := Lib.hid (hrt.ext HX2.out)
      have HRL := Lib.hid (hrl.ext HX2.out)
      have hlt1 := hrt.run_len (P := Tryz.prog) slRows
      have hll1 := hrl.run_len (P := Tryz.prog) slInts
      have htl := hrt.len
      have hlnl := hrl.len
      have HQJ := Lib.hid (HX2.out.cell (HU.out.cell j hju)); have HRJ := Lib.hid (HX2.out.cell (HWW.out.cell j hjv))
      generalize QU j = qt at *
      generalize RV j = rl at *
      have HSN := Lib.hid hsn; have HA1 := Lib.hid hA1
      have HBADX := Lib.hid (show lyB p k (nthY Ls i) nn zj cj Dj T ln = false → ckAll p k wd Ls outs U V = false from fun h => by
        rw [HALL.out]
        exact chA_false (hB0.trans h) Ls.length hjl)
      have HB0 := Lib.hid hB0
      have j0 := HXR.out.cell HM2.out.1.1; have j1 := HXR.out.cell HM2.out.1.2
      have hcbr : cb < wr.heap.size := HCR.out.lt
      clear hsn hA1 hi hrt hrl hju hjv hT hln hB0 hbn hnn
      go_upto_region 13 with (fail)
      rw [HEI.out]
      go_upto_region 14 with (go_at_call 53; refine (rbeneath_any wd _ Ls R i _ ((HV.out.ext HX2.out).ext HXR.out) hil).mono ?_; rw [HNN.out]; rintro e w6 ⟨rfl, hx6⟩)
      have hxr6 := HXR.out.trans hx6
      have HX6 := Lib.hid hxr6
      have HG6 := Lib.hid (HG.out.trans (hx6.grownBy _))
      have HC6 := Lib.hid (HCR.out.ext hx6)
      have HZ6 := Lib.hid (HIZR.out.ext hx6)
      have i0 := hxr6.cell HM2.out.2.1; have i1 := hxr6.cell HM2.out.2.2
      have q2 := hxr6.cell HQJ.out; have q3 := hxr6.cell HRJ.out
      have hcb6 : cb < w6.heap.size := HC6.out.lt
      clear hx6 hxr6 j0 j1 HXR HG HCR HIZR hcbr HXWR
      by_cases eT : T.length = 2 * nn
      rotate_left
      · have b1 : ((T.length : Int) != 2 * (nn : Int)) = true := by rw [bne_iff_ne]; omega
        have HB := Lib.hid (HBADX.out (by unfold lyB frmB; rw [decide_eq_false eT]; rfl))
        clear eT
        go_wp2_with fail
        go_ret3
        exact .mk _ rfl (HX2.out.trans HX6.out) (.inl ⟨HB.out, rfl⟩)
      by_cases eL : ln.length = nn + 1
      rotate_left
      · have b1 : ((T.length : Int) != 2 * (nn : Int)) = false := by rw [bne_eq_false_iff_eq]; omega
        have b2 : ((ln.length : Int) != (nn : Int) + 1) = true := by rw [bne_iff_ne]; omega
        have HB := Lib.hid (HBADX.out (by unfold lyB frmB; rw [decide_eq_false eL, Bool.and_false]; rfl))
        clear eT eL
        go_wp2_with fail
        go_ret3
        exact .mk _ rfl (HX2.out.trans HX6.out) (.inl ⟨HB.out, rfl⟩)
      have HTL := Lib.hid eT; have HLL := Lib.hid eL
      rw [eT] at hlt1
      rw [eL] at hll1
      clear eT eL htl hlnl
      have b1 : ((2 * (nn : Int)) != 2 * (nn : Int)) = false := by simp
      have b2 : (((nn : Int) + 1) != (nn : Int) + 1) = false := by simp
      go_wp2_with fail
      have h2p : 2 ≤ p := by omega
      go_loopw [15, 21, 22, 23, 24, 25] (fun x15 x21 x22 _ _ _ wq => ∃ m : Nat, m ≤ 2 * nn ∧ x22 = .int .i64 m ∧ x15 = .int .i64 (ckS p k T cj Dj m).2.1 ∧ Hid (wq.ownsRow w6.heap.size 3 1 x21 m ((ckS p k T cj Dj m).1.map (Value.int .i64))) ∧ Hid (w6.grownBy wq (some cb)) ∧ Hid (ChD wq cb p (ckS p k T cj Dj m).2.2) ∧ Hid (ckA p k T cj Dj m = true ∧ thr3 T m = true)) (fun _ _ x22 _ _ _ _ => 2 * nn - (intOf x22).toNat)
      case atStart => exact ⟨0, Nat.zero_le _, rfl, rfl, Lib.hid (World.ownsRow_nil _ _ _ _), Lib.hid (World.grownBy.refl _ _), HC6, Lib.hid ⟨rfl, rfl⟩⟩
      case round =>
        clear HC6 i0 i1 q2 q3
        obtain ⟨m, hm, rfl, rfl, HXS, HG, HCM, HAT⟩ := hrel
        have HXO := Lib.hid (grown_old HX6.out HG.out HCB.out)
        by_cases hmn : m < 2 * nn
        · have hmT : m < T.length := by rw [HTL.out]; exact hmn
          have hix := HRT.out.run_index (P := Tryz.prog) slRows m hmT
          have hcr := HXO.out.cell (HRT.out.cell m hmT)
          have hrow0 := HRT.out.row m hmT
          have hdd := ckS_dig p k T cj hdl m
          have hdl2 := ckS_len p k T cj Dj m
          have hsn : ckS p k T cj Dj (m + 1) = ((ckS p k T cj Dj m).1 ++ [nth (stepP p k 4 (stepP p k 3 (ckS p k T cj Dj m).2.2 (nthL T m)) []) 0], thrV p (nthL T m) (nth (stepP p k 4 (stepP p k 3 (ckS p k T cj Dj m).2.2 (nthL T m)) []) 0), stepP p k 4 (stepP p k 3 (ckS p k T cj Dj m).2.2 (nthL T m)) []) := rfl
          have hA1 : ckA p k T cj Dj (m + 1) = (ckA p k T cj Dj m && ckB p k T cj Dj m) := rfl
          have hT1 : thr3 T (m + 1) = (thr3 T m && ((nthL T m).length == 3)) := rfl
          have hB0 : ckB p k T cj Dj m = (fadd p (nth (nthL T m) 0) (nth (nthL T m) 1) == (ckS p k T cj Dj m).2.1) := rfl
          have HBF := Lib.hid (fun h => ckA_false (p := p) (k := k) (T := T) (c := cj) (D := Dj) (m := m) h (2 * nn) hmn)
          have HTF := Lib.hid (fun h => thr3_false (T := T) (m := m) h (2 * nn) hmn)
          generalize ckS p k T cj Dj m = st at *
          obtain ⟨xs, cm, DD⟩ := st
          dsimp only at hdd hdl2 hsn hB0 HXS HCM
          obtain ⟨l, hl⟩ : ∃ l, nthL T m = l := ⟨_, rfl⟩
          rw [hl] at hrow0 hsn hB0 hT1 HTF
          have hrl := hrow0.run_len (P := Tryz.prog) slInts
          generalize RT m = rm at *
          have HROW0 := Lib.hid hrow0; have HSN := Lib.hid hsn; have HA1 := Lib.hid hA1; have HT1 := Lib.hid hT1; have HXL := Lib.hid hdl2
          by_cases h3 : l.length = 3
          rotate_left
          · have b3 : ((l.length : Int) != 3) = true := by rw [bne_iff_ne]; omega
            have HB := Lib.hid (HBADX.out (by
              have h5 := HTF.out (by rw [beq_eq_false_iff_ne]; exact h3)
              unfold lyB frmB; rw [h5, Bool.and_false]; rfl))
            have hlb := hrow0.len
            clear hrow0 hsn hA1 hT1 hl hdl2 hB0 h3
            go_wp2_with fail
            go_ret3
            exact .mk _ rfl (HX2.out.trans HXO.out) (.inl ⟨HB.out, rfl⟩)
          have hrow := hrow0.ext HXO.out
          have hi0 := hrow.run_index (P := Tryz.prog) slInts 0 (by omega)
          have hi1 := hrow.run_index (P := Tryz.prog) slInts 1 (by omega)
          have hc0 := hrow.cell 0 (by omega)
          have hc1 := hrow.cell 1 (by omega)
          rw [show ((0 : Nat) : Int) = 0 from rfl] at hi0
          rw [show ((1 : Nat) : Int) = 1 from rfl] at hi1
          have HL3 := Lib.hid h3
          have b3 : ((3 : Int) != 3) = false := by decide
          rw [h3, show ((3 : Nat) : Int) = 3 from rfl] at hrl
          clear hrow hrow0 hsn hA1 hT1 hl hdl2 h3
          generalize nth l 0 = l0 at *
          generalize nth l 1 = l1 at *
          by_cases hB : ckB p k T cj Dj m = true
          · have bb : (fadd p l0 l1 != cm) = false := by
              rw [hB] at hB0
              rw [bne_eq_false_iff_eq]; exact beq_iff_eq.1 hB0.symm
            have HB := Lib.hid hB
            clear hB hB0
            go_wp2_with fail
            go_quiet ((go_at_call 34; exact radd_q _ _ _ _ _ h2p hp2))
            have HGW := Lib.hid (HG.out.trans ((Ext.drewN wr nq).grownBy _))
            have HCW := Lib.hid (HCM.out.ext (Ext.drewN wr nq))
            have HXSW := Lib.hid (own_ext HXS.out (Ext.drewN wr nq))
            clear hi0 hi1 hc0 hc1 hix hcr HG HCM HXS HXO hrl
            generalize wr.drewN nq = W at *
            go_wp2_with fail
            refine (rstep_any p k 3 _ l _ cb _ h23 hp2 HKP.out HCW.out (HROW0.out.ext (grown_old HX6.out HGW.out HCB.out)) (by rw [hdd, HL3.out]; decide)).mono ?_
            rintro e wF ⟨rfl, hgF, hcF, -⟩
            have HGF := Lib.hid (HGW.out.trans hgF)
            have HXSF := Lib.hid (own_low HXSW.out hgF hcb6)
            have HCF := Lib.hid hcF
            clear hcF hgF HGW HXSW HCW
            go_wp2_with fail
            refine (rdraw_any p k _ cb _ h23 hp2 HKP.out HCF.out (by rw [stepP_length]; omega)).mono ?_
            rintro e wH ⟨rfl, hgH, hcH, hdH⟩
            have HGH := Lib.hid (HGF.out.trans hgH)
            have HXSH := Lib.hid (own_low HXSF.out hgH hcb6)
            have HXB := Lib.hid (HXSF.out.lt)
            have HCH := Lib.hid hcH; have HDH := Lib.hid hdH
            have hszH := HGH.out.size
            clear hcH hgH hdH HGF HXSF HCF
            obtain ⟨x, hx⟩ : ∃ x, nth (stepP p k 4 (stepP p k 3 DD l) []) 0 = x := ⟨_, rfl⟩
            obtain ⟨E, hE⟩ : ∃ E, stepP p k 4 (stepP p k 3 DD l) [] = E := ⟨_, rfl⟩
            have HSN2 := HSN.out
            rw [hx, hE] at HSN2
            rw [hE] at HCH
            have HSN3 := Lib.hid HSN2
            rw [hx]
            clear hx hE HSN2 HSN
            go_upto_region 31 with (at_builtin; refine wpList_appNw rfl _ _ 23 rfl slInts rfl hszH HXSH.out rfl _ rfl (by intro u hu; simp at hu; subst hu; rfl) rfl (by omega) (by omega) ?_; intro vI wI hoI hgI hmI)
            have hne : some cb ≠ Value.ownBlock _ := fun e => by have := (HXSH.out.lt _ e.symm).1; omega
            have HCI := Lib.hid (HCH.out.grown hgI hne (fun v hv q hq e => by have h5 := HDH.out v hv q hq; have h6 := (HXB.out q e.symm).2; omega))
            have HGI := Lib.hid (grown_low HGH.out hgI (fun q hq => (HXSH.out.lt q hq).1))
            have HOI := Lib.hid hoI
            have HAN := Lib.hid (And.intro (show ckA p k T cj Dj (m + 1) = true from by rw [HA1.out, HAT.out.1, HB.out]; rfl) (show thr3 T (m + 1) = true from by rw [HT1.out, HAT.out.2, HL3.out]; rfl))
            clear hoI hgI hmI hne
            go_wp2_with (go_at_call 56; refine (rthrough_any p x _ l _ h2p hp2 (HROW0.out.ext (grown_old HX6.out HGI.out HCB.out)) (by rw [HL3.out]; decide)).mono ?_; rw [show ev (fitL p (idxL l.length) l) x % p = thrV p l x from rfl]; rintro e wT ⟨rfl, hxT⟩)
            go_roundw
            case rel => exact ⟨m + 1, by omega, by go_num, by rw [HSN3.out], Lib.hid (by rw [HSN3.out, List.map_append]; exact own_ext HOI.out hxT), Lib.hid (HGI.out.trans (hxT.grownBy _)), Lib.hid (by rw [HSN3.out]; exact HCI.out.ext hxT), HAN⟩
            case measure => simp [intOf]; omega
          · have hB' : ckB p k T cj Dj m = false := by simpa using hB
            have bb : (fadd p l0 l1 != cm) = true := by
              rw [hB'] at hB0
              rw [bne_iff_ne]; exact fun e => by rw [e] at hB0; simp at hB0
            have HBAD := Lib.hid (HBADX.out (by unfold lyB; rw [HBF.out hB', Bool.and_false]; rfl))
            clear hB hB' hB0
            go_wp2_with fail
            go_quiet ((go_at_call 34; exact radd_q _ _ _ _ _ h2p hp2))
            go_wp2_with fail
            go_ret3
            exact .mk _ rfl ((HX2.out.trans HXO.out).trans (Ext.drewN wr nq)) (.inl ⟨HBAD.out, rfl⟩)
        · obtain rfl : m = 2 * nn := by omega
          have hdl2 := ckS_len p k T cj Dj (2 * nn)
          have hdd := ckS_dig p k T cj hdl (2 * nn)
          have hlD : lyD p k nn cj Dj T ln = stepP p k 4 (stepP p k 3 (ckS p k T cj Dj (2 * nn)).2.2 ln) [] := rfl
          have hlZ : lyZ p k nn cj Dj T ln = onL p ((ckS p k T cj Dj (2 * nn)).1.take nn) ((ckS p k T cj Dj (2 * nn)).1.drop nn) (nth (lyD p k nn cj Dj T ln) 0) := rfl
          have hlC : lyC p k nn cj Dj T ln = thrV p ln (nth (lyD p k nn cj Dj T ln) 0) := rfl
          have hlB : lyB p k (nthY Ls i) nn zj cj Dj T ln = (lnV p (nthY Ls i) zj ((ckS p k T cj Dj (2 * nn)).1.take nn) ((ckS p k T cj Dj (2 * nn)).1.drop nn) ln nn == (ckS p k T cj Dj (2 * nn)).2.1) := by unfold lyB frmB; rw [HAT.out.1, HAT.out.2, decide_eq_true HTL.out, decide_eq_true HLL.out]; rfl
          clear HAT
          obtain ⟨st, hst⟩ : ∃ st, ckS p k T cj Dj (2 * nn) = st := ⟨_, rfl⟩
          rw [hst] at hdl2 hdd hlD hlZ hlB HXS HCM
          rw [hst]
          clear hst
          obtain ⟨X, cm, DD⟩ := st
          dsimp only at hdl2 hdd hlD hlZ hlB HXS HCM
          rw [hlD] at hlZ hlC
          have hxi := Ints.of_own HXS.out
          have htk := hxi.run_take (P := Tryz.prog) slInts nn (by omega)
          have hdr := hxi.run_drop (P := Tryz.prog) slInts nn (by omega)
          have HXT := Lib.hid (hxi.take nn (by omega)); have HXD := Lib.hid (hxi.drop nn (by omega))
          have HLT := Lib.hid (show (X.take nn).length = nn from by rw [List.length_take]; omega)
          have HLD2 := Lib.hid (show (X.drop nn).length = nn from by rw [List.length_drop]; omega)
          have HBT := Lib.hid (HXS.out.lt)
          clear hxi
          obtain ⟨xl, hxl⟩ : ∃ xl, X.take nn = xl := ⟨_, rfl⟩
          obtain ⟨yl, hyl⟩ : ∃ yl, X.drop nn = yl := ⟨_, rfl⟩
          rw [hxl] at HXT HLT
          rw [hyl] at HXD HLD2
          rw [hxl, hyl] at hlZ hlB
          clear hxl hyl
          obtain ⟨E, hE⟩ : ∃ E, stepP p k 4 (stepP p k 3 DD ln) [] = E := ⟨_, rfl⟩
          rw [hE] at hlD hlZ hlC
          obtain ⟨t, htt⟩ : ∃ t, nth E 0 = t := ⟨_, rfl⟩
          rw [htt] at hlZ hlC
          have HLYD := Lib.hid hlD; have HLYZ := Lib.hid hlZ; have HLYC := Lib.hid hlC; have HLYB := Lib.hid hlB
          have HEE := Lib.hid hE; have HTT := Lib.hid htt
          clear hlD hlZ hlC hlB hE htt
          have HBX := Lib.hid (upTo_block _ nn HBT.out)
          have HBY := Lib.hid (fromV_block _ nn HBT.out)
          have hcbx : ∀ {v : Value} {C : Nat}, (∀ q, v.ownBlock = some q → w6.heap.size ≤ q ∧ q < C) → ∀ q, v.ownBlock = some q → some q ≠ some cb := fun h q hq e => by have h1 := (h q hq).1; have h2 := Option.some.inj e; omega
          have HCBX := Lib.hid (hcbx HBX.out); have HCBY := Lib.hid (hcbx HBY.out)
          clear hcbx
          have HLNW := Lib.hid (HRL.out.ext HXO.out)
          have HZW := Lib.hid (HZ6.out.grown HG.out HZBR.out)
          have HVW := Lib.hid ((HV.out.ext HX2.out).ext HXO.out)
          have HLNV := Lib.hid (show lnV p (nthY Ls i) zj xl yl ln nn = fadd p (fmul p (wireU (nthY Ls i) 0 zj xl yl (nthY Ls i).length % p) (fadd p (nth ln 0) (nth ln (min 1 nn)))) (fmul p (wireU (nthY Ls i) 1 zj xl yl (nthY Ls i).length % p) (fmul p (nth ln 0) (nth ln (min 1 nn)))) from rfl)
          have hi0 := HLNW.out.run_index (P := Tryz.prog) slInts 0 (by rw [HLL.out]; omega)
          have hc0 := HLNW.out.cell 0 (by rw [HLL.out]; omega)
          rw [show ((0 : Nat) : Int) = 0 from rfl] at hi0
          have hin := HLNW.out.run_index (P := Tryz.prog) slInts nn (by rw [HLL.out]; omega)
          have hcn := HLNW.out.cell nn (by rw [HLL.out]; omega)
          obtain ⟨l0, hl0⟩ : ∃ l0, nth ln 0 = l0 := ⟨_, rfl⟩
          obtain ⟨lm, hlm⟩ : ∃ lm, nth ln (min 1 nn) = lm := ⟨_, rfl⟩
          rw [hl0] at HLNV hc0
          rw [hlm] at HLNV
          have hvi := HVW.out.run_index (P := Tryz.prog) slLayers i hil
          have hvc := HVW.out.cell i hil
          have j1 := HXO.out.cell HM2.out.1.2
          have HROWI := Lib.hid (HVW.out.row i hil)
          have e9 : (nn : Int) + 1 - 1 = (nn : Int) := by omega
          by_cases hn0 : 0 < nn
          case' pos =>
            have hi1 := HLNW.out.run_index (P := Tryz.prog) slInts 1 (by rw [HLL.out]; omega)
            have hc1 := HLNW.out.cell 1 (by rw [HLL.out]; omega)
            rw [show ((1 : Nat) : Int) = 1 from rfl] at hi1
            rw [show min 1 nn = 1 by omega] at hlm
            rw [hlm] at hc1
            have hg0 : ((nn : Int) > 0) := by omega
            clear hlm hl0
            go_upto_region 38 with (fail)
          case' neg =>
            rw [show min 1 nn = nn by omega] at hlm
            rw [hlm] at hcn
            have hg0 : ¬ ((nn : Int) > 0) := by omega
            clear hlm hl0
            go_upto_region 38 with (fail)
          all_goals
            generalize hvx : upTo _ nn = vx at *
            generalize hvy : fromV _ nn = vy at *
            clear hvx hvy htk hdr hi0 hc0 hin hcn hg0 e9 hn0
            obtain ⟨U0, hU0⟩ : ∃ U0, wireU (nthY Ls i) 0 zj xl yl (nthY Ls i).length % p = U0 := ⟨_, rfl⟩
            obtain ⟨U1, hU1⟩ : ∃ U1, wireU (nthY Ls i) 1 zj xl yl (nthY Ls i).length % p = U1 := ⟨_, rfl⟩
            have HU0 := Lib.hid hU0; have HU1 := Lib.hid hU1
            have HLY := Lib.hid (show lyB p k (nthY Ls i) nn zj cj Dj T ln = (fadd p (fmul p U0 (fadd p l0 lm)) (fmul p U1 (fmul p l0 lm)) == cm) from by rw [HLYB.out, HLNV.out, hU0, hU1])
            clear hU0 hU1
            go_upto_region 39 with (go_at_call 57; refine (rwire_any p _ (nthY Ls i) 0 _ vx vy zj xl yl (2 ^ nn) h2p hp2 HROWI.out HGK.out HZW.out HXT.out HXD.out hzj (by rw [HLT.out]; omega) (by rw [HLD2.out]; omega) HWL.out (by rw [HLT.out]) (by rw [HLD2.out])).mono ?_; rw [HU0.out]; rintro e wA ⟨rfl, hxA⟩; replace j1 := hxA.cell j1; replace hvc := hxA.cell hvc)
            go_upto_region 40 with (go_at_call 57; refine (rwire_any p _ (nthY Ls i) 1 _ vx vy zj xl yl (2 ^ nn) h2p hp2 (HROWI.out.ext hxA) HGK.out (HZW.out.ext hxA) (HXT.out.ext hxA) (HXD.out.ext hxA) hzj (by rw [HLT.out]; omega) (by rw [HLD2.out]; omega) HWL.out (by rw [HLT.out]) (by rw [HLD2.out])).mono ?_; rw [HU1.out]; rintro e wB ⟨rfl, hxB⟩)
            have hxAB := hxA.trans hxB
            have HGB := Lib.hid (HG.out.trans (hxAB.grownBy _))
            have HCB2 := Lib.hid (HCM.out.ext hxAB)
            have HXB := Lib.hid (HXT.out.ext hxAB); have HYB := Lib.hid (HXD.out.ext hxAB)
            clear hxA hxB hxAB j1 hvc hvi HROWI HVW HZW HXT HXD HG HCM HXS
            by_cases hv : fadd p (fmul p U0 (fadd p l0 lm)) (fmul p U1 (fmul p l0 lm)) = cm
            · have bb : (fadd p (fmul p U0 (fadd p l0 lm)) (fmul p U1 (fmul p l0 lm)) != cm) = false := by rw [bne_eq_false_iff_eq]; exact hv
              have HBT2 := Lib.hid (show lyB p k (nthY Ls i) nn zj cj Dj T ln = true from by rw [HLY.out, beq_iff_eq]; exact hv)
              clear hv
              go_upto_region 47 with (first | (go_at_call 33; refine (rmul_any _ _ _ _ h2p hp2).mono ?_; rintro e w' ⟨rfl, rfl⟩) | (go_at_call 34; refine (radd_any _ _ _ _ h2p hp2).mono ?_; rintro e w' ⟨rfl, rfl⟩))
              go_wp2_with fail
              refine (rstep_any p k 3 _ ln _ cb _ h23 hp2 HKP.out HCB2.out (HRL.out.ext (grown_old HX6.out HGB.out HCB.out)) (by rw [hdd, HLL.out]; omega)).mono ?_
              rintro e wF ⟨rfl, hgF, hcF, -⟩
              have HGF := Lib.hid (HGB.out.trans hgF)
              have HCF := Lib.hid hcF
              have HXF := Lib.hid (HXB.out.grown hgF HCBX.out); have HYF := Lib.hid (HYB.out.grown hgF HCBY.out)
              clear hcF hgF HGB HCB2 HXB HYB
              go_wp2_with fail
              refine (rdraw_any p k _ cb _ h23 hp2 HKP.out HCF.out (by rw [stepP_length]; omega)).mono ?_
              rintro e wH ⟨rfl, hgH, hcH, -⟩
              have HGH := Lib.hid (HGF.out.trans hgH)
              have HXH := Lib.hid (HXF.out.grown hgH HCBX.out); have HYH := Lib.hid (HYF.out.grown hgH HCBY.out)
              rw [HEE.out] at hcH
              have HCH := Lib.hid hcH
              rw [HEE.out, HTT.out]
              clear hcH hgH HGF HCF HXF HYF
              go_wp2_with (first | (go_at_call 58; refine (ronB_any p t vx vy xl yl _ h2p hp2 HXH.out HYH.out (by rw [HLT.out]; omega) (by rw [HLT.out, HLD2.out]; exact Nat.le_refl _)).mono ?_; rintro e wO ⟨vO, rfl, hxO, hiO, hbO⟩) | (go_at_call 56; refine (rthrough_any p t _ ln _ h2p hp2 (HRL.out.ext ((grown_old HX6.out HGH.out HCB.out).trans hxO)) (by rw [HLL.out]; omega)).mono ?_; rw [show ev (fitL p (idxL ln.length) ln) t % p = thrV p ln t from rfl]; rintro e wT ⟨rfl, hxT⟩))
              have HIO := Lib.hid (hiO.ext hxT); have HGT := Lib.hid (HGH.out.trans ((hxO.trans hxT).grownBy _)); have HCT := Lib.hid (HCH.out.ext (hxO.trans hxT))
              have HNB := Lib.hid (show ∀ q, vO.ownBlock = some q → some q ≠ some cb from fun q hq e => by have h5 := (hbO q hq).1; have h6 := Option.some.inj e; have h7 := HCH.out.lt; omega)
              have HA2 := Lib.hid (show chA p k wd Ls U V z c D (j + 1) = true from by rw [HA1.out, HA.out, HB0.out, HBT2.out]; rfl)
              clear hiO hbO hxO hxT
              go_roundw
              case rel => exact ⟨j + 1, by omega, by go_num, by rw [HSN.out, HLYC.out], Lib.hid (by rw [HSN.out, HLYZ.out]; exact HIO.out), HNB, Lib.hid (by rw [HSN.out, HLYD.out]; exact HCT.out), Lib.hid (HG6.out.trans HGT.out), HA2⟩
              case measure => simp [intOf]; omega
            · have bb : (fadd p (fmul p U0 (fadd p l0 lm)) (fmul p U1 (fmul p l0 lm)) != cm) = true := by rw [bne_iff_ne]; exact hv
              have HBT2 := Lib.hid (HBADX.out (by rw [HLY.out, beq_eq_false_iff_ne]; exact hv))
              clear hv
              go_wp2_with (first | (go_at_call 33; refine (rmul_any _ _ _ _ h2p hp2).mono ?_; rintro e w' ⟨rfl, rfl⟩) | (go_at_call 34; refine (radd_any _ _ _ _ h2p hp2).mono ?_; rintro e w' ⟨rfl, rfl⟩))
              go_ret3
              exact .mk _ rfl (HX2.out.trans (grown_old HX6.out HGB.out HCB.out)) (.inl ⟨HBT2.out, rfl⟩)
    · obtain rfl : j = Ls.length := by omega
      have HIE := Lib.hid HIZR.out
      go_wp2_with fail
      go_ret3
      exact .mk _ rfl HXWR.out (.inr ⟨by rw [HALL.out]; exact HA.out, _, by rw [HEND.out]; rfl, by rw [HEND.out]; exact HIE.out⟩)
end
end Go.Proofs.YtaajjaadlpgbiaaGreatDoor
