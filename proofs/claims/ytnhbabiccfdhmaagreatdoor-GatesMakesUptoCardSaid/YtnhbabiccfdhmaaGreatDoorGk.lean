/- A circuit is shown, the document's side: contract. -/
import Derived.Test.YtnhbabiccfdhmaaGreatDoorGh
import Derived.Test.YtnhbabiccfdhmaaGreatDoorGc
import Derived.Test.YtnhbabiccfdhmaaGreatDoorZx12
import Derived.Test.YtnhbabiccfdhmaaGreatDoorP5
namespace Go.Proofs.YtnhbabiccfdhmaaGreatDoor
open Go.RowKit Go.Att
section
variable {w : World} {p : Int} {k : Nat} {wd : Int} {lv vi : Value} {Ls : List (List Tri)} {R : Nat → Value} {inp : List Int}
set_option maxRecDepth 100000 in
set_option maxHeartbeats 16000000 in
theorem rmake_any (h23 : 23 ≤ p) (hp2 : p ≤ 2147483647) (hk : IsPw p k) (hv : LysAt w lv Ls R) (hi : Ints w vi inp) (hE : cirErr wd Ls = 0) (hin : (inp.length : Int) = 2 ^ wd.toNat) (n : Nat) (hn : wideOf (nthY Ls (Ls.length - 1)).length = n) (z D : List Int) (hz : z = drwL p k (begS p k wd Ls (vrow p Ls inp Ls.length)) n) (hD : D = drwS p k (begS p k wd Ls (vrow p Ls inp Ls.length)) n) :
    Calls Tryz.prog 27 #[.int .i64 p, .agg #[.int .i64 wd, lv], vi] w (Gives w fun u w' => ∃ vr vl, u = .agg #[vr, vl] ∧ Cub w' vr (mkR p k wd Ls inp z D Ls.length) ∧ Rws w' vl (mkL p k wd Ls inp z D Ls.length)) := by
  have HKP := Lib.hid hk; have HV := Lib.hid hv; have HI := Lib.hid hi; have H0 := Lib.hid hE; have HIN := Lib.hid hin; have HN := Lib.hid hn; have HZD := Lib.hid hz; have HDD := Lib.hid hD
  obtain ⟨hS, hG⟩ := cirErr_ok hE
  have hlen8 : Ls.length ≤ 8 := hS.2.2.2.1
  have hlen1 : 1 ≤ Ls.length := hS.2.2.1
  obtain ⟨ao, cap, rfl⟩ := hv.shape
  have hll := hv.run_len (P := Tryz.prog) slLayers
  clear hk hv hi hE hin hn hz hD hS hG
  have HX0 := Lib.hid ((Ext.alloc w (Obj.cells #[.int .i64 wd, .slice ao Ls.length cap] 48)).trans (Ext.alloc _ (Obj.cells #[.slice none 0 0, .slice none 0 0] 53)))
  have k0 := (Ext.alloc (w.alloc (Obj.cells #[.int .i64 wd, .slice ao Ls.length cap] 48)) (Obj.cells #[.slice none 0 0, .slice none 0 0] 53)).cell (cell_new w #[.int .i64 wd, .slice ao Ls.length cap] 48 0)
  have k1 := (Ext.alloc (w.alloc (Obj.cells #[.int .i64 wd, .slice ao Ls.length cap] 48)) (Obj.cells #[.slice none 0 0, .slice none 0 0] 53)).cell (cell_new w #[.int .i64 wd, .slice ao Ls.length cap] 48 1)
  have HRB := Lib.hid (show BlkOf ((w.alloc (Obj.cells #[.int .i64 wd, .slice ao Ls.length cap] 48)).alloc (Obj.cells #[.slice none 0 0, .slice none 0 0] 53)) (w.heap.size + 1) [.slice none 0 0, .slice none 0 0] 53 from by have := BlkOf.new (w.alloc (Obj.cells #[.int .i64 wd, .slice ao Ls.length cap] 48)) [.slice none 0 0, .slice none 0 0] 53; rw [World.size_alloc] at this; exact this)
  have HS0 := Lib.hid (show ((w.alloc (Obj.cells #[.int .i64 wd, .slice ao Ls.length cap] 48)).alloc (Obj.cells #[.slice none 0 0, .slice none 0 0] 53)).heap.size = w.heap.size + 2 from by simp)
  have HK0 := Lib.hid k0; have HK1 := Lib.hid k1
  clear k0 k1
  go_enter Tryz.func27, Tryz.ntmps27
  go_upto_region 1 with (fail)
  generalize ((w.alloc (Obj.cells #[.int .i64 wd, .slice ao Ls.length cap] 48)).alloc (Obj.cells #[.slice none 0 0, .slice none 0 0] 53)) = w1 at *
  have k0 : w1.cell? ⟨w.heap.size, 0, none⟩ = some (.int .i64 wd) := HK0.out
  have k1 : w1.cell? ⟨w.heap.size, 1, none⟩ = some (.slice ao Ls.length cap) := HK1.out
  go_wp2_with (go_at_call 73; refine (rvalues_any p wd _ vi Ls R inp _ (by omega) hp2 (HV.out.ext HX0.out) (HI.out.ext HX0.out) H0.out HIN.out).mono ?_; rintro e w2 ⟨va, rfl, hx2, hrw⟩)
  obtain ⟨S, hrw⟩ := hrw
  have HX2 := Lib.hid (HX0.out.trans hx2)
  have HAL := Lib.hid hrw
  have HRB2 := Lib.hid (HRB.out.ext hx2)
  have m0 := hx2.cell k0
  have m1 := hx2.cell k1
  have HS2 := Lib.hid (show w.heap.size + 2 ≤ w2.heap.size from by have h1 := hx2.size; have h3 := HS0.out; omega)
  clear k0 k1 hrw hx2 HX0 HRB HS0
  have hgl := HAL.out.run_len (P := Tryz.prog) slRows
  rw [vals_length] at hgl
  have hgi := HAL.out.run_index (P := Tryz.prog) slRows Ls.length (by rw [vals_length]; omega)
  have hwr : IntKind.i64.wrap ((Ls.length : Nat) : Int) = ((Ls.length : Nat) : Int) := IntWalk.i64_in _ (by omega)
  have hgc := HAL.out.cell Ls.length (by rw [vals_length]; omega)
  have hgw := HAL.out.row Ls.length (by rw [vals_length]; omega)
  rw [vals_nth _ _ _ (Nat.le_refl _)] at hgw
  have HGW := Lib.hid hgw
  clear hgw
  go_wp2_with fail
  have hvl64 : (vrow p Ls inp Ls.length).length ≤ 64 := by
    have h1 := vrow_length (p := p) (Ls := Ls) HIN.out Ls.length
    unfold below at h1
    rw [if_neg (by omega)] at h1
    have h2 := wideOf_le ((cirErr_ok H0.out).1.2.2.2.2 (Ls.length - 1) (by omega))
    omega
  have hwo : wideOf (vrow p Ls inp Ls.length).length = n := by
    have h1 := vrow_length (p := p) (Ls := Ls) HIN.out Ls.length
    unfold below at h1
    rw [if_neg (by omega)] at h1
    rw [h1]; exact HN.out
  have HWO := Lib.hid hwo; clear hwo
  have HX3 := Lib.hid (HX2.out.trans (Ext.drew w2))
  obtain ⟨OUT, hOUT⟩ : ∃ OUT, vrow p Ls inp Ls.length = OUT := ⟨_, rfl⟩
  rw [hOUT] at HGW HZD HDD hvl64 HWO
  have HOUT := Lib.hid hOUT
  clear hOUT
  go_region_held3 (fun w' => w'.cell? ⟨w.heap.size, 0, none⟩ = some (.int .i64 wd) ∧ w'.cell? ⟨w.heap.size, 1, none⟩ = some (.slice ao Ls.length cap) ∧ w'.cell? (elt va Ls.length 1) = some (S Ls.length)) (first | exact ⟨hx4.cell ((Ext.drew w2).cell m0), hx4.cell ((Ext.drew w2).cell m1), hx4.cell ((Ext.drew w2).cell hgc)⟩ | exact ⟨(Ext.drew w2).cell m0, (Ext.drew w2).cell m1, (Ext.drew w2).cell hgc⟩ | go_keep) (first | (go_at_call 74; refine (rbeg_any (p := p) (k := k) h23 hp2 HKP.out (HV.out.ext HX3.out) (HGW.out.ext (Ext.drew w2)) H0.out hvl64 n HWO.out).mono ?_; rw [← HZD.out, ← HDD.out]; rintro e w4 ⟨v4, rfl, hx4, cb, vz, rfl, hcbs, hch, hdg, hiz, hzb⟩))
  have HX4 := Lib.hid ((Ext.drew w2).trans hx4)
  have HCH := Lib.hid hch; have HDG := Lib.hid hdg; have HIZ := Lib.hid hiz; have HZB := Lib.hid hzb; have HCB := Lib.hid hcbs
  have q1 := HX4.out.cell m1
  clear hx4 hch hdg hiz hzb hcbs hgi hgc hgl hwr HX3
  have HO5 := Lib.hid (BlkOf.new w4 [.slice none 0 0, .slice none 0 0] 53)
  have HX5 := Lib.hid (Ext.alloc w4 (Obj.cells #[.slice none 0 0, .slice none 0 0] 53))
  have r1 := HX5.out.cell q1
  go_wp2_with fail
  obtain ⟨w5, hw5⟩ : ∃ w5, w5 = w4.alloc (Obj.cells #[.slice none 0 0, .slice none 0 0] 53) := ⟨_, rfl⟩
  have hs5 : w5.heap.size = w4.heap.size + 1 := by rw [hw5]; simp
  rw [← hw5] at HO5 HX5 r1 ⊢
  have HX25 := Lib.hid (HX4.out.trans HX5.out)
  have hcb4 : cb < w4.heap.size := HCH.out.lt
  have hcb2 : w2.heap.size ≤ cb := Nat.le_trans (Ext.drew w2).size HCB.out
  have hob2 : w2.heap.size ≤ w4.heap.size := HX4.out.size
  have HCH5 := Lib.hid (HCH.out.ext HX5.out)
  have HM1 := Lib.hid m1; have HM0 := Lib.hid m0
  have HIZ5 := Lib.hid (show IntsM w5 (MkM cb w4.heap.size (w.heap.size + 1) (.slice none 0 0) (.slice none 0 0)) vz z from ⟨HIZ.out.ext HX5.out, fun q hq => by
    obtain ⟨h1, h2, h3⟩ := HZB.out q hq
    have h4 := HS2.out
    have h5 : w2.heap.size ≤ w2.drew.heap.size := (Ext.drew w2).size
    refine ⟨by omega, ?_⟩
    rintro (h | h | h | h)
    · exact h2 h
    · omega
    · cases h
    · cases h⟩)
  have HRB5 := Lib.hid (HRB2.out.ext HX25.out)
  have HLD := Lib.hid (show D.length = 4 from by rw [HDD.out]; exact drwS_length _ _ (begS_length _ _ _ _ _) _)
  have HLZ := Lib.hid (show (z.length : Int) = wideOf (nthY Ls (Ls.length - 1)).length from by rw [HZD.out, drwL_length, HN.out])
  clear hw5 HX4 HCH HDG HIZ HZB HCB q1 HX5 HRB2 m1 m0
  obtain ⟨ob, hob⟩ : ∃ ob, w4.heap.size = ob := ⟨_, rfl⟩
  rw [hob] at HO5 HIZ5 hob2 hcb4 hs5
  have HOB := Lib.hid hob
  rw [hob]
  clear hob
  go_loopw [9, 11, 12, 13, 14, 15, 16, 17, 18, 19, 20, 21, 22] (fun x9 x11 _ _ _ _ _ _ _ _ _ _ _ wr => ∃ (j : Nat) (vr vl : Value) (Q Rl : Nat → Value), j ≤ Ls.length ∧ x11 = .int .i64 ((Ls.length : Int) - 1 - (j : Int)) ∧ Hid (Ext w2 wr) ∧ Hid (ChD wr cb p (mkS p k wd Ls inp z D j).2) ∧ Hid (IntsM wr (MkM cb ob (w.heap.size + 1) vr vl) x9 (mkS p k wd Ls inp z D j).1) ∧ Hid (BlkOf wr ob [vr, vl] 53) ∧ Hid (wr.ownsRow w5.heap.size 22 1 vr j ((List.range j).map Q)) ∧ Hid (wr.ownsRow w5.heap.size 23 1 vl j ((List.range j).map Rl)) ∧ Hid (∀ t, t < j → RwsM wr (MkM cb ob (w.heap.size + 1) vr vl) (Q t) (nthC (mkR p k wd Ls inp z D j) t)) ∧ Hid (∀ t, t < j → IntsM wr (MkM cb ob (w.heap.size + 1) vr vl) (Rl t) (nthL (mkL p k wd Ls inp z D j) t)) ∧ Hid (∀ q, vr.ownBlock = some q → vl.ownBlock ≠ some q) ∧ Hid (w5.heap.size ≤ wr.heap.size ∧ BlkOf wr (w.heap.size + 1) [.slice none 0 0, .slice none 0 0] 53)) (fun _ x11 _ _ _ _ _ _ _ _ _ _ _ _ => (intOf x11 + 1).toNat)
  case atStart => exact ⟨0, .slice none 0 0, .slice none 0 0, fun _ => undef, fun _ => undef, Nat.zero_le _, by simp, HX25, HCH5, HIZ5, HO5, Lib.hid (World.ownsRow_nil _ _ _ _), Lib.hid (World.ownsRow_nil _ _ _ _), Lib.hid (fun t h => absurd h (Nat.not_lt_zero _)), Lib.hid (fun t h => absurd h (Nat.not_lt_zero _)), Lib.hid (fun q h => by cases h), Lib.hid ⟨Nat.le_refl _, HRB5.out⟩⟩
  case round =>
    clear HX25 HCH5 HIZ5 HO5 HRB5 r1
    obtain ⟨j, vr, vl, Q, Rl, hj, rfl, HXR, HCR, HZR, HOR, HVR, HVL, HQR, HRL, HSEP, HSZ⟩ := hrel
    by_cases hjl : j < Ls.length
    · obtain ⟨i, hi⟩ : ∃ i, Ls.length - 1 - j = i := ⟨_, rfl⟩
      have hil : i < Ls.length := by omega
      have e13 : (Ls.length : Int) - 1 - (j : Int) = (i : Int) := by omega
      have hbn := beneath_bd (cirErr_ok H0.out).1 hil
      have HLZJ := Lib.hid (mkS_len p k wd Ls inp D HLZ.out H0.out j hjl)
      have HLDJ := Lib.hid (mkS_dig p k wd Ls inp z HLD.out j)
      have HRS := Lib.hid (mkR_snoc p k wd Ls inp z D j); have HLS := Lib.hid (mkL_snoc p k wd Ls inp z D j)
      have hss : mkS p k wd Ls inp z D (j + 1) = (layZ p k wd Ls inp (Ls.length - 1 - j) (mkS p k wd Ls inp z D j).1 (mkS p k wd Ls inp z D j).2, layD p k wd Ls inp (Ls.length - 1 - j) (mkS p k wd Ls inp z D j).1 (mkS p k wd Ls inp z D j).2) := rfl
      have HRN := Lib.hid (mkR_len p k wd Ls inp z D j); have HLN := Lib.hid (mkL_len p k wd Ls inp z D j)
      rw [hi] at HRS HLS hss HLZJ
      have HSS := Lib.hid hss
      clear hss
      generalize mkS p k wd Ls inp z D j = st at *
      obtain ⟨zj, Dj⟩ := st
      dsimp only at HLZJ HLDJ HRS HLS HSS HCR HZR
      have HII := Lib.hid hi
      have hzl : zj.length ≤ 30 := by have h1 := HLZJ.out; have h2 := wideOf_hi (nthY Ls i).length; omega
      rw [e13]
      clear hi
      have hgei : ((i : Int) ≥ 0) := by omega
      obtain ⟨nb, hnb⟩ : ∃ nb : Nat, beneath wd Ls i = nb := ⟨(beneath wd Ls i).toNat, by omega⟩
      have HNB := Lib.hid hnb
      rw [hnb] at hbn
      clear hnb
      have j0 := HXR.out.cell HM0.out
      have j1 := HXR.out.cell HM1.out
      go_wp2_with (go_at_call 71; refine (rbeneath_any wd _ Ls R i _ ((HV.out.ext HX2.out).ext HXR.out) hil).mono ?_; rw [HNB.out]; rintro e w6 ⟨rfl, hx6⟩)
      have HG1 := Lib.hid (hx6.grownBy (some cb))
      have HC1 := Lib.hid (HCR.out.ext hx6)
      have HZ1 := Lib.hid (HZR.out.1)
      have HZB := Lib.hid (fun q (hq : Value.ownBlock _ = some q) => (HZR.out.2 q hq).2)
      obtain ⟨f, hf⟩ : ∃ f, layF p wd Ls inp i zj = f := ⟨_, rfl⟩
      have HFF := Lib.hid hf
      have HFP := Lib.hid (show ∀ xs, f xs = partS (nthY Ls i) nb (vrow p Ls inp i) zj xs (nthY Ls i).length % p from fun xs => by rw [← hf]; unfold layF; rw [HNB.out, Int.toNat_natCast])
      have hlt : cb < wr.heap.size := HCR.out.lt
      have hnb6 : nb ≤ 6 := by omega
      have HWL := Lib.hid (show (nthY Ls i).length ≤ 2 ^ zj.length from by
        have h1 := wideOf_pow ((cirErr_ok H0.out).1.2.2.2.2 i hil)
        rw [← HLZJ.out, Int.toNat_natCast] at h1
        have : (nthY Ls i).length = 2 ^ zj.length := by exact_mod_cast h1
        omega)
      have HGK := Lib.hid (show ∀ k, k < (nthY Ls i).length → gateOk (2 ^ nb) (nthT (nthY Ls i) k) from fun k hk => by
        have h1 := (cirErr_ok H0.out).2 i hil k hk
        rw [below_pow (cirErr_ok H0.out).1 hil, HNB.out, Int.toNat_natCast] at h1
        exact_mod_cast h1)
      have HXRH := Lib.hid HXR.out
      have hcw2 : w2.heap.size ≤ wr.heap.size := HXR.out.size
      clear hx6 hf j0 j1
      generalize wr = wB at *
      generalize u9 = vzj at *
      go_loopw [13, 14, 15, 16, 17, 18, 19, 20] (fun x13 x14 x15 _ _ _ _ _ wq => ∃ (m : Nat) (T : Nat → Value), m ≤ 2 * nb ∧ x15 = .int .i64 m ∧ Hid (Grid wB.heap.size wq 23 x13 (dwnT p k f Dj m) T) ∧ Hid (wq.ownsRow wB.heap.size 3 1 x14 m ((dwn p k f Dj m).1.map (Value.int .i64))) ∧ Hid (wB.grownBy wq (some cb)) ∧ Hid (ChD wq cb p (dwn p k f Dj m).2) ∧ Hid (∀ v, wq.cell? ⟨cb, 1, none⟩ = some v → ∀ q, v.ownBlock = some q → some q ≠ x13.ownBlock) ∧ Hid (∀ q, x14.ownBlock = some q → x13.ownBlock ≠ some q ∧ ∀ j, j < m → (T j).ownBlock ≠ some q)) (fun _ _ x15 _ _ _ _ _ _ => 2 * nb - (intOf x15).toNat)
      case atStart => exact ⟨0, fun _ => .slice none 0 0, Nat.zero_le _, rfl, Lib.hid (Grid.nil _ _ _ _), Lib.hid (World.ownsRow_nil _ _ _ _), HG1, HC1, Lib.hid (fun v _ q _ e => by cases e), Lib.hid (fun q hq => by cases hq)⟩
      case round =>
        clear HG1 HC1
        obtain ⟨m, T, hm, rfl, HT, HXS, HG, HCM, HDT, HSEP2⟩ := hrel
        by_cases hmn : m < 2 * nb
        · have hdl := dwn_len p k f Dj m
          have hdd := dwn_dig p k f HLDJ.out m
          have HTS := Lib.hid (dwnT_snoc p k f Dj m)
          have hsn : dwn p k f Dj (m + 1) = ((dwn p k f Dj m).1 ++ [nth (stepP p k 4 (stepP p k 3 (dwn p k f Dj m).2 (told3 f (dwn p k f Dj m).1)) []) 0], stepP p k 4 (stepP p k 3 (dwn p k f Dj m).2 (told3 f (dwn p k f Dj m).1)) []) := rfl
          have HSN := Lib.hid hsn
          have HTL := Lib.hid (dwnT_len p k f Dj m)
          generalize dwn p k f Dj m = st at *
          obtain ⟨xs, DD⟩ := st
          dsimp only at hdl hdd HSN HTS HXS HCM
          have HXL := Lib.hid hdl
          clear hdl hsn
          go_wp2_with fail
          have HXW := Lib.hid (grown_old HXR.out HG.out hcb2)
          have HZW := Lib.hid (HZ1.out.grown HG.out (fun q hq e => HZB.out q hq (.inl (Option.some.inj e))))
          generalize wr = W at *
          go_loopw [16, 17, 18, 19] (fun x16 x17 _ _ wq => ∃ t : Nat, t ≤ 3 ∧ x17 = .int .i64 t ∧ Hid (wq.ownsRow W.heap.size 3 1 x16 t (((told3 f xs).take t).map (Value.int .i64))) ∧ Hid (Ext W wq)) (fun _ x17 _ _ _ => 3 - (intOf x17).toNat)
          case atStart => exact ⟨0, by omega, rfl, Lib.hid (World.ownsRow_nil _ _ _ _), Lib.hid (Ext.refl _)⟩
          case round =>
            obtain ⟨t, ht, rfl, HOL, HXQ⟩ := hrel
            by_cases ht3 : t < 3
            · have HXI := Lib.hid (Ints.of_own (own_ext HXS.out HXQ.out))
              have HTK := Lib.hid (told3_take f xs t ht3)
              have ht33 : (t : Int) < 3 := by omega
              have HXWQ := Lib.hid (HXW.out.trans HXQ.out)
              have hxl := HXL.out
              go_wp2_with (first
                | (at_builtin; refine wpList_appSl rfl _ _ 23 rfl slInts rfl (Ext.alloc wr _) (World.ownsRow_made wr #[] 0 (Nat.le_refl _) (Nat.zero_le _) rfl) rfl (HXI.out.ext (Ext.alloc wr _)) (ints_one _) rfl (by omega) (by omega) ?_; intro vA wA hoA hxA _; rw [hxl] at hoA; simp only [Nat.zero_add, List.nil_append] at hoA)
                | (at_builtin; refine wpList_appNw rfl _ _ 23 rfl slInts rfl hxA.size hoA rfl _ rfl (by intro u hu; simp at hu; subst hu; rfl) rfl (by omega) (by omega) ?_; intro vB wB2 hoB hgB _; have hxB := Ext.own_grown hxA hoA hgB; have HXRB := Lib.hid hxB; have HXB := Lib.hid (HXQ.out.trans hxB); have HXIB := Lib.hid (show Ints wB2 vB (xs ++ [(t : Int)]) from Ints.of_own (by rw [List.map_append]; exact hoB)); clear hxA hoA hgB hoB hxB))
              have hoQ := own_ext HOL.out HXRB.out
              have hxWQ := HXB.out
              have HXO := Lib.hid (HXWQ.out.trans HXRB.out)
              have HXOD := Lib.hid (HXO.out.trans (Ext.drew wB2))
              have HVW := Lib.hid ((HV.out.ext HX2.out).ext HXO.out)
              have HAW := Lib.hid (HAL.out.ext HXO.out)
              have hil2 : i < (vals p Ls inp Ls.length).length := by rw [vals_length]; omega
              have hiv := HVW.out.run_index (P := Tryz.prog) slLayers i hil
              have hia := HAW.out.run_index (P := Tryz.prog) slRows i hil2
              have n1 := HXO.out.cell HM1.out
              have n2 := HVW.out.cell i hil
              have n3 := HAW.out.cell i hil2
              have hsi := HAW.out.row i hil2
              rw [vals_nth _ _ _ (by omega)] at hsi
              have HSI := Lib.hid hsi; have HRI := Lib.hid (HVW.out.row i hil)
              have hle3 : (xs ++ [(t : Int)]).length ≤ 2 * nb := by rw [List.length_append, hxl, List.length_singleton]; omega
              have HZQ := Lib.hid (HZW.out.ext HXB.out)
              clear hsi
              go_region_held3 (fun w' => w'.cell? ⟨w.heap.size, 1, none⟩ = some (.slice ao Ls.length cap) ∧ w'.cell? (elt (.slice ao Ls.length cap) i 1) = some (R i) ∧ w'.cell? (elt va i 1) = some (S i)) (first | exact ⟨hxC.cell ((Ext.drew wB2).cell n1), hxC.cell ((Ext.drew wB2).cell n2), hxC.cell ((Ext.drew wB2).cell n3)⟩ | exact ⟨(Ext.drew wB2).cell n1, (Ext.drew wB2).cell n2, (Ext.drew wB2).cell n3⟩ | go_keep) (first | (go_at_call 75; refine (rpart_any p _ _ _ _ (nthY Ls i) (vrow p Ls inp i) zj (xs ++ [(t : Int)]) nb _ (by omega) hp2 (HRI.out.ext (Ext.drew wB2)) (HSI.out.ext (Ext.drew wB2)) (HZQ.out.ext (Ext.drew wB2)) (HXIB.out.ext (Ext.drew wB2)) (by omega) hzl HWL.out hle3 HGK.out).mono ?_; rw [← HFP.out]; rintro e wC ⟨rfl, hxC⟩))
              have hoC := own_ext hoQ ((Ext.drew wB2).trans hxC)
              have hxWC := hxWQ.trans ((Ext.drew wB2).trans hxC)
              clear hxC hoQ hxWQ n1 n2 n3 hiv hia
              go_wp2_with (at_builtin; refine wpList_appNw rfl _ _ 23 rfl slInts rfl hxWC.size hoC rfl _ rfl (by intro u hu; simp at hu; subst hu; rfl) rfl (by omega) (by omega) ?_; intro vD wD hoD hgD _)
              go_roundw
              case rel => exact ⟨t + 1, by omega, by go_num, Lib.hid (by rw [← List.map_take, HTK.out, List.map_append]; exact hoD), Lib.hid (Ext.own_grown hxWC hoC hgD)⟩
              case measure => simp [intOf]; omega
            · obtain rfl : t = 3 := by omega
              have HOL3 := Lib.hid (show wr.ownsRow W.heap.size 3 1 _ (told3 f xs).length ((told3 f xs).map (Value.int .i64)) from by have := HOL.out; rw [List.take_of_length_le (by simp [told3])] at this; exact this)
              have HIL := Lib.hid (Ints.of_own HOL3.out)
              have HTQ := Lib.hid (HT.out.ext HXQ.out)
              have htq := HTQ.out.own
              have HCQ := Lib.hid (HCM.out.ext HXQ.out)
              have HXSQ := Lib.hid (own_ext HXS.out HXQ.out)
              have hszW : wB.heap.size ≤ wr.heap.size := Nat.le_trans HG.out.size HXQ.out.size
              rw [HTL.out] at htq
              clear HOL
              obtain ⟨al, cl, hshl⟩ := own_shape HOL3.out
              have HLB := Lib.hid (HOL3.out.lt)
              rw [hshl] at HLB HIL
              have hltW : cb < W.heap.size := Nat.lt_of_lt_of_le hlt HG.out.size
              go_wp2_with (at_builtin; refine wpList_appNw rfl _ _ 22 rfl slRows rfl hszW htq rfl _ rfl (by intro u hu; simp at hu; subst hu; rfl) rfl (by omega) (by omega) ?_; intro vE wE hoE hgE hmE)
              have hqt : ∀ q, Value.ownBlock _ = some q → wB.heap.size ≤ q ∧ q < W.heap.size := fun q hq => HT.out.own.lt q hq
              have HTE := Lib.hid (HTQ.out.push HIL.out (fun q hq => ⟨Nat.le_trans HG.out.size (HLB.out q hq).1, (HLB.out q hq).2, fun e => by have h5 := (HLB.out q hq).1; have h6 := (hqt q e.symm).2; omega⟩) (by rw [HTL.out]; exact hoE) hgE hmE)
              have HGE := Lib.hid (grown_low (HG.out.trans (HXQ.out.grownBy _)) hgE (fun q hq => (hqt q hq).1))
              have HCE := Lib.hid (HCQ.out.grown hgE (fun e => by have := (hqt _ e.symm).1; omega) (fun v hv q hq => by
                rw [World.cell?_of_block (a := ⟨cb, 1, none⟩) (HXQ.out.below.block cb hltW)] at hv
                exact HDT.out v hv q hq))
              have HXSE := Lib.hid (own_other HXSQ.out hgE (fun q hq h => (HSEP2.out q h).1 hq))
              have HILE := Lib.hid (HIL.out.grown hgE (fun q hq e => by have h5 := (HLB.out q hq).1; have h6 := (hqt q e.symm).2; omega))
              have hszE := hgE.size
              refine (rstep_any p k 3 _ (told3 f xs) _ cb _ h23 hp2 HKP.out HCE.out HILE.out (by rw [hdd]; simp [told3])).mono ?_
              rintro e wF ⟨rfl, hgF, hcF, hdF⟩
              have HGF := Lib.hid (HGE.out.trans hgF)
              have HTF := Lib.hid (HTE.out.low hgF hlt)
              have HXSF := Lib.hid (own_low HXSE.out hgF hlt)
              have HCF := Lib.hid hcF
              have hszF := hgF.size
              clear hcF hdF
              go_wp2_with fail
              refine (rdraw_any p k _ cb _ h23 hp2 HKP.out HCF.out (by rw [stepP_length]; omega)).mono ?_
              rintro e wH ⟨rfl, hgH, hcH, hdH⟩
              have HGH := Lib.hid (HGF.out.trans hgH)
              have HTH := Lib.hid (HTF.out.low hgH hlt)
              have HXSH := Lib.hid (own_low HXSF.out hgH hlt)
              have HCH := Lib.hid hcH; have HDH := Lib.hid hdH
              have hszH := hgH.size
              have hszw : wB.heap.size ≤ wH.heap.size := by omega
              clear hcH hdH
              go_wp2_with (at_builtin; refine wpList_appNw rfl _ _ 23 rfl slInts rfl hszw HXSH.out rfl _ rfl (by intro u hu; simp at hu; subst hu; rfl) rfl (by omega) (by omega) ?_; intro vI wI hoI hgI hmI)
              have g1 : ∀ q, Value.ownBlock _ = some q → Value.ownBlock vE ≠ some q := fun q hq h => by
                have h7 := (HXS.out.lt q hq).2
                rcases hmE with e | e
                · exact (HSEP2.out q hq).1 (by rw [← e]; exact h)
                · have h5 := e q h
                  have h6 := HXQ.out.size
                  omega
              have g2 : ∀ q, Value.ownBlock _ = some q → ∀ j, j < m + 1 → ((fun i => if i < (dwnT p k f Dj m).length then T i else Value.slice al (told3 f xs).length cl) j).ownBlock ≠ some q := fun q hq j hj h => by
                have h7 := (HXS.out.lt q hq).2
                simp only [HTL.out] at h
                by_cases hjm : j < m
                · rw [if_pos hjm] at h; exact (HSEP2.out q hq).2 j hjm h
                · rw [if_neg hjm] at h
                  have := (HLB.out q h).1
                  omega
              have hne : some cb ≠ Value.ownBlock _ := fun e => by have := (HXSH.out.lt _ e.symm).1; omega
              have HTI := Lib.hid (HTH.out.other hgI (fun q hq => g1 q hq) (fun q hq j hj => g2 q hq j (by rw [List.length_append, HTL.out, List.length_singleton] at hj; exact hj)))
              have HCI := Lib.hid (HCH.out.grown hgI hne (fun v hv q hq e => by have h5 := HDH.out v hv q hq; have h6 := (HXSF.out.lt q e.symm).2; omega))
              have HDI := Lib.hid (show ∀ v, wI.cell? ⟨cb, 1, none⟩ = some v → ∀ q, v.ownBlock = some q → some q ≠ vE.ownBlock from fun v hv q hq e => by
                rw [World.cell?_of_block (a := ⟨cb, 1, none⟩) (hgI.block cb HCH.out.lt hne)] at hv
                have h5 := HDH.out v hv q hq
                have h6 := (HTE.out.own.lt q e.symm).2
                omega)
              have HSI := Lib.hid (show ∀ q, vI.ownBlock = some q → vE.ownBlock ≠ some q ∧ ∀ j, j < m + 1 → ((fun i => if i < (dwnT p k f Dj m).length then T i else Value.slice al (told3 f xs).length cl) j).ownBlock ≠ some q from fun q hq => by
                rcases hmI with e | e
                · rw [e] at hq
                  exact ⟨g1 q hq, g2 q hq⟩
                · have h5 := e q hq
                  refine ⟨fun h => ?_, fun j hj h => ?_⟩
                  · have := (HTE.out.own.lt q h).2; omega
                  · have := (HTE.out.lt j (by rw [List.length_append, HTL.out, List.length_singleton]; exact hj) q h).2.1; omega)
              have HGI := Lib.hid (grown_low HGH.out hgI (fun q hq => (HXSH.out.lt q hq).1))
              have HOI := Lib.hid hoI
              clear g1 g2 hne hoI hgI hmI hgH hgF hgE hmE hoE
              go_roundw
              case rel => exact ⟨m + 1, (fun i => if i < (dwnT p k f Dj m).length then T i else Value.slice al (told3 f xs).length cl), by omega, by go_num, Lib.hid (by rw [HTS.out]; exact HTI.out), Lib.hid (by rw [HSN.out, List.map_append]; exact HOI.out), HGI, Lib.hid (by rw [HSN.out]; exact HCI.out), HDI, HSI⟩
              case measure => simp [intOf]; omega
        · obtain rfl : m = 2 * nb := by omega
          have hdl := dwn_len p k f Dj (2 * nb)
          have hdd := dwn_dig p k f HLDJ.out (2 * nb)
          have HTL := Lib.hid (dwnT_len p k f Dj (2 * nb))
          obtain ⟨st, hst⟩ : ∃ st, dwn p k f Dj (2 * nb) = st := ⟨_, rfl⟩
          have HST := Lib.hid hst
          rw [hst] at hdl hdd HXS HCM
          clear hst
          obtain ⟨X, DD⟩ := st
          dsimp only at hdl hdd HXS HCM HST
          have hxi := Ints.of_own HXS.out
          have htk := hxi.run_take (P := Tryz.prog) slInts nb (by omega)
          have hdr := hxi.run_drop (P := Tryz.prog) slInts nb (by omega)
          have HXT := Lib.hid (hxi.take nb (by omega)); have HXD := Lib.hid (hxi.drop nb (by omega))
          have HLT := Lib.hid (show (X.take nb).length = nb from by rw [List.length_take]; omega)
          have HLD2 := Lib.hid (show (X.drop nb).length = nb from by rw [List.length_drop]; omega)
          have HBT := Lib.hid (HXS.out.lt)
          clear hxi
          obtain ⟨xl, hxl⟩ : ∃ xl, X.take nb = xl := ⟨_, rfl⟩
          obtain ⟨yl, hyl⟩ : ∃ yl, X.drop nb = yl := ⟨_, rfl⟩
          rw [hxl] at HXT HLT
          rw [hyl] at HXD HLD2
          have HEX := Lib.hid hxl; have HEY := Lib.hid hyl
          clear hxl hyl
          have HBX := Lib.hid (upTo_block _ nb HBT.out)
          have HBY := Lib.hid (fromV_block _ nb HBT.out)
          have HXW := Lib.hid (grown_old HXR.out HG.out hcb2)
          have hil2 : i < (vals p Ls inp Ls.length).length := by rw [vals_length]; omega
          have hia := HAL.out.run_index (P := Tryz.prog) slRows i hil2
          have n3 := (HAL.out.ext HXW.out).cell i hil2
          have hsi := (HAL.out.ext HXW.out).row i hil2
          rw [vals_nth _ _ _ (by omega)] at hsi
          have HSI := Lib.hid hsi
          clear hsi
          go_wp2_with fail
          go_region_held3 (fun w' => w'.cell? (elt va i 1) = some (S i)) (first | exact hxC.cell ((Ext.drew wr).cell n3) | exact (Ext.drew wr).cell n3 | go_keep) (first | (go_at_call 78; refine (rline_any (p := p) (by omega) hp2 (HSI.out.ext (Ext.drew wr)) (HXT.out.ext (Ext.drew wr)) (HXD.out.ext (Ext.drew wr)) (by rw [HLT.out, HLD2.out]; exact Nat.le_refl _) (by rw [HLT.out]; omega)).mono ?_; rintro e wC ⟨vC, rfl, hxC, hiC, hbC⟩))
          have HLN2 := Lib.hid (lineN_len p (vrow p Ls inp i) xl yl (xl.length + 1))
          obtain ⟨LL, hLL⟩ : ∃ LL, lineN p (vrow p Ls inp i) xl yl (xl.length + 1) = LL := ⟨_, rfl⟩
          rw [hLL] at hiC HLN2
          have HLL := Lib.hid hLL
          have hxC2 := (Ext.drew wr).trans hxC
          have HGC := Lib.hid (HG.out.trans (hxC2.grownBy _))
          have HCC := Lib.hid (HCM.out.ext hxC2)
          have HTC := Lib.hid (HT.out.ext hxC2)
          have HXTC := Lib.hid (HXT.out.ext hxC2); have HXDC := Lib.hid (HXD.out.ext hxC2)
          have HIC := Lib.hid hiC
          have HBC := Lib.hid (show InB wB wC vC from fun q hq => ⟨by have h1 := (hbC q hq).1; have h2 := HG.out.size; have h3 := (Ext.drew wr).size; omega, (hbC q hq).2⟩)
          clear hLL hiC hbC hxC hxC2 hia HG HCM HT HXT HXD HSEP2 HDT HSI HXW HXS
          have HLC := Lib.hid HLT.out
          go_wp2_with fail
          refine (rstep_any p k 3 _ LL DD cb _ h23 hp2 HKP.out HCC.out HIC.out (by rw [hdd, HLN2.out, HLT.out]; omega)).mono ?_
          rintro e wF ⟨rfl, hgF, hcF, -⟩
          have HGF := Lib.hid (HGC.out.trans hgF)
          have HTF := Lib.hid (HTC.out.low hgF hlt)
          have hcbx : ∀ {v : Value} {C : Nat}, (∀ q, v.ownBlock = some q → wB.heap.size ≤ q ∧ q < C) → ∀ q, v.ownBlock = some q → some q ≠ some cb := fun h q hq e => by have h1 := (h q hq).1; have h2 := Option.some.inj e; omega
          have HXF := Lib.hid (HXTC.out.grown hgF (hcbx HBX.out)); have HYF := Lib.hid (HXDC.out.grown hgF (hcbx HBY.out))
          have HIF := Lib.hid (HIC.out.grown hgF (hcbx HBC.out))
          have HBF := Lib.hid (show InB wB wF vC from fun q hq => ⟨(HBC.out q hq).1, Nat.lt_of_lt_of_le (HBC.out q hq).2 hgF.size⟩)
          have HCF := Lib.hid hcF
          clear hcF hgF HGC HTC HXTC HXDC HIC HCC
          go_wp2_with fail
          refine (rdraw_any p k _ cb _ h23 hp2 HKP.out HCF.out (by rw [stepP_length]; omega)).mono ?_
          rintro e wH ⟨rfl, hgH, hcH, hdH⟩
          have HGH := Lib.hid (HGF.out.trans hgH)
          have HTH := Lib.hid (HTF.out.low hgH hlt)
          have HXH := Lib.hid (HXF.out.grown hgH (hcbx HBX.out)); have HYH := Lib.hid (HYF.out.grown hgH (hcbx HBY.out))
          have HIH := Lib.hid (HIF.out.grown hgH (hcbx HBC.out))
          have HBH := Lib.hid (show InB wB wH vC from fun q hq => ⟨(HBF.out q hq).1, Nat.lt_of_lt_of_le (HBF.out q hq).2 hgH.size⟩)
          have HCH := Lib.hid hcH; have HDH := Lib.hid (hdH.mono HGF.out.size)
          clear hcH hgH hdH HGF HTF HXF HYF HIF HCF HBF HBC
          have j5 := (grown_old HXR.out HGH.out hcb2).cell HM1.out
          go_wp2_with fail
          go_region_held3 (fun w' => w'.cell? ⟨w.heap.size, 1, none⟩ = some (.slice ao Ls.length cap)) (first | exact hxJ.cell ((Ext.drew wH).cell j5) | exact (Ext.drew wH).cell j5 | go_keep) (first | (go_at_call 79; refine (ronB_any p _ _ _ xl yl _ (by omega) hp2 (HXH.out.ext (Ext.drew wH)) (HYH.out.ext (Ext.drew wH)) (by rw [HLT.out]; omega) (by rw [HLT.out, HLD2.out]; exact Nat.le_refl _)).mono ?_; rintro e wJ ⟨vJ, rfl, hxJ, hiJ, hbJ⟩))
          have hxJ2 := (Ext.drew wH).trans hxJ
          have HG6 := Lib.hid (HGH.out.trans (hxJ2.grownBy _))
          have hD1 : stepP p k 4 (stepP p k 3 DD LL) [] = layD p k wd Ls inp i zj Dj := by unfold layD layN layS; rw [HNB.out, Int.toNat_natCast, HFF.out, HST.out, ← HLL.out, HLT.out, ← HEX.out, ← HEY.out]
          have hL1 : LL = layN p k wd Ls inp i zj Dj := by unfold layN layS; rw [HNB.out, Int.toNat_natCast, HFF.out, HST.out, ← HLL.out, HLT.out, ← HEX.out, ← HEY.out]
          have hR1 : dwnT p k f Dj (2 * nb) = layR p k wd Ls inp i zj Dj := by unfold layR; rw [HNB.out, Int.toNat_natCast, HFF.out]
          have hZ1 : onL p xl yl (nth (stepP p k 4 (stepP p k 3 DD LL) []) 0) = layZ p k wd Ls inp i zj Dj := by rw [hD1]; unfold layZ layS; rw [HNB.out, Int.toNat_natCast, HFF.out, HST.out, ← HEX.out, ← HEY.out]
          have hTJ := HTH.out.ext hxJ2
          have HC6 := Lib.hid (show ChD wJ cb p (layD p k wd Ls inp i zj Dj) from by rw [← hD1]; exact HCH.out.ext hxJ2)
          have HR6 := Lib.hid (show RwsAt wJ _ (layR p k wd Ls inp i zj Dj) T from by rw [← hR1]; exact hTJ.rws)
          have HL6 := Lib.hid (show Ints wJ vC (layN p k wd Ls inp i zj Dj) from by rw [← hL1]; exact HIH.out.ext hxJ2)
          have HN6 := Lib.hid (show Ints wJ vJ (layZ p k wd Ls inp i zj Dj) from by rw [← hZ1]; exact hiJ)
          have HB1 := Lib.hid (show InB wB wJ _ from fun q hq => hTJ.own.lt q hq)
          have HB2 := Lib.hid (show ∀ t, t < (layR p k wd Ls inp i zj Dj).length → InB wB wJ (T t) from fun t ht q hq => by rw [← hR1] at ht; exact ⟨(hTJ.lt t ht q hq).1, (hTJ.lt t ht q hq).2.1⟩)
          have HB3 := Lib.hid (show InB wB wJ vC from fun q hq => ⟨(HBH.out q hq).1, Nat.lt_of_lt_of_le (HBH.out q hq).2 hxJ2.size⟩)
          have HB4 := Lib.hid (show InB wB wJ vJ from fun q hq => ⟨by have h1 := (hbJ q hq).1; have h2 := HGH.out.size; have h3 := (Ext.drew wH).size; omega, (hbJ q hq).2⟩)
          have HD6 := Lib.hid (HDH.out.ext HCH.out.lt hxJ2)
          clear hTJ hD1 hL1 hR1 hZ1 hxJ hxJ2 hiJ hbJ hdd hcbx HGH HTH HXH HYH HIH HBH HCH HDH HST HTL HLL HEX HEY HLT HLD2 HBX HBY HBT HLN2 HLC
          obtain ⟨av, nv, cv, hvt⟩ : ∃ av nv cv, _ = Value.slice av nv cv := by obtain ⟨x, y, h⟩ := HR6.out.shape; exact ⟨x, _, y, h⟩
          obtain ⟨an, nn, cn, hvn⟩ : ∃ an nn cn, vC = .slice an nn cn := by obtain ⟨x, y, h⟩ := HL6.out.shape; exact ⟨x, _, y, h⟩
          subst hvt; subst hvn
          have hsw : w5.heap.size ≤ wB.heap.size := HSZ.out.1
          have hs6 := HG6.out.size
          have hs5J : w5.heap.size ≤ wJ.heap.size := by omega
          have hr1 : ∀ q, vr.ownBlock = some q → w5.heap.size ≤ q ∧ q < wB.heap.size := HVR.out.lt
          have hr2 : ∀ q, vl.ownBlock = some q → w5.heap.size ≤ q ∧ q < wB.heap.size := HVL.out.lt
          have HO6 := Lib.hid (HOR.out.grown HG6.out (fun e => by have := Option.some.inj e; omega))
          have HV6 := Lib.hid (own_low HVR.out HG6.out (by omega))
          have HVL6 := Lib.hid (own_low HVL.out HG6.out (by omega))
          have d0 : wJ.cell? ⟨ob, 0, none⟩ = some vr := HO6.out.cell 0
          go_upto_region 30 with (at_builtin; refine wpList_appNw rfl _ _ 51 rfl slCub rfl hs5J HV6.out rfl _ rfl (by intro u hu; simp at hu; subst hu; rfl) rfl (by omega) (by omega) ?_; intro vE wE hoE hgE hmE; have hOE := HO6.out.grown hgE (fun e => by have := (hr1 _ e.symm).1; omega); have z0 := hOE.free 0; have y0 : wE.cell? ⟨ob, 0, none⟩ = some vr := hOE.cell 0; have HOE := Lib.hid hOE; clear hOE; obtain ⟨a5, c5, rfl⟩ := own_shape hoE)
          obtain ⟨vr', hvr⟩ : ∃ vr', vr' = Value.slice a5 (j + 1) c5 := ⟨_, rfl⟩
          rw [← hvr] at hoE hmE ⊢
          have hsE := hgE.size
          have hb1 : ∀ q, vr'.ownBlock = some q → w5.heap.size ≤ q ∧ q < wE.heap.size := fun q hq => hoE.lt q hq
          have hb1' : ∀ q, some ob = some q → vr'.ownBlock ≠ some q := fun q e h => by have e1 := Option.some.inj e; have := (hb1 q h).1; omega
          have hVLE := own_other HVL6.out hgE (fun q hq h => HSEP.out q hq h)
          have hst : wE.grownBy (wE.setCell ⟨ob, 0, none⟩ vr') (some ob) := setCell_grown _ _ _ _
          have hb2' : ∀ q, some ob = some q → vl.ownBlock ≠ some q := fun q e h => by have e1 := Option.some.inj e; have := (hr2 q h).1; omega
          have hVLF := own_other hVLE hst hb2'
          have hoF := own_other hoE hst hb1'
          have HOF := Lib.hid (HOE.out.set 0 vr')
          have HSPF := Lib.hid (ownsRow_ne hVLF hoF (by decide))
          have HRC1 := Lib.hid (show Rch [some ob, vr.ownBlock, vl.ownBlock] wJ (wE.setCell ⟨ob, 0, none⟩ vr') from Rch.step (Rch.step .refl hgE (by simp)) hst (by simp))
          have HM1F := Lib.hid hmE
          generalize wE.setCell ⟨ob, 0, none⟩ vr' = wF at *
          have hsF := HRC1.out.size
          have hs5F : w5.heap.size ≤ wF.heap.size := by omega
          have d1 : wF.cell? ⟨ob, 1, none⟩ = some vl := HOF.out.cell 1
          clear hgE hoE hmE hVLE hst HOE hb1' z0 d0 hvr y0
          have HoF := Lib.hid hoF; have HVLF := Lib.hid hVLF
          clear hoF hVLF
          go_wp2_with (at_builtin; refine wpList_appNw rfl _ _ 22 rfl slRows rfl hs5F HVLF.out rfl _ rfl (by intro u hu; simp at hu; subst hu; rfl) rfl (by omega) (by omega) ?_; intro vG wG hoG hgG hmG; have hOG := HOF.out.grown hgG (fun e => by have := (hr2 _ e.symm).1; omega); have z1 := hOG.free 1; have y1 : wG.cell? ⟨ob, 1, none⟩ = some vl := hOG.cell 1; have HOG := Lib.hid hOG; clear hOG; obtain ⟨a6, c6, rfl⟩ := own_shape hoG)
          obtain ⟨vl', hvl⟩ : ∃ vl', vl' = Value.slice a6 (j + 1) c6 := ⟨_, rfl⟩
          rw [← hvl] at hoG hmG ⊢
          have hb3 : ∀ q, vl'.ownBlock = some q → w5.heap.size ≤ q := fun q hq => (hoG.lt q hq).1
          have hb3' : ∀ q, some ob = some q → vl'.ownBlock ≠ some q := fun q e h => by have e1 := Option.some.inj e; have := hb3 q h; omega
          have hb1' : ∀ q, some ob = some q → vr'.ownBlock ≠ some q := fun q e h => by have e1 := Option.some.inj e; have := (hb1 q h).1; omega
          have hst : wG.grownBy (wG.setCell ⟨ob, 1, none⟩ vl') (some ob) := setCell_grown _ _ _ _
          have hVG := own_other HoF.out hgG (fun q hq h => HSPF.out q hq h)
          have HVR2 := Lib.hid (own_other hVG hst hb1')
          have HVL2 := Lib.hid (own_other hoG hst hb3')
          have HO2 := Lib.hid (show BlkOf (wG.setCell ⟨ob, 1, none⟩ vl') ob [vr', vl'] 53 from HOG.out.set 1 vl')
          have HSEP2 := Lib.hid (ownsRow_ne HVR2.out HVL2.out (by decide))
          have HRC := Lib.hid (show Rch [some ob, vr.ownBlock, vl.ownBlock] wJ (wG.setCell ⟨ob, 1, none⟩ vl') from Rch.step (Rch.step HRC1.out hgG (by simp)) hst (by simp))
          have HM2F := Lib.hid (show vl'.ownBlock = vl.ownBlock ∨ ∀ q, vl'.ownBlock = some q → wJ.heap.size ≤ q from hmG.imp id fun h q hq => Nat.le_trans hsF (h q hq))
          have HM1G := Lib.hid (show vr'.ownBlock = vr.ownBlock ∨ ∀ q, vr'.ownBlock = some q → wJ.heap.size ≤ q from HM1F.out)
          generalize wG.setCell ⟨ob, 1, none⟩ vl' = wZ at *
          clear hoG hmG hvl hst hVG hgG z1 y1 HOG HVLF HoF HSPF HM1F
          have hs2 := HS2.out
          have hwr2 : w2.heap.size ≤ wB.heap.size := HXR.out.size
          have hcbw : cb < wB.heap.size := hlt
          have hsZ : wJ.heap.size ≤ wZ.heap.size := HRC.out.size
          have hobs : ob < wB.heap.size := by omega
          have hM2 : ∀ q, q < wB.heap.size → (MkM cb ob (w.heap.size + 1) vr vl q ∨ MkM cb ob (w.heap.size + 1) vr' vl' q) → MkM cb ob (w.heap.size + 1) vr vl q := fun q hq h => by
            rcases h with h | h | h | h | h
            · exact h
            · exact .inl h
            · exact .inr (.inl h)
            · rcases HM1G.out with e | e
              · exact .inr (.inr (.inl (by rw [← e]; exact h)))
              · have := e q h; omega
            · rcases HM2F.out with e | e
              · exact .inr (.inr (.inr (by rw [← e]; exact h)))
              · have := e q h; omega
          have hnew : ∀ q, wB.heap.size ≤ q → q < wJ.heap.size → ¬ (MkM cb ob (w.heap.size + 1) vr vl q ∨ MkM cb ob (w.heap.size + 1) vr' vl' q) := fun q h1 h2 h => by
            rcases h with (h | h | h | h) | (h | h | h | h)
            · omega
            · omega
            · have := (hr1 q h).2; omega
            · have := (hr2 q h).2; omega
            · omega
            · omega
            · rcases HM1G.out with e | e
              · rw [e] at h; have := (hr1 q h).2; omega
              · have := e q h; omega
            · rcases HM2F.out with e | e
              · rw [e] at h; have := (hr2 q h).2; omega
              · have := e q h; omega
          have hbM : ∀ b ∈ [some ob, vr.ownBlock, vl.ownBlock], ∀ q, b = some q → (MkM cb ob (w.heap.size + 1) vr vl q ∨ MkM cb ob (w.heap.size + 1) vr' vl' q) := fun b hb q hq => by
            simp only [List.mem_cons, List.not_mem_nil, or_false] at hb
            rcases hb with rfl | rfl | rfl
            · exact .inl (.inr (.inl (.inl (Option.some.inj hq).symm)))
            · exact .inl (.inr (.inr (.inl hq)))
            · exact .inl (.inr (.inr (.inr hq)))
          have hbB : ∀ b ∈ [some ob, vr.ownBlock, vl.ownBlock], ∀ q, b = some q → ob ≤ q ∧ q < wB.heap.size := fun b hb q hq => by
            simp only [List.mem_cons, List.not_mem_nil, or_false] at hb
            rcases hb with rfl | rfl | rfl
            · have := Option.some.inj hq; omega
            · have := hr1 q hq; omega
            · have := hr2 q hq; omega
          have toW : ∀ v L, RwsM wJ (fun q => MkM cb ob (w.heap.size + 1) vr vl q ∨ MkM cb ob (w.heap.size + 1) vr' vl' q) v L → RwsM wZ (MkM cb ob (w.heap.size + 1) vr' vl') v L := fun v L h =>
            (HRC.out.keep (φ := fun W => RwsM W (fun q => MkM cb ob (w.heap.size + 1) vr vl q ∨ MkM cb ob (w.heap.size + 1) vr' vl' q) v L) (fun A B b hb hA hg => hA.next hg (hbM b hb) (fun _ _ h => h)) h).next (World.grownBy.refl wZ none) (fun q e => by cases e) (fun q _ h => .inr h)
          have toI : ∀ v l, IntsM wJ (fun q => MkM cb ob (w.heap.size + 1) vr vl q ∨ MkM cb ob (w.heap.size + 1) vr' vl' q) v l → IntsM wZ (MkM cb ob (w.heap.size + 1) vr' vl') v l := fun v l h =>
            (HRC.out.keep (φ := fun W => IntsM W (fun q => MkM cb ob (w.heap.size + 1) vr vl q ∨ MkM cb ob (w.heap.size + 1) vr' vl' q) v l) (fun A B b hb hA hg => hA.next hg (hbM b hb) (fun _ _ h => h)) h).next (World.grownBy.refl wZ none) (fun q e => by cases e) (fun q _ h => .inr h)
          have hcbM : ∀ q, some cb = some q → MkM cb ob (w.heap.size + 1) vr vl q := fun q e => .inl (Option.some.inj e).symm
          have HQ2 := Lib.hid (show ∀ t, t < j + 1 → RwsM wZ (MkM cb ob (w.heap.size + 1) vr' vl') ((fun t => if t < j then Q t else Value.slice av nv cv) t) (nthC (mkR p k wd Ls inp z D (j + 1)) t) from fun t ht => by
            rw [HRS.out, nthC_snoc _ _ _ (by rw [HRN.out]; exact ht), HRN.out]
            by_cases h : t < j
            · simp only [if_pos h]
              exact toW _ _ ((HQR.out t h).next HG6.out hcbM hM2)
            · simp only [if_neg h]
              exact toW _ _ ⟨T, HR6.out, fun q hq => ⟨(HB1.out q hq).2, hnew q (HB1.out q hq).1 (HB1.out q hq).2⟩, fun t ht q hq => ⟨(HB2.out t ht q hq).2, hnew q (HB2.out t ht q hq).1 (HB2.out t ht q hq).2⟩⟩)
          have HL2 := Lib.hid (show ∀ t, t < j + 1 → IntsM wZ (MkM cb ob (w.heap.size + 1) vr' vl') ((fun t => if t < j then Rl t else Value.slice an nn cn) t) (nthL (mkL p k wd Ls inp z D (j + 1)) t) from fun t ht => by
            rw [HLS.out, nthL_snoc _ _ _ (by rw [HLN.out]; exact ht), HLN.out]
            by_cases h : t < j
            · simp only [if_pos h]
              exact toI _ _ ((HRL.out t h).next HG6.out hcbM hM2)
            · simp only [if_neg h]
              exact toI _ _ ⟨HL6.out, fun q hq => ⟨(HB3.out q hq).2, hnew q (HB3.out q hq).1 (HB3.out q hq).2⟩⟩)
          have HZ2 := Lib.hid (toI _ _ ⟨HN6.out, fun q hq => ⟨(HB4.out q hq).2, hnew q (HB4.out q hq).1 (HB4.out q hq).2⟩⟩)
          have hcd := HRC.out.keep (φ := fun A => ChD A cb p (layD p k wd Ls inp i zj Dj) ∧ DigNew wB A cb) (fun A B b hb hA hg => by
            have hne : some cb ≠ b := fun e => by have := (hbB b hb cb e.symm).1; omega
            exact ⟨hA.1.grown hg hne (fun v hv q hq e => by have h1 := hA.2 v hv q hq; have h2 := (hbB b hb q e.symm).2; omega), hA.2.grown hA.1.lt hg hne⟩) ⟨HC6.out, HD6.out⟩
          have HC2 := Lib.hid hcd.1
          have HX6 := Lib.hid (grown_old HXR.out HG6.out hcb2)
          have HX2' := Lib.hid (HRC.out.keep (φ := fun A => Ext w2 A) (fun A B b hb hA hg => Below.grown hA.below hg hA.size (fun q e => by have := (hbB b hb q e).1; omega)) HX6.out)
          have hrw := HRC.out.keep (φ := fun A => BlkOf A (w.heap.size + 1) [.slice none 0 0, .slice none 0 0] 53) (fun A B b hb hA hg => hA.grown hg (fun e => by have := (hbB b hb _ e.symm).1; omega)) (HSZ.out.2.grown HG6.out (fun e => by have := Option.some.inj e; omega))
          have HSZ2 := Lib.hid (show w5.heap.size ≤ wZ.heap.size ∧ BlkOf wZ (w.heap.size + 1) [.slice none 0 0, .slice none 0 0] 53 from ⟨by omega, hrw⟩)
          clear hM2 hnew hbM toW toI hcbM hcd hrw hb1 hb1' hb3 hb3' hbB
          go_roundw
          case rel => exact ⟨j + 1, vr', vl', (fun t => if t < j then Q t else Value.slice av nv cv), (fun t => if t < j then Rl t else Value.slice an nn cn), by omega, by congr 1; omega, HX2', Lib.hid (by rw [HSS.out]; exact HC2.out), Lib.hid (by rw [HSS.out]; exact HZ2.out), HO2, Lib.hid (by rw [range_snocQ]; exact HVR2.out), Lib.hid (by rw [range_snocQ]; exact HVL2.out), HQ2, HL2, HSEP2, HSZ2⟩
          case measure => simp [intOf] <;> omega
    · obtain rfl : j = Ls.length := by omega
      have e13 : (Ls.length : Int) - 1 - (Ls.length : Int) = -1 := by omega
      rw [e13]
      obtain ⟨ar, cr, hvr⟩ := own_shape HVR.out
      obtain ⟨al, cl, hvl⟩ := own_shape HVL.out
      have HSV := Lib.hid (Sl.of_own HVR.out (by omega)); have HSL := Lib.hid (Sl.of_own HVL.out (by omega))
      have hs2 := HS2.out
      have n1 : ¬ ob = w.heap.size + 1 := by omega
      have n2 : ¬ w.heap.size + 1 = ob := by omega
      have g0 : wr.cell? ⟨ob, 0, none⟩ = some vr := HOR.out.cell 0
      have g1 : wr.cell? ⟨ob, 1, none⟩ = some vl := HOR.out.cell 1
      have f0 := HSZ.out.2.free 0; have f1 := HSZ.out.2.free 1
      have y0 : wr.cell? ⟨w.heap.size + 1, 0, none⟩ = some (.slice none 0 0) := HSZ.out.2.cell 0
      have y1 : wr.cell? ⟨w.heap.size + 1, 1, none⟩ = some (.slice none 0 0) := HSZ.out.2.cell 1
      rw [hvr] at g0
      rw [hvl] at g1
      go_wp2_with fail
      have hr1 : ∀ q, vr.ownBlock = some q → w5.heap.size ≤ q ∧ q < wr.heap.size := HVR.out.lt
      have hr2 : ∀ q, vl.ownBlock = some q → w5.heap.size ≤ q ∧ q < wr.heap.size := HVL.out.lt
      have hgr : wr.grownBy ((wr.setCell ⟨w.heap.size + 1, 0, none⟩ (.slice ar Ls.length cr)).setCell ⟨w.heap.size + 1, 1, none⟩ (.slice al Ls.length cl)) (some (w.heap.size + 1)) := (setCell_grown _ _ _ _).trans (setCell_grown _ _ _ _)
      have hxa : Ext w wr := HX2.out.trans HXR.out
      have hxf : Ext w ((wr.setCell ⟨w.heap.size + 1, 0, none⟩ (.slice ar Ls.length cr)).setCell ⟨w.heap.size + 1, 1, none⟩ (.slice al Ls.length cl)) := Below.grown hxa.below hgr hxa.size (fun q e => by have := Option.some.inj e; omega)
      have HCV2 := Lib.hid (HSV.out.grown hgr (fun q h e => by have := (hr1 q h).1; have := Option.some.inj e; omega))
      have HCL2 := Lib.hid (HSL.out.grown hgr (fun q h e => by have := (hr2 q h).1; have := Option.some.inj e; omega))
      rw [hvr] at HCV2
      rw [hvl] at HCL2
      have HQF := Lib.hid (fun t (ht : t < Ls.length) => ((HQR.out t ht).next hgr (fun q e => by cases e; exact .inr (.inl (.inr rfl))) (fun _ _ h => h)).rws)
      have HLF := Lib.hid (fun t (ht : t < Ls.length) => ((HRL.out t ht).next hgr (fun q e => by cases e; exact .inr (.inl (.inr rfl))) (fun _ _ h => h)).1)
      refine bodyPost_ret (v := .agg #[.slice ar Ls.length cr, .slice al Ls.length cl]) (by simp [results, Tryz.results27, go_sem, y0, y1]) rfl (.mk _ rfl hxf ⟨_, _, rfl, ⟨Q, by rw [mkR_len]; exact HCV2.out, fun t ht => HQF.out t (by rw [mkR_len] at ht; exact ht)⟩, ⟨Rl, ⟨by rw [mkL_len]; exact HCL2.out, fun t ht => HLF.out t (by rw [mkL_len] at ht; exact ht)⟩⟩⟩)
end
end Go.Proofs.YtnhbabiccfdhmaaGreatDoor
