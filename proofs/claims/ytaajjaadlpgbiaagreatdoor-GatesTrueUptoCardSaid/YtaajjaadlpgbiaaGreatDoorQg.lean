/- Whether a circuit is shown, the program's side: contract. -/
import Derived.Test.YtaajjaadlpgbiaaGreatDoorQf
import Derived.Test.YtaajjaadlpgbiaaGreatDoorZx17
namespace Go.Proofs.YtaajjaadlpgbiaaGreatDoor
open Go.RowKit Go.Att
section
variable {w0 w : World} {cb kb bs bf : Nat} {p g : Int} {k : Nat} {fs : List Int} {wd : Int} {lv vz vt vl : Value} {Ls : List (List Tri)} {R RT : Nat → Value} {z D ln : List Int} {T : List (List Int)}
theorem ckdown_yes (hf : Fld w0 (.pointer (some ⟨bf, 0, none⟩)) p g fs) (hs : Spg w0 (.pointer (some ⟨bs, 0, none⟩)) p k) (hL : LysAt w0 lv Ls R) (hE : cirErr wd Ls = 0) (hT : RwsAt w0 vt T RT) (hln : Ints w0 vl ln) (h23 : 23 ≤ p)
    (hx : Ext w0 w) (hcb : w0.heap.size ≤ cb) (hk : Wlk w kb (.pointer (some ⟨bf, 0, none⟩)) wd lv (.pointer (some ⟨cb, 0, none⟩))) (hkc : kb ≠ cb) (hc : ChP w cb (.pointer (some ⟨bs, 0, none⟩)) D) (hD : D.length = 4) (i : Nat) (hi : i < Ls.length) (n : Nat) (hn : beneath wd Ls i = n)
    (hz : Ints w vz z) (lz : z.length ≤ 30) (hzb : ∀ q, vz.ownBlock = some q → some q ≠ some cb) (c : Int) (hB : lyB p k (nthY Ls i) n z c D T ln = true) :
    Calls Tryz.prog 49 #[.pointer (some ⟨kb, 0, none⟩), .int .i64 i, vz, .int .i64 c, vt, vl] w fun e w' => ∃ vn, e = .returned (.tuple #[vn, .int .i64 (lyC p k n c D T ln), .bool true]) ∧ w.grownBy w' (some cb) ∧ ChP w' cb (.pointer (some ⟨bs, 0, none⟩)) (lyD p k n c D T ln) ∧ Ints w' vn (lyZ p k n c D T ln) ∧ InB w w' vn := by
  refine (ckdown_any hf hs hL hE hT hln h23 hx hcb hk hkc hc hD i hi n hn hz lz hzb c).mono ?_
  rintro e w' ⟨h1, ⟨h2, -⟩ | ⟨-, vn, h3, h4, h5, h6⟩⟩
  · rw [hB] at h2; cases h2
  · exact ⟨vn, h3, h1, h4, h5, h6⟩
theorem ckdown_no (hf : Fld w0 (.pointer (some ⟨bf, 0, none⟩)) p g fs) (hs : Spg w0 (.pointer (some ⟨bs, 0, none⟩)) p k) (hL : LysAt w0 lv Ls R) (hE : cirErr wd Ls = 0) (hT : RwsAt w0 vt T RT) (hln : Ints w0 vl ln) (h23 : 23 ≤ p)
    (hx : Ext w0 w) (hcb : w0.heap.size ≤ cb) (hk : Wlk w kb (.pointer (some ⟨bf, 0, none⟩)) wd lv (.pointer (some ⟨cb, 0, none⟩))) (hkc : kb ≠ cb) (hc : ChP w cb (.pointer (some ⟨bs, 0, none⟩)) D) (hD : D.length = 4) (i : Nat) (hi : i < Ls.length) (n : Nat) (hn : beneath wd Ls i = n)
    (hz : Ints w vz z) (lz : z.length ≤ 30) (hzb : ∀ q, vz.ownBlock = some q → some q ≠ some cb) (c : Int) (hB : lyB p k (nthY Ls i) n z c D T ln = false) :
    Calls Tryz.prog 49 #[.pointer (some ⟨kb, 0, none⟩), .int .i64 i, vz, .int .i64 c, vt, vl] w fun e w' => e = .returned (.tuple #[.slice none 0 0, .int .i64 0, .bool false]) ∧ w.grownBy w' (some cb) := by
  refine (ckdown_any hf hs hL hE hT hln h23 hx hcb hk hkc hc hD i hi n hn hz lz hzb c).mono ?_
  rintro e w' ⟨h1, ⟨-, h2⟩ | ⟨h3, -⟩⟩
  · exact ⟨h2, h1⟩
  · rw [hB] at h3; cases h3
end
section
variable {w : World} {bs bf : Nat} {p g : Int} {k : Nat} {fs : List Int} {rt : Int} {wd : Int} {lv vo vu vl : Value} {Ls : List (List Tri)} {R : Nat → Value} {outs : List Int} {U : List (List (List Int))} {V : List (List Int)}
set_option maxRecDepth 100000 in
set_option maxHeartbeats 8000000 in
theorem gcheck_any (hsp : SpB w bs (.pointer (some ⟨bf, 0, none⟩)) k rt (fun r j => finv p ((r : Int) + j + 8))) (hf : Fld w (.pointer (some ⟨bf, 0, none⟩)) p g fs) (hk : (k : Int) ≤ 9223372036854775807) (h23 : 23 ≤ p) (hv : LysAt w lv Ls R) (ho : Ints w vo outs) (hu : Cub w vu U) (hw : Rws w vl V) :
    Calls Tryz.prog 19 #[.pointer (some ⟨bs, 0, none⟩), .agg #[.int .i64 wd, lv], vo, .agg #[vu, vl]] w (Gives w fun u w' => CkGot (ckAll p k wd Ls outs U V) (ckEnd p k wd Ls outs U V).1 (ckEnd p k wd Ls outs U V).2.1 u w') := by
  obtain ⟨QU, hu⟩ := hu.at'
  obtain ⟨RV, hw⟩ := hw
  have HSP := Lib.hid hsp; have HF := Lib.hid hf; have HV := Lib.hid hv; have HO := Lib.hid ho; have HU := Lib.hid hu; have HWW := Lib.hid hw; have HK := Lib.hid hk
  obtain ⟨ao, cap, rfl⟩ := hv.shape
  obtain ⟨al, cl, rfl⟩ := hw.shape
  obtain ⟨au, cu, hus⟩ : ∃ au cu, vu = .slice au U.length cu := by obtain ⟨a, c, h, _⟩ := hu.sl; exact ⟨a, c, h⟩
  subst hus
  have hll := hv.run_len (P := Tryz.prog) slLayers
  have hlo := ho.run_len (P := Tryz.prog) slInts
  have hlv := hw.run_len (P := Tryz.prog) slRows
  have hlu := Sl.run_len (P := Tryz.prog) hu.sl slCubB
  have hlen := hv.len
  clear hsp hf hv ho hu hw hk
  have HX0 := Lib.hid ((Ext.alloc w (Obj.cells #[.int .i64 wd, .slice ao Ls.length cap] 48)).trans (Ext.alloc _ (Obj.cells #[.slice au U.length cu, .slice al V.length cl] 51)))
  have k0 := (Ext.alloc (w.alloc (Obj.cells #[.int .i64 wd, .slice ao Ls.length cap] 48)) (Obj.cells #[.slice au U.length cu, .slice al V.length cl] 51)).cell (cell_new w #[.int .i64 wd, .slice ao Ls.length cap] 48 0)
  have k1 := (Ext.alloc (w.alloc (Obj.cells #[.int .i64 wd, .slice ao Ls.length cap] 48)) (Obj.cells #[.slice au U.length cu, .slice al V.length cl] 51)).cell (cell_new w #[.int .i64 wd, .slice ao Ls.length cap] 48 1)
  have m0 := cell_new (w.alloc (Obj.cells #[.int .i64 wd, .slice ao Ls.length cap] 48)) #[.slice au U.length cu, .slice al V.length cl] 51 0
  have m1 := cell_new (w.alloc (Obj.cells #[.int .i64 wd, .slice ao Ls.length cap] 48)) #[.slice au U.length cu, .slice al V.length cl] 51 1
  rw [World.size_alloc] at m0 m1
  have HS1 := Lib.hid (show ((w.alloc (Obj.cells #[.int .i64 wd, .slice ao Ls.length cap] 48)).alloc (Obj.cells #[.slice au U.length cu, .slice al V.length cl] 51)).heap.size = w.heap.size + 2 from by simp)
  have HK0 := Lib.hid k0; have HK1 := Lib.hid k1; have HM0 := Lib.hid m0; have HM1 := Lib.hid m1
  clear k0 k1 m0 m1
  go_enter Tryz.func19, Tryz.ntmps19
  go_upto_region 1 with (fail)
  generalize ((w.alloc (Obj.cells #[.int .i64 wd, .slice ao Ls.length cap] 48)).alloc (Obj.cells #[.slice au U.length cu, .slice al V.length cl] 51)) = w1 at *
  have k0 : w1.cell? ⟨w.heap.size, 0, none⟩ = some (.int .i64 wd) := HK0.out
  have k1 : w1.cell? ⟨w.heap.size, 1, none⟩ = some (.slice ao Ls.length cap) := HK1.out
  by_cases hE : cirErr wd Ls = 0
  rotate_left
  · have EP := Lib.hid (errv_pos hE)
    have HB := Lib.hid (ckAll_err (p := p) (k := k) (outs := outs) (U := U) (V := V) hE)
    clear hE
    go_wp2_with (go_at_call 47; refine (checked_any wd _ Ls R _ (HV.out.ext HX0.out)).mono ?_; rw [EP.out]; rintro e w2 ⟨rfl, hx2⟩)
    go_ret3
    exact .mk _ rfl (HX0.out.trans hx2) (.inl ⟨HB.out, rfl⟩)
  have H0 := Lib.hid hE
  have hS := (cirErr_ok hE).1
  have hlen8 : Ls.length ≤ 8 := hS.2.2.2.1
  have hlen1 : 1 ≤ Ls.length := hS.2.2.1
  have hlst := HV.out.run_index (P := Tryz.prog) slLayers (Ls.length - 1) (by omega)
  rw [show ((Ls.length - 1 : Nat) : Int) = (Ls.length : Int) - 1 by omega] at hlst
  have hlc := HV.out.cell (Ls.length - 1) (by omega)
  have hlr := (HV.out.row (Ls.length - 1) (by omega)).run_len (P := Tryz.prog) slGates
  have H64 := Lib.hid (wideOf_le (hS.2.2.2.2 (Ls.length - 1) (by omega)))
  have HWP := Lib.hid (hS.2.2.2.2 (Ls.length - 1) (by omega))
  have hz9 : errv (cirErr wd Ls) = .nilIface := by rw [hE]; rfl
  have HZ9 := Lib.hid hz9
  clear hE hS hz9
  by_cases e1 : outs.length = (nthY Ls (Ls.length - 1)).length
  rotate_left
  · have HB := Lib.hid (ckAll_len (p := p) (k := k) (wd := wd) (Ls := Ls) (outs := outs) (U := U) (V := V) (fun h => e1 h.1))
    have b1 : ((outs.length : Int) != ((nthY Ls (Ls.length - 1)).length : Int)) = true := by rw [bne_iff_ne]; omega
    clear e1
    go_wp2_with (go_at_call 47; refine (checked_any wd _ Ls R _ (HV.out.ext HX0.out)).mono ?_; rw [HZ9.out]; rintro e w2 ⟨rfl, hx2⟩; have j0 := hx2.cell k0; have j1 := hx2.cell k1; have hlc2 := hx2.cell (HX0.out.cell hlc))
    go_ret3
    exact .mk _ rfl (HX0.out.trans hx2) (.inl ⟨HB.out, rfl⟩)
  have b1 : ((outs.length : Int) != ((nthY Ls (Ls.length - 1)).length : Int)) = false := by rw [bne_eq_false_iff_eq]; omega
  by_cases e2 : U.length = Ls.length
  rotate_left
  · have HB := Lib.hid (ckAll_len (p := p) (k := k) (wd := wd) (Ls := Ls) (outs := outs) (U := U) (V := V) (fun h => e2 h.2.1))
    have b2 : ((U.length : Int) != (Ls.length : Int)) = true := by rw [bne_iff_ne]; omega
    clear e2 e1
    go_wp2_with (go_at_call 47; refine (checked_any wd _ Ls R _ (HV.out.ext HX0.out)).mono ?_; rw [HZ9.out]; rintro e w2 ⟨rfl, hx2⟩; have j0 := hx2.cell k0; have j1 := hx2.cell k1; have hlc2 := hx2.cell (HX0.out.cell hlc); have i0 := hx2.cell HM0.out; have i1 := hx2.cell HM1.out)
    go_ret3
    exact .mk _ rfl (HX0.out.trans hx2) (.inl ⟨HB.out, rfl⟩)
  have b2 : ((U.length : Int) != (Ls.length : Int)) = false := by rw [bne_eq_false_iff_eq]; omega
  by_cases e3 : V.length = Ls.length
  rotate_left
  · have HB := Lib.hid (ckAll_len (p := p) (k := k) (wd := wd) (Ls := Ls) (outs := outs) (U := U) (V := V) (fun h => e3 h.2.2))
    have b3 : ((V.length : Int) != (Ls.length : Int)) = true := by rw [bne_iff_ne]; omega
    clear e3 e2 e1
    go_wp2_with (go_at_call 47; refine (checked_any wd _ Ls R _ (HV.out.ext HX0.out)).mono ?_; rw [HZ9.out]; rintro e w2 ⟨rfl, hx2⟩; have j0 := hx2.cell k0; have j1 := hx2.cell k1; have hlc2 := hx2.cell (HX0.out.cell hlc); have i0 := hx2.cell HM0.out; have i1 := hx2.cell HM1.out)
    go_ret3
    exact .mk _ rfl (HX0.out.trans hx2) (.inl ⟨HB.out, rfl⟩)
  have b3 : ((V.length : Int) != (Ls.length : Int)) = false := by rw [bne_eq_false_iff_eq]; omega
  have HALL := Lib.hid (ckAll_in (p := p) (k := k) H0.out e1 e2 e3)
  have HEND := Lib.hid (show ckEnd p k wd Ls outs U V = chS p k wd Ls U V (ckZ p k wd Ls outs) (ext outs (ckZ p k wd Ls outs) % p) (ckD p k wd Ls outs) Ls.length from rfl)
  obtain ⟨n, hn⟩ : ∃ n, (wideOf (nthY Ls (Ls.length - 1)).length).toNat = n := ⟨_, rfl⟩
  have hn2 : wideOf (nthY Ls (Ls.length - 1)).length = n := by have := HWP.out; omega
  have hn6 : n ≤ 6 := by have := (wideOf_bd (nthY Ls (Ls.length - 1)).length).2; omega
  have hop : outs.length = 2 ^ n := by
    have h1 := wideOf_pow HWP.out
    rw [hn] at h1
    have h2 : ((2 ^ n : Nat) : Int) = (2 : Int) ^ n := by simp
    omega
  obtain ⟨z, hz⟩ : ∃ z, ckZ p k wd Ls outs = z := ⟨_, rfl⟩
  obtain ⟨D, hD⟩ : ∃ D, ckD p k wd Ls outs = D := ⟨_, rfl⟩
  have hz2 : drwL p k (begS p k wd Ls outs) n = z := by rw [← hz]; unfold ckZ; rw [hn]
  have hD2 : drwS p k (begS p k wd Ls outs) n = D := by rw [← hD]; unfold ckD; rw [hn]
  rw [hz, hD] at HALL HEND
  have HLZ := Lib.hid (show z.length = n from by rw [← hz2, drwL_length])
  have HLD := Lib.hid (show D.length = 4 from by rw [← hD2]; exact drwS_length _ _ (begS_length _ _ _ _ _) _)
  have HZ2 := Lib.hid hz2; have HD2 := Lib.hid hD2; have HN2 := Lib.hid hn2; have HOP := Lib.hid hop
  have HE1 := Lib.hid e1; have HE2 := Lib.hid e2; have HE3 := Lib.hid e3
  clear e1 e2 e3 hn hn2 hz hD hz2 hD2 hop
  go_upto_region 5 with (first | (go_at_call 47; refine (checked_any wd _ Ls R _ (HV.out.ext HX0.out)).mono ?_; rw [HZ9.out]; rintro e w2 ⟨rfl, hx2⟩; have j0 := hx2.cell k0; have j1 := hx2.cell k1; have hlc2 := hx2.cell (HX0.out.cell hlc); have i0 := hx2.cell HM0.out; have i1 := hx2.cell HM1.out) | (go_at_call 48; refine (begin_any (p := p) (k := k) (HSP.out.ext (HX0.out.trans hx2)) (HF.out.ext (HX0.out.trans hx2)) HK.out (HV.out.ext (HX0.out.trans hx2)) (HO.out.ext (HX0.out.trans hx2)) H0.out (by rw [HE1.out]; have := H64.out; omega) n HN2.out).mono ?_; rw [HZ2.out, HD2.out]; rintro e w4 ⟨v4, rfl, hx4, cb, vz, rfl, hcb, hch, -, hiz, hzb⟩; have HX4 := Lib.hid hx4; have HCB := Lib.hid hcb; have HCH := Lib.hid hch; have HIZ := Lib.hid hiz; have HZB := Lib.hid hzb; clear hcb hch hiz hzb))
  have HX2 := Lib.hid (HX0.out.trans hx2)
  have HX24 := Lib.hid (HX2.out.trans HX4.out)
  have c0 := (HSP.out.ext HX24.out).c0
  have j0 := HX4.out.cell j0; have j1 := HX4.out.cell j1
  have i0 := HX4.out.cell i0; have i1 := HX4.out.cell i1
  have hs2 : w.heap.size + 2 ≤ w2.heap.size := by have := hx2.size; have := HS1.out; omega
  have hxm : ∀ {a : Addr} {v : Value}, w1.cell? a = some v → w2.cell? a = some v := fun h => hx2.cell h
  clear k0 k1 hlc hlc2 hlst hlr b1 b2 b3 hx2 hll hlo
  obtain ⟨c, hc⟩ : ∃ c, ext outs z % p = c := ⟨_, rfl⟩
  have HCC := Lib.hid hc
  rw [hc] at HALL HEND
  clear hc
  go_upto_region 8 with (first | (go_at_call 7; refine (sfieldof_any c0).mono ?_; rintro e w' ⟨rfl, rfl⟩) | (go_at_call 23; refine (sExtend_ok (HF.out.ext HX24.out) _ _ outs z (HO.out.ext HX24.out) HIZ.out n (by omega) HOP.out HLZ.out).mono ?_; rw [HCC.out]; rintro e w6 ⟨rfl, hx6⟩; have l0 := hx6.cell j0; have l1 := hx6.cell j1; have n0 := hx6.cell i0; have n1 := hx6.cell i1; have HX6 := Lib.hid hx6; clear hx6))
  have d0 := HX6.out.cell c0
  refine wp_region_quiet_tail 4 (by kernel_rfl) (by kernel_rfl) ?_
  simp only [List.take_succ_cons, List.take_zero, List.drop_succ_cons, List.drop_zero]
  repeat (go_big_quiet_step (first | (go_at_call 7; exact sfield_q d0 _)))
  refine wpQuiet_nil ?_
  rintro _ ⟨nq, rfl⟩
  have HX7 := Lib.hid (HX6.out.trans (Ext.drewN w6 nq))
  clear d0 c0 j0 j1 i0 i1
  generalize w6.drewN nq = w7 at *
  have n0 : w7.cell? ⟨w.heap.size + 1, 0, none⟩ = some (.slice au U.length cu) := HX7.out.cell (HX4.out.cell (hxm HM0.out))
  have n1 : w7.cell? ⟨w.heap.size + 1, 1, none⟩ = some (.slice al V.length cl) := HX7.out.cell (HX4.out.cell (hxm HM1.out))
  go_wp2_with fail
  obtain ⟨w9, hw9⟩ : ∃ w9, w9 = w7.alloc (Obj.cells #[.pointer (some ⟨bf, 0, none⟩), .int .i64 wd, .slice ao Ls.length cap, .pointer (some ⟨cb, 0, none⟩)] 101) := ⟨_, rfl⟩
  have hbl : BlkOf w9 w7.heap.size [.pointer (some ⟨bf, 0, none⟩), .int .i64 wd, .slice ao Ls.length cap, .pointer (some ⟨cb, 0, none⟩)] 101 := by rw [hw9]; exact BlkOf.new _ _ _
  have hx9 : Ext w7 w9 := by rw [hw9]; exact Ext.alloc _ _
  have HWK := Lib.hid (show Wlk w9 w7.heap.size (.pointer (some ⟨bf, 0, none⟩)) wd (.slice ao Ls.length cap) (.pointer (some ⟨cb, 0, none⟩)) from ⟨hbl.cell 0, hbl.cell 1, hbl.cell 2, hbl.cell 3, hbl.free 3⟩)
  have hcb4 : cb < w4.heap.size := HCH.out.lt
  have HKC := Lib.hid (show w7.heap.size ≠ cb from fun e => by have := HX7.out.size; omega)
  have HX29 := Lib.hid ((HX4.out.trans HX7.out).trans hx9)
  have HC9 := Lib.hid ((HCH.out.ext HX7.out).ext hx9)
  have HI9 := Lib.hid ((HIZ.out.ext HX7.out).ext hx9)
  have HZB9 := Lib.hid (show ∀ q, vz.ownBlock = some q → some q ≠ some cb from fun q hq e => (HZB.out q hq).2.1 (Option.some.inj e))
  have m0 := hx9.cell n0; have m1 := hx9.cell n1
  have HM9 := Lib.hid (And.intro m0 m1)
  rw [← hw9]
  generalize w7.heap.size = kb at *
  clear hw9 hbl hx9 n0 n1 m0 m1
  go_wp2_with fail
  have HM2 := Lib.hid (And.intro (hxm HM0.out) (hxm HM1.out))
  clear hxm
  go_loopw [9, 10, 13, 16, 73] (fun x9 _ x13 _ x73 wr => ∃ j : Nat, j ≤ Ls.length ∧ x73 = .int .i64 j ∧ x9 = .int .i64 (chS p k wd Ls U V z c D j).2.1 ∧ Hid (Ints wr x13 (chS p k wd Ls U V z c D j).1) ∧ Hid (∀ q, x13.ownBlock = some q → some q ≠ some cb) ∧ Hid (ChP wr cb (.pointer (some ⟨bs, 0, none⟩)) (chS p k wd Ls U V z c D j).2.2) ∧ Hid (w9.grownBy wr (some cb)) ∧ Hid (chA p k wd Ls U V z c D j = true)) (fun _ _ _ _ x73 _ => Ls.length - (intOf x73).toNat)
  case atStart => exact ⟨0, Nat.zero_le _, rfl, rfl, HI9, HZB9, HC9, Lib.hid (World.grownBy.refl _ _), Lib.hid rfl⟩
  case round =>
    clear HI9 HZB9 HC9
    obtain ⟨j, hj, rfl, rfl, HIZR, HZBR, HCR, HG, HA⟩ := hrel
    have HXR := Lib.hid (grown_old HX29.out HG.out HCB.out)
    have HXWR := Lib.hid (HX2.out.trans HXR.out)
    by_cases hjl : j < Ls.length
    · obtain ⟨i, hi⟩ : ∃ i, Ls.length - 1 - j = i := ⟨_, rfl⟩
      have hil : i < Ls.length := by omega
      have HEI := Lib.hid (show IntKind.i64.wrap (IntKind.i64.wrap ((Ls.length : Int) - 1) - (j : Int)) = (i : Int) by rw [IntWalk.i64_in ((Ls.length : Int) - 1) (by omega), IntWalk.i64_in _ (by omega)]; omega)
      have hbn := beneath_bd (cirErr_ok H0.out).1 hil
      obtain ⟨nn, hnn⟩ := Int.eq_ofNat_of_zero_le hbn.1
      have hzl := chS_len p k wd Ls U V c D (z := z) (by rw [HLZ.out, HN2.out]) H0.out j hjl
      have hdl := chS_dig p k wd Ls U V z c HLD.out j
      have hsn : chS p k wd Ls U V z c D (j + 1) = (lyZ p k (beneath wd Ls (Ls.length - 1 - j)).toNat (chS p k wd Ls U V z c D j).2.1 (chS p k wd Ls U V z c D j).2.2 (nthC U j) (nthL V j), lyC p k (beneath wd Ls (Ls.length - 1 - j)).toNat (chS p k wd Ls U V z c D j).2.1 (chS p k wd Ls U V z c D j).2.2 (nthC U j) (nthL V j), lyD p k (beneath wd Ls (Ls.length - 1 - j)).toNat (chS p k wd Ls U V z c D j).2.1 (chS p k wd Ls U V z c D j).2.2 (nthC U j) (nthL V j)) := rfl
      have hA1 : chA p k wd Ls U V z c D (j + 1) = (chA p k wd Ls U V z c D j && chB p k wd Ls U V z c D j) := rfl
      have hB0 : chB p k wd Ls U V z c D j = lyB p k (nthY Ls (Ls.length - 1 - j)) (beneath wd Ls (Ls.length - 1 - j)).toNat (chS p k wd Ls U V z c D j).1 (chS p k wd Ls U V z c D j).2.1 (chS p k wd Ls U V z c D j).2.2 (nthC U j) (nthL V j) := rfl
      have HBF := Lib.hid (fun h => chA_false (p := p) (k := k) (wd := wd) (Ls := Ls) (U := U) (V := V) (z := z) (c := c) (D := D) (m := j) h Ls.length hjl)
      have hz30 := (wideOf_bd (nthY Ls (Ls.length - 1 - j)).length).2
      rw [hi] at hsn hB0 hzl hz30
      rw [hnn, Int.toNat_natCast] at hsn hB0
      have HNN := Lib.hid hnn
      generalize chS p k wd Ls U V z c D j = st at *
      obtain ⟨zj, cj, Dj⟩ := st
      dsimp only at hzl hdl hsn hB0 HIZR HCR
      have HSN := Lib.hid hsn; have HA1 := Lib.hid hA1
      have hju : j < U.length := by rw [HE2.out]; exact hjl
      have hjv : j < V.length := by rw [HE3.out]; exact hjl
      have hixu := HU.out.run_index (P := Tryz.prog) slCubB j hju
      have hixl := HWW.out.run_index (P := Tryz.prog) slRows j hjv
      obtain ⟨RT, hrt⟩ := HU.out.row j hju
      have HRT := Lib.hid (hrt.ext HX2.out)
      have HRL := Lib.hid ((HWW.out.row j hjv).ext HX2.out)
      have HC4 := Lib.hid (show ∀ W, Ext w2 W → W.cell? ⟨w.heap.size + 1, 0, none⟩ = some (.slice au U.length cu) ∧ W.cell? ⟨w.heap.size + 1, 1, none⟩ = some (.slice al V.length cl) ∧ W.cell? (elt (.slice au U.length cu) j 1) = some (QU j) ∧ W.cell? (elt (.slice al V.length cl) j 1) = some (RV j) from fun W hW => ⟨hW.cell HM2.out.1, hW.cell HM2.out.2, hW.cell (HX2.out.cell (HU.out.cell j hju)), hW.cell (HX2.out.cell (HWW.out.cell j hjv))⟩)
      obtain ⟨q0, q1, q2, q3⟩ := HC4.out wr HXR.out
      have HKR := Lib.hid (HWK.out.grown HG.out (fun e => HKC.out (Option.some.inj e)))
      have hcbr : cb < wr.heap.size := HCR.out.lt
      clear hsn hA1 hi hrt hju hjv
      by_cases hB : chB p k wd Ls U V z c D j = true
      · have HLB := Lib.hid (hB0 ▸ hB)
        have HB := Lib.hid hB
        clear hB hB0
        go_wp2_with fail
        go_region_held3 (fun W => W.cell? ⟨w.heap.size + 1, 0, none⟩ = some (.slice au U.length cu) ∧ W.cell? ⟨w.heap.size + 1, 1, none⟩ = some (.slice al V.length cl) ∧ W.cell? (elt (.slice au U.length cu) j 1) = some (QU j) ∧ W.cell? (elt (.slice al V.length cl) j 1) = some (RV j)) (first | exact HC4.out _ (grown_old (HXR.out.trans (Ext.drew wr)) hgX HCB.out) | exact HC4.out _ (HXR.out.trans (Ext.drew wr)) | go_keep) ((go_at_call 49; rw [HEI.out]; refine (ckdown_yes (p := p) (k := k) (HF.out.ext HX2.out) ⟨bs, bf, rt, g, fs, rfl, HSP.out.ext HX2.out, HF.out.ext HX2.out, HK.out⟩ (HV.out.ext HX2.out) H0.out HRT.out HRL.out h23 (HXR.out.trans (Ext.drew wr)) HCB.out (HKR.out.ext (Ext.drew wr)) HKC.out (HCR.out.ext (Ext.drew wr)) hdl i hil nn HNN.out (HIZR.out.ext (Ext.drew wr)) (by omega) HZBR.out cj HLB.out).mono ?_; rintro e wX ⟨vn, rfl, hgX, hcX, hiX, hbX⟩))
        have hgX2 := HG.out.trans (((Ext.drew wr).grownBy _).trans hgX)
        have HGX := Lib.hid hgX2
        have HCX := Lib.hid hcX; have HIX := Lib.hid hiX; have HBX := Lib.hid hbX
        have hsd : wr.heap.size ≤ wr.drew.heap.size := (Ext.drew wr).size
        clear hgX2 hgX hcX hiX hbX q0 q1 q2 q3
        go_wp2_with fail
        go_roundw
        case rel => exact ⟨j + 1, by omega, by go_num, by rw [HSN.out], Lib.hid (by rw [HSN.out]; exact HIX.out), Lib.hid (fun q hq e => by have h5 := (HBX.out q hq).1; have h6 := Option.some.inj e; omega), Lib.hid (by rw [HSN.out]; exact HCX.out), HGX, Lib.hid (by rw [HA1.out, HA.out, HB.out]; rfl)⟩
        case measure => simp [intOf]; omega
      · have hB' : chB p k wd Ls U V z c D j = false := by simpa using hB
        have HLB := Lib.hid (hB0 ▸ hB')
        have HBAD := Lib.hid (show ckAll p k wd Ls outs U V = false from by rw [HALL.out]; exact HBF.out hB')
        clear hB hB' hB0
        go_wp2_with fail
        go_region_held3 (fun W => W.cell? ⟨w.heap.size + 1, 0, none⟩ = some (.slice au U.length cu) ∧ W.cell? ⟨w.heap.size + 1, 1, none⟩ = some (.slice al V.length cl) ∧ W.cell? (elt (.slice au U.length cu) j 1) = some (QU j) ∧ W.cell? (elt (.slice al V.length cl) j 1) = some (RV j)) (first | exact HC4.out _ (grown_old (HXR.out.trans (Ext.drew wr)) hgX HCB.out) | exact HC4.out _ (HXR.out.trans (Ext.drew wr)) | go_keep) ((go_at_call 49; rw [HEI.out]; refine (ckdown_no (p := p) (k := k) (HF.out.ext HX2.out) ⟨bs, bf, rt, g, fs, rfl, HSP.out.ext HX2.out, HF.out.ext HX2.out, HK.out⟩ (HV.out.ext HX2.out) H0.out HRT.out HRL.out h23 (HXR.out.trans (Ext.drew wr)) HCB.out (HKR.out.ext (Ext.drew wr)) HKC.out (HCR.out.ext (Ext.drew wr)) hdl i hil nn HNN.out (HIZR.out.ext (Ext.drew wr)) (by omega) HZBR.out cj HLB.out).mono ?_; rintro e wX ⟨rfl, hgX⟩))
        have HXX := Lib.hid (HX2.out.trans (grown_old (HXR.out.trans (Ext.drew wr)) hgX HCB.out))
        clear hgX q0 q1 q2 q3
        go_wp2_with fail
        go_ret3
        exact .mk _ rfl HXX.out (.inl ⟨HBAD.out, rfl⟩)
    · obtain rfl : j = Ls.length := by omega
      have HIE := Lib.hid HIZR.out
      go_wp2_with fail
      go_ret3
      exact .mk _ rfl HXWR.out (.inr ⟨by rw [HALL.out]; exact HA.out, _, by rw [HEND.out]; rfl, by rw [HEND.out]; exact HIE.out⟩)
end
end Go.Proofs.YtaajjaadlpgbiaaGreatDoor
