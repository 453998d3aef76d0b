/- A layer's sum, the program's side: Part with its faults. -/
import Derived.Test.YthjemncbphdomaaDoorP3
namespace Go.Att
open Go.RowKit
open Classical in
/-- What is wrong with a layer, with so many numbers of two points. -/
noncomputable def partErr (wd : Int) (Ls : List (List Tri)) (m : Nat) (layer : Int) (lz lx : Nat) : Int :=
  if walkErr wd Ls m = 0 then (if layB layer Ls.length = true then (if (lz : Int) = wideOf (nthY Ls layer.toNat).length ∧ (lx : Int) ≤ 2 * beneath wd Ls layer.toNat then 0 else 2) else 3) else walkErr wd Ls m
/-- The sum. -/
noncomputable def partV (p wd : Int) (Ls : List (List Tri)) (inp : List Int) (i : Nat) (z xs : List Int) : Int := partS (nthY Ls i) (beneath wd Ls i).toNat (vrow p Ls inp i) z xs (nthY Ls i).length % p
/-- .. 0 where something is wrong. -/
noncomputable def partR (p wd : Int) (Ls : List (List Tri)) (inp : List Int) (layer : Int) (z xs : List Int) : Int := if partErr wd Ls inp.length layer z.length xs.length = 0 then partV p wd Ls inp layer.toNat z xs else 0
theorem partErr_ok {wd : Int} {Ls : List (List Tri)} {m : Nat} {layer : Int} {lz lx : Nat} (h : partErr wd Ls m layer lz lx = 0) : walkErr wd Ls m = 0 ∧ layB layer Ls.length = true ∧ (lz : Int) = wideOf (nthY Ls layer.toNat).length ∧ (lx : Int) ≤ 2 * beneath wd Ls layer.toNat := by
  unfold partErr at h
  by_cases h1 : walkErr wd Ls m = 0
  · rw [if_pos h1] at h
    by_cases h2 : layB layer Ls.length = true
    · rw [if_pos h2] at h
      by_cases h3 : (lz : Int) = wideOf (nthY Ls layer.toNat).length ∧ (lx : Int) ≤ 2 * beneath wd Ls layer.toNat
      · exact ⟨h1, h2, h3.1, h3.2⟩
      · rw [if_neg h3] at h; omega
    · rw [if_neg h2] at h; omega
  · rw [if_neg h1] at h; exact absurd h h1
theorem partErr_mk {wd : Int} {Ls : List (List Tri)} {m : Nat} {layer : Int} {lz lx : Nat} (h1 : walkErr wd Ls m = 0) (h2 : layB layer Ls.length = true) (h3 : (lz : Int) = wideOf (nthY Ls layer.toNat).length) (h4 : (lx : Int) ≤ 2 * beneath wd Ls layer.toNat) : partErr wd Ls m layer lz lx = 0 := by
  unfold partErr; rw [if_pos h1, if_pos h2, if_pos ⟨h3, h4⟩]
theorem partErr_1 {wd : Int} {Ls : List (List Tri)} {m : Nat} {layer : Int} {lz lx : Nat} (h : walkErr wd Ls m ≠ 0) : partErr wd Ls m layer lz lx = walkErr wd Ls m := by unfold partErr; rw [if_neg h]
theorem partErr_3 {wd : Int} {Ls : List (List Tri)} {m : Nat} {layer : Int} {lz lx : Nat} (h : walkErr wd Ls m = 0) (h2 : layB layer Ls.length = false) : partErr wd Ls m layer lz lx = 3 := by unfold partErr; rw [if_pos h, if_neg (by rw [h2]; decide)]
theorem partErr_2 {wd : Int} {Ls : List (List Tri)} {m : Nat} {layer : Int} {lz lx : Nat} (h : walkErr wd Ls m = 0) (h2 : layB layer Ls.length = true) (h3 : ¬ ((lz : Int) = wideOf (nthY Ls layer.toNat).length ∧ (lx : Int) ≤ 2 * beneath wd Ls layer.toNat)) : partErr wd Ls m layer lz lx = 2 := by unfold partErr; rw [if_pos h, if_pos h2, if_neg h3]
end Go.Att
namespace Go.Proofs.YthjemncbphdomaaDoor
open Go.RowKit Go.Att

set_option maxRecDepth 100000 in
set_option maxHeartbeats 2000000 in
theorem Part_any {w : World} {bf : Nat} {p g : Int} {fs : List Int} (hf : Fld w (.pointer (some ⟨bf, 0, none⟩)) p g fs) (wd : Int) (lv vi vz vx : Value) (Ls : List (List Tri)) (R : Nat → Value) (inp z xs : List Int) (layer : Int) (hv : LysAt w lv Ls R) (hi : Ints w vi inp) (hz : Ints w vz z) (hx : Ints w vx xs) :
    Calls Tryd.prog 41 #[.pointer (some ⟨bf, 0, none⟩), .agg #[.int .i64 wd, lv], .int .i64 layer, vi, vz, vx] w fun e w' => e = .returned (.tuple #[.int .i64 (partR p wd Ls inp layer z xs), errv (partErr wd Ls inp.length layer z.length xs.length)]) ∧ Ext w w' := by
  have HV := Lib.hid hv; have HI := Lib.hid hi; have HZ := Lib.hid hz; have HX := Lib.hid hx; have C := Lib.hid hf
  have hlz := hz.run_len (P := Tryd.prog) slInts
  have hlx := hx.run_len (P := Tryd.prog) slInts
  have hzl := hz.len
  have hxl := hx.len
  have hlen := hv.len
  obtain ⟨ao, cap, rfl⟩ := hv.shape
  have c0 := cell_new w #[.int .i64 wd, .slice ao Ls.length cap] 80 0
  have c1 := cell_new w #[.int .i64 wd, .slice ao Ls.length cap] 80 1
  have hx1 := Ext.alloc w (Obj.cells #[.int .i64 wd, .slice ao Ls.length cap] 80)
  clear hv hi hz hx hf
  by_cases hE : walkErr wd Ls inp.length = 0
  case neg =>
    have HR := Lib.hid (show partR p wd Ls inp layer z xs = 0 by unfold partR; rw [partErr_1 hE, if_neg hE])
    rw [HR.out, partErr_1 hE, errv_pos hE]
    have EP := Lib.hid (errv_pos hE)
    have HE := Lib.hid hE; clear hE
    go_enter Tryd.func41, Tryd.ntmps41
    go_wp2_with (go_at_call 107; refine (walker_bad _ wd _ _ Ls R inp _ (HV.out.ext hx1) (HI.out.ext hx1) HE.out).mono ?_; rw [EP.out]; rintro e w2 ⟨rfl, hx2⟩)
    go_ret2
    exact ⟨rfl, hx1.trans hx2⟩
  have HE := Lib.hid hE
  have HCE := Lib.hid (walkErr_ok hE).1
  have HIN := Lib.hid (walkErr_ok hE).2
  have hlen8 : Ls.length ≤ 8 := (cirErr_ok HCE.out).1.2.2.2.1
  cases hl : layB layer Ls.length with
  | false =>
    have HR := Lib.hid (show partR p wd Ls inp layer z xs = 0 by unfold partR; rw [partErr_3 hE hl, if_neg (by decide)])
    rw [HR.out, partErr_3 hE hl, errv_pos (by decide)]
    clear hE
    go_enter Tryd.func41, Tryd.ntmps41
    go_wp2_with (first | (go_at_call 107; refine (walker_ok (C.out.ext hx1) wd _ _ Ls R inp (HV.out.ext hx1) (HI.out.ext hx1) HE.out).mono ?_; rintro e w2 ⟨v, rfl, hx2, b, vv, S, rfl, -⟩; replace c0 : w2.cell? ⟨w.heap.size, 0, none⟩ = some (.int .i64 wd) := hx2.cell c0; replace c1 : w2.cell? ⟨w.heap.size, 1, none⟩ = some (.slice ao Ls.length cap) := hx2.cell c1; replace hx2 := hx1.trans hx2) | (go_at_call 110; refine (isLayer_any wd _ Ls R layer _ (HV.out.ext hx2)).mono ?_; rw [hl]; rintro e w3 ⟨rfl, hx3⟩))
    go_ret2
    exact ⟨rfl, hx2.trans hx3⟩
  | true =>
    have hl2 : 0 ≤ layer ∧ layer < (Ls.length : Int) := of_decide_eq_true hl
    obtain ⟨i, rfl⟩ := Int.eq_ofNat_of_zero_le hl2.1
    have hi : i < Ls.length := by omega
    have hbd := beneath_bd (cirErr_ok HCE.out).1 hi
    by_cases hfit : (z.length : Int) = wideOf (nthY Ls i).length ∧ (xs.length : Int) ≤ 2 * beneath wd Ls i
    · obtain ⟨f1, f2⟩ := hfit
      have hP : partErr wd Ls inp.length i z.length xs.length = 0 := partErr_mk hE hl f1 f2
      have HR := Lib.hid (show partR p wd Ls inp i z xs = partS (nthY Ls i) (beneath wd Ls i).toNat (vrow p Ls inp i) z xs (nthY Ls i).length % p by unfold partR; rw [if_pos hP]; rfl)
      rw [HR.out, hP, errv_zero]
      have b1 : ((z.length : Int) != wideOf (nthY Ls i).length) = false := by rw [bne_eq_false_iff_eq]; exact f1
      have hwb := wideOf_bd (nthY Ls i).length
      have lz : z.length ≤ 30 := by omega
      obtain ⟨n, hn⟩ := Int.eq_ofNat_of_zero_le hbd.1
      rw [hn, Int.toNat_natCast]
      rw [hn] at f2 hbd
      have hle : xs.length ≤ 2 * n := by omega
      have HN := Lib.hid hn
      clear hE hP f1 hwb hn hl2
      go_enter Tryd.func41, Tryd.ntmps41
      go_wp2_with (first | (go_at_call 107; refine (walker_ok (C.out.ext hx1) wd _ _ Ls R inp (HV.out.ext hx1) (HI.out.ext hx1) HE.out).mono ?_; rintro e w2 ⟨v, rfl, hx2, b, vv, S, rfl, hwk, hgr, -⟩; have HW := Lib.hid hwk; have HG := Lib.hid hgr.rws; clear hwk hgr; replace c0 : w2.cell? ⟨w.heap.size, 0, none⟩ = some (.int .i64 wd) := hx2.cell c0; replace c1 : w2.cell? ⟨w.heap.size, 1, none⟩ = some (.slice ao Ls.length cap) := hx2.cell c1; replace hx2 := hx1.trans hx2) | (go_at_call 110; refine (isLayer_any wd _ Ls R i _ (HV.out.ext hx2)).mono ?_; rw [hl]; rintro e w3 ⟨rfl, hx3⟩; replace c0 := hx3.cell c0; replace c1 := hx3.cell c1; replace HW := Lib.hid (HW.out.ext hx3); replace HG := Lib.hid (HG.out.ext hx3); replace hx3 := hx2.trans hx3))
      refine (vars_any wd _ Ls R i _ (HV.out.ext hx3) hi).mono ?_
      rintro e w4 ⟨rfl, hx4⟩
      replace c0 := hx4.cell c0
      replace c1 := hx4.cell c1
      replace HW := Lib.hid (HW.out.ext hx4)
      replace HG := Lib.hid (HG.out.ext hx4)
      replace hx4 := hx3.trans hx4
      go_wp2_with fail
      refine (vars_below wd _ Ls R i _ (HV.out.ext hx4) hi).mono ?_
      rw [HN.out]
      rintro e w5 ⟨rfl, hx5⟩
      replace HW := Lib.hid (HW.out.ext hx5)
      replace HG := Lib.hid (HG.out.ext hx5)
      replace hx5 := hx4.trans hx5
      go_wp2_with (go_at_call 114; refine (wpart_any (C.out.ext hx5) HW.out (HV.out.ext hx5) HG.out HCE.out HIN.out i hi n HN.out _ _ z xs (HZ.out.ext hx5) (HX.out.ext hx5) lz hle).mono ?_; rintro e w6 ⟨rfl, hx6⟩)
      go_ret2
      exact ⟨rfl, hx5.trans hx6⟩
    · have hP : partErr wd Ls inp.length i z.length xs.length = 2 := partErr_2 hE hl hfit
      have HR := Lib.hid (show partR p wd Ls inp i z xs = 0 by unfold partR; rw [hP, if_neg (by decide)])
      rw [HR.out, hP, errv_pos (by decide)]
      obtain ⟨n, hn⟩ := Int.eq_ofNat_of_zero_le hbd.1
      rw [hn] at hfit hbd
      have HN := Lib.hid hn
      clear hE hP hn hl2
      by_cases f1 : (z.length : Int) = wideOf (nthY Ls i).length
      · have b1 : ((z.length : Int) != wideOf (nthY Ls i).length) = false := by rw [bne_eq_false_iff_eq]; exact f1
        have b2 : ¬ (xs.length : Int) ≤ 2 * n := fun h => hfit ⟨f1, h⟩
        clear f1 hfit
        go_enter Tryd.func41, Tryd.ntmps41
        go_wp2_with (first | (go_at_call 107; refine (walker_ok (C.out.ext hx1) wd _ _ Ls R inp (HV.out.ext hx1) (HI.out.ext hx1) HE.out).mono ?_; rintro e w2 ⟨v, rfl, hx2, b, vv, S, rfl, -⟩; replace c0 : w2.cell? ⟨w.heap.size, 0, none⟩ = some (.int .i64 wd) := hx2.cell c0; replace c1 : w2.cell? ⟨w.heap.size, 1, none⟩ = some (.slice ao Ls.length cap) := hx2.cell c1; replace hx2 := hx1.trans hx2) | (go_at_call 110; refine (isLayer_any wd _ Ls R i _ (HV.out.ext hx2)).mono ?_; rw [hl]; rintro e w3 ⟨rfl, hx3⟩; replace c0 := hx3.cell c0; replace c1 := hx3.cell c1; replace hx3 := hx2.trans hx3))
        refine (vars_any wd _ Ls R i _ (HV.out.ext hx3) hi).mono ?_
        rintro e w4 ⟨rfl, hx4⟩
        replace c0 := hx4.cell c0
        replace c1 := hx4.cell c1
        replace hx4 := hx3.trans hx4
        go_wp2_with fail
        refine (vars_below wd _ Ls R i _ (HV.out.ext hx4) hi).mono ?_
        rw [HN.out]
        rintro e w5 ⟨rfl, hx5⟩
        replace hx5 := hx4.trans hx5
        go_wp2_with fail
        go_ret2
        exact ⟨rfl, hx5⟩
      · have b1 : ((z.length : Int) != wideOf (nthY Ls i).length) = true := by rw [bne_iff_ne]; exact f1
        clear f1 hfit
        go_enter Tryd.func41, Tryd.ntmps41
        go_wp2_with (first | (go_at_call 107; refine (walker_ok (C.out.ext hx1) wd _ _ Ls R inp (HV.out.ext hx1) (HI.out.ext hx1) HE.out).mono ?_; rintro e w2 ⟨v, rfl, hx2, b, vv, S, rfl, -⟩; replace c0 : w2.cell? ⟨w.heap.size, 0, none⟩ = some (.int .i64 wd) := hx2.cell c0; replace c1 : w2.cell? ⟨w.heap.size, 1, none⟩ = some (.slice ao Ls.length cap) := hx2.cell c1; replace hx2 := hx1.trans hx2) | (go_at_call 110; refine (isLayer_any wd _ Ls R i _ (HV.out.ext hx2)).mono ?_; rw [hl]; rintro e w3 ⟨rfl, hx3⟩; replace c0 := hx3.cell c0; replace c1 := hx3.cell c1; replace hx3 := hx2.trans hx3))
        refine (vars_any wd _ Ls R i _ (HV.out.ext hx3) hi).mono ?_
        rintro e w4 ⟨rfl, hx4⟩
        replace c0 := hx4.cell c0
        replace c1 := hx4.cell c1
        replace hx4 := hx3.trans hx4
        go_wp2_with fail
        go_ret2
        exact ⟨rfl, hx4⟩
end Go.Proofs.YthjemncbphdomaaDoor
