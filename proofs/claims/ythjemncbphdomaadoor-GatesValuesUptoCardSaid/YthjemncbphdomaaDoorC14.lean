/- How much of the gates there is anywhere, the program's side: Wire where all fits. -/
import Derived.Test.YthjemncbphdomaaDoorC13
namespace Go.Proofs.YthjemncbphdomaaDoor
open Go.RowKit Go.Att

set_option maxRecDepth 100000 in
set_option maxHeartbeats 4000000 in
theorem Wire_ok {f : Value} {p g : Int} {fs : List Int} (wd : Int) (lv vz vx vy : Value) (Ls : List (List Tri)) (R : Nat → Value) (i : Nat) (kind : Int) (z x y : List Int) (w : World) (hf : Fld w f p g fs) (hv : LysAt w lv Ls R) (hE : cirErr wd Ls = 0) (hi : i < Ls.length) (hk : kindB kind = true) (hz : Ints w vz z) (hx : Ints w vx x) (hy : Ints w vy y) (h : fitsB wd Ls i z x y = true) :
    Calls Tryd.prog 38 #[f, .agg #[.int .i64 wd, lv], .int .i64 i, .int .i64 kind, vz, vx, vy] w fun e w' => e = .returned (.tuple #[.int .i64 (wireU (nthY Ls i) kind z x y (nthY Ls i).length % p), .nilIface]) ∧ Ext w w' := by
  obtain ⟨hS, -⟩ := cirErr_ok hE
  have HV := Lib.hid hv; have C := Lib.hid hf; have HE := Lib.hid hE; have HZ := Lib.hid hz; have HX := Lib.hid hx; have HY := Lib.hid hy
  have hlen := hv.len
  obtain ⟨ao, cap, rfl⟩ := hv.shape
  have E := Lib.hid (show errv (cirErr wd Ls) = .nilIface by rw [hE, errv_zero])
  have hlz := hz.run_len (P := Tryd.prog) slInts
  have hlx := hx.run_len (P := Tryd.prog) slInts
  have hly := hy.run_len (P := Tryd.prog) slInts
  have hl : layB i Ls.length = true := decide_eq_true ⟨by omega, by omega⟩
  obtain ⟨e1, e2, e3⟩ := fitsB_true h
  have hbb := beneath_bd hS hi
  have hwb := wideOf_bd (nthY Ls i).length
  have b1 : ((z.length : Int) != wideOf (nthY Ls i).length) = false := by rw [bne_eq_false_iff_eq]; exact e1
  have b2 : ((x.length : Int) != beneath wd Ls i) = false := by rw [bne_eq_false_iff_eq]; exact e2
  have b3 : ((y.length : Int) != beneath wd Ls i) = false := by rw [bne_eq_false_iff_eq]; exact e3
  have lz : z.length ≤ 30 := by omega
  have lx : x.length ≤ 30 := by omega
  have ly : y.length ≤ 30 := by omega
  have hk2 : kind = 0 ∨ kind = 1 := of_decide_eq_true hk
  have c0 := cell_new w #[.int .i64 wd, .slice ao Ls.length cap] 80 0
  have c1 := cell_new w #[.int .i64 wd, .slice ao Ls.length cap] 80 1
  clear hv hE h hk hz hx hy hf hS e1 e2 e3 hbb hwb
  rcases hk2 with rfl | rfl
  all_goals
    go_enter Tryd.func38, Tryd.ntmps38
    go_wp2_with (first | (go_at_call 109; refine (checked_any _ _ Ls R _ (HV.out.ext (Ext.alloc _ _))).mono ?_; rw [E.out]; rintro e w2 ⟨rfl, hx2⟩; replace c0 : w2.cell? ⟨w.heap.size, 0, none⟩ = some (.int .i64 wd) := hx2.cell c0; replace c1 : w2.cell? ⟨w.heap.size, 1, none⟩ = some (.slice ao Ls.length cap) := hx2.cell c1; replace hx2 := (Ext.alloc _ _).trans hx2) | (go_at_call 110; refine (isLayer_any wd _ Ls R i _ (HV.out.ext hx2)).mono ?_; rw [hl]; rintro e w3 ⟨rfl, hx3⟩; replace c0 := hx3.cell c0; replace c1 := hx3.cell c1; replace hx3 := hx2.trans hx3))
    refine (vars_below wd _ Ls R i _ (HV.out.ext hx3) hi).mono ?_
    rintro e w4 ⟨rfl, hx4⟩
    replace c0 := hx4.cell c0
    replace c1 := hx4.cell c1
    replace hx4 := hx3.trans hx4
    go_wp2_with fail
    refine (vars_any wd _ Ls R i _ (HV.out.ext hx4) hi).mono ?_
    rintro e w5 ⟨rfl, hx5⟩
    replace c0 := hx5.cell c0
    replace c1 := hx5.cell c1
    replace hx5 := hx4.trans hx5
    go_wp2_with (go_at_call 112; refine (wire_any (C.out.ext hx5) wd _ Ls R i _ vz vx vy z x y (HV.out.ext hx5) hi HE.out (HZ.out.ext hx5) (HX.out.ext hx5) (HY.out.ext hx5) lz lx ly).mono ?_; rintro e w6 ⟨rfl, hx6⟩)
    go_ret2
    exact ⟨rfl, hx5.trans hx6⟩
end Go.Proofs.YthjemncbphdomaaDoor
