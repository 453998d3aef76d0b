/- How much of the gates there is anywhere, the program's side: Wire with its faults. -/
import Derived.Test.YthjemncbphdomaaDoorCe
/-! How much of the gates there is anywhere, the program's side: Wire with its faults. -/
namespace Go.Att
open Go.RowKit
def kindB (k : Int) : Bool := decide (k = 0 ∨ k = 1)
/-- Do the points fit the layer? -/
def fitsB (wd : Int) (Ls : List (List Tri)) (i : Nat) (z x y : List Int) : Bool := decide ((z.length : Int) = wideOf (nthY Ls i).length ∧ (x.length : Int) = beneath wd Ls i ∧ (y.length : Int) = beneath wd Ls i)
end Go.Att
namespace Go.Proofs.YthjemncbphdomaaDoor
open Go.RowKit Go.Att

set_option maxRecDepth 100000 in
set_option maxHeartbeats 1000000 in
theorem Wire_e1 (f : Value) (wd : Int) (lv vz vx vy : Value) (Ls : List (List Tri)) (R : Nat → Value) (layer kind : Int) (w : World) (hv : LysAt w lv Ls R) (hE : cirErr wd Ls ≠ 0) :
    Calls Tryd.prog 38 #[f, .agg #[.int .i64 wd, lv], .int .i64 layer, .int .i64 kind, vz, vx, vy] w fun e w' => e = .returned (.tuple #[.int .i64 0, errv (cirErr wd Ls)]) ∧ Ext w w' := by
  have HV := Lib.hid hv
  obtain ⟨ao, cap, rfl⟩ := hv.shape
  have E := Lib.hid (errv_pos hE)
  rw [E.out]
  clear hv hE
  go_enter Tryd.func38, Tryd.ntmps38
  go_wp2_with (go_at_call 109; refine (checked_any _ _ Ls R _ (HV.out.ext (Ext.alloc _ _))).mono ?_; rw [E.out]; rintro e w2 ⟨rfl, hx2⟩)
  go_ret2
  exact ⟨rfl, (Ext.alloc _ _).trans hx2⟩

set_option maxRecDepth 100000 in
set_option maxHeartbeats 2000000 in
theorem Wire_e3 (f : Value) (wd : Int) (lv vz vx vy : Value) (Ls : List (List Tri)) (R : Nat → Value) (layer kind : Int) (w : World) (hv : LysAt w lv Ls R) (hE : cirErr wd Ls = 0) (h : layB layer Ls.length = false ∨ kindB kind = false) :
    Calls Tryd.prog 38 #[f, .agg #[.int .i64 wd, lv], .int .i64 layer, .int .i64 kind, vz, vx, vy] w fun e w' => e = .returned (.tuple #[.int .i64 0, errv 3]) ∧ Ext w w' := by
  have HV := Lib.hid hv
  obtain ⟨ao, cap, rfl⟩ := hv.shape
  have E := Lib.hid (show errv (cirErr wd Ls) = .nilIface by rw [hE, errv_zero])
  rw [errv_pos (by decide)]
  clear hv hE
  have c0 := cell_new w #[.int .i64 wd, .slice ao Ls.length cap] 80 0
  have c1 := cell_new w #[.int .i64 wd, .slice ao Ls.length cap] 80 1
  cases hl : layB layer Ls.length with
  | false =>
    clear h
    go_enter Tryd.func38, Tryd.ntmps38
    go_wp2_with (first | (go_at_call 109; refine (checked_any _ _ Ls R _ (HV.out.ext (Ext.alloc _ _))).mono ?_; rw [E.out]; rintro e w2 ⟨rfl, hx2⟩; replace c0 : w2.cell? ⟨w.heap.size, 0, none⟩ = some (.int .i64 wd) := hx2.cell c0; replace c1 : w2.cell? ⟨w.heap.size, 1, none⟩ = some (.slice ao Ls.length cap) := hx2.cell c1; replace hx2 := (Ext.alloc _ _).trans hx2) | (go_at_call 110; refine (isLayer_any wd _ Ls R layer _ (HV.out.ext hx2)).mono ?_; rw [hl]; rintro e w3 ⟨rfl, hx3⟩))
    go_ret2
    exact ⟨rfl, hx2.trans hx3⟩
  | true =>
    have hk : kindB kind = false := by rcases h with h | h; rw [hl] at h; cases h; exact h
    clear h
    have hk2 : ¬ (kind = 0 ∨ kind = 1) := of_decide_eq_false hk
    have b0 : (kind != 0) = true := by rw [bne_iff_ne]; exact fun e => hk2 (.inl e)
    have b1 : (kind != 1) = true := by rw [bne_iff_ne]; exact fun e => hk2 (.inr e)
    clear hk hk2
    go_enter Tryd.func38, Tryd.ntmps38
    go_wp2_with (first | (go_at_call 109; refine (checked_any _ _ Ls R _ (HV.out.ext (Ext.alloc _ _))).mono ?_; rw [E.out]; rintro e w2 ⟨rfl, hx2⟩; replace c0 : w2.cell? ⟨w.heap.size, 0, none⟩ = some (.int .i64 wd) := hx2.cell c0; replace c1 : w2.cell? ⟨w.heap.size, 1, none⟩ = some (.slice ao Ls.length cap) := hx2.cell c1; replace hx2 := (Ext.alloc _ _).trans hx2) | (go_at_call 110; refine (isLayer_any wd _ Ls R layer _ (HV.out.ext hx2)).mono ?_; rw [hl]; rintro e w3 ⟨rfl, hx3⟩))
    go_ret2
    exact ⟨rfl, hx2.trans hx3⟩
end Go.Proofs.YthjemncbphdomaaDoor
/-! How much of the gates there is anywhere, the program's side: Wire, the points' sizes. -/
namespace Go.Att
open Go.RowKit
theorem fitsB_true {wd : Int} {Ls : List (List Tri)} {i : Nat} {z x y : List Int} (h : fitsB wd Ls i z x y = true) : (z.length : Int) = wideOf (nthY Ls i).length ∧ (x.length : Int) = beneath wd Ls i ∧ (y.length : Int) = beneath wd Ls i := of_decide_eq_true h
theorem fitsB_false {wd : Int} {Ls : List (List Tri)} {i : Nat} {z x y : List Int} (h : fitsB wd Ls i z x y = false) : ¬ ((z.length : Int) = wideOf (nthY Ls i).length ∧ (x.length : Int) = beneath wd Ls i ∧ (y.length : Int) = beneath wd Ls i) := of_decide_eq_false h
end Go.Att
namespace Go.Proofs.YthjemncbphdomaaDoor
open Go.RowKit Go.Att

/-- variables(c, layer - 1): those beneath. -/
theorem vars_below (wd : Int) (lv : Value) (Ls : List (List Tri)) (R : Nat → Value) (i : Nat) (w : World) (hv : LysAt w lv Ls R) (hi : i < Ls.length) :
    Calls Tryd.prog 111 #[.agg #[.int .i64 wd, lv], .int .i64 ((i : Int) - 1)] w fun e w' => e = .returned (.int .i64 (beneath wd Ls i)) ∧ Ext w w' := by
  unfold beneath
  by_cases h0 : i = 0
  · rw [if_pos h0]; exact vars_low wd lv Ls R _ w hv (by omega)
  · rw [if_neg h0, show (i : Int) - 1 = ((i - 1 : Nat) : Int) by omega]; exact vars_any wd lv Ls R _ w hv (by omega)

set_option maxRecDepth 100000 in
set_option maxHeartbeats 4000000 in
theorem Wire_e2 (f : Value) (wd : Int) (lv vz vx vy : Value) (Ls : List (List Tri)) (R : Nat → Value) (i : Nat) (kind : Int) (z x y : List Int) (w : World) (hv : LysAt w lv Ls R) (hE : cirErr wd Ls = 0) (hi : i < Ls.length) (hk : kindB kind = true) (hz : Ints w vz z) (hx : Ints w vx x) (hy : Ints w vy y) (h : fitsB wd Ls i z x y = false) :
    Calls Tryd.prog 38 #[f, .agg #[.int .i64 wd, lv], .int .i64 i, .int .i64 kind, vz, vx, vy] w fun e w' => e = .returned (.tuple #[.int .i64 0, errv 2]) ∧ Ext w w' := by
  have HV := Lib.hid hv
  have hlen := hv.len
  obtain ⟨ao, cap, rfl⟩ := hv.shape
  have E := Lib.hid (show errv (cirErr wd Ls) = .nilIface by rw [hE, errv_zero])
  have hlz := hz.run_len (P := Tryd.prog) slInts
  have hlx := hx.run_len (P := Tryd.prog) slInts
  have hly := hy.run_len (P := Tryd.prog) slInts
  have hl : layB i Ls.length = true := decide_eq_true ⟨by omega, by omega⟩
  rw [errv_pos (by decide)]
  have hF := fitsB_false h
  have hk2 : kind = 0 ∨ kind = 1 := of_decide_eq_true hk
  have c0 := cell_new w #[.int .i64 wd, .slice ao Ls.length cap] 80 0
  have c1 := cell_new w #[.int .i64 wd, .slice ao Ls.length cap] 80 1
  clear hv hE h hk hz hx hy
  have bad : (((z.length : Int) != wideOf (nthY Ls i).length) = true) ∨ (((z.length : Int) != wideOf (nthY Ls i).length) = false ∧ ((x.length : Int) != beneath wd Ls i) = true) ∨ (((z.length : Int) != wideOf (nthY Ls i).length) = false ∧ ((x.length : Int) != beneath wd Ls i) = false ∧ ((y.length : Int) != beneath wd Ls i) = true) := by
    simp only [bne_iff_ne, bne_eq_false_iff_eq, ne_eq]
    by_cases h1 : (z.length : Int) = wideOf (nthY Ls i).length
    · by_cases h2 : (x.length : Int) = beneath wd Ls i
      · exact .inr (.inr ⟨h1, h2, fun h3 => hF ⟨h1, h2, h3⟩⟩)
      · exact .inr (.inl ⟨h1, h2⟩)
    · exact .inl h1
  clear hF
  rcases hk2 with rfl | rfl
  all_goals
    rcases bad with b1 | ⟨b1, b2⟩ | ⟨b1, b2, b3⟩
    all_goals
      go_enter Tryd.func38, Tryd.ntmps38
      go_wp2_with (first | (go_at_call 109; refine (checked_any _ _ Ls R _ (HV.out.ext (Ext.alloc _ _))).mono ?_; rw [E.out]; rintro e w2 ⟨rfl, hx2⟩; replace c0 : w2.cell? ⟨w.heap.size, 0, none⟩ = some (.int .i64 wd) := hx2.cell c0; replace c1 : w2.cell? ⟨w.heap.size, 1, none⟩ = some (.slice ao Ls.length cap) := hx2.cell c1; replace hx2 := (Ext.alloc _ _).trans hx2) | (go_at_call 110; refine (isLayer_any wd _ Ls R i _ (HV.out.ext hx2)).mono ?_; rw [hl]; rintro e w3 ⟨rfl, hx3⟩; replace c0 := hx3.cell c0; replace c1 := hx3.cell c1; replace hx3 := hx2.trans hx3))
      refine (vars_below wd _ Ls R i _ (HV.out.ext hx3) hi).mono ?_
      rintro e w4 ⟨rfl, hx4⟩
      replace c0 := hx4.cell c0
      replace c1 := hx4.cell c1
      replace hx4 := hx3.trans hx4
      go_wp2_with fail
      refine (vars_any wd _ Ls R i _ (HV.out.ext hx4) hi).mono ?_
      rintro e w5 ⟨rfl, hx5⟩
      replace hx5 := hx4.trans hx5
      go_wp2_with fail
      go_ret2
      exact ⟨rfl, hx5⟩
end Go.Proofs.YthjemncbphdomaaDoor
/-! How much of the gates there is anywhere, the program's side: Wire where all fits. -/
namespace Go.Proofs.YthjemncbphdomaaDoor
open Go.RowKit Go.Att

set_option maxRecDepth 100000 in
set_option maxHeartbeats 4000000 in
theorem Wire_ok {f : Value} {p g : Int} {fs : List Int} (wd : Int) (lv vz vx vy : Value) (Ls : List (List Tri)) (R : Nat → Value) (i : Nat) (kind : Int) (z x y : List Int) (w : World) (hf : Fld w f p g fs) (hv : LysAt w lv Ls R) (hE : cirErr wd Ls = 0) (hi : i < Ls.length) (hk : kindB kind = true) (hz : Ints w vz z) (hx : Ints w vx x) (hy : Ints w vy y) (h : fitsB wd Ls i z x y = true) :
    Calls Tryd.prog 38 #[f, .agg #[.int .i64 wd, lv], .int .i64 i, .int .i64 kind, vz, vx, vy] w fun e w' => e = .returned (.tuple #[.int .i64 (wireU (nthY Ls i) kind z x y (nthY Ls i).length % p), .nilIface]) ∧ Ext w w' := by
  obtain ⟨hS, -⟩ := cirErr_ok hE
  have HV := Lib.hid hv; have C := Lib.hid hf; have HE := Lib.hid hE; have HZ := Lib.hid hz; have HX := Lib.hid hx; have HY := Lib.hid hy
  have hlen := hv.len
  obtain ⟨ao, cap, rfl⟩ := hv.shape
  have E := Lib.hid (show errv (cirErr wd Ls) = .nilIface by rw [hE, errv_zero])
  have hlz := hz.run_len (P := Tryd.prog) slInts
  have hlx := hx.run_len (P := Tryd.prog) slInts
  have hly := hy.run_len (P := Tryd.prog) slInts
  have hl : layB i Ls.length = true := decide_eq_true ⟨by omega, by omega⟩
  obtain ⟨e1, e2, e3⟩ := fitsB_true h
  have hbb := beneath_bd hS hi
  have hwb := wideOf_bd (nthY Ls i).length
  have b1 : ((z.length : Int) != wideOf (nthY Ls i).length) = false := by rw [bne_eq_false_iff_eq]; exact e1
  have b2 : ((x.length : Int) != beneath wd Ls i) = false := by rw [bne_eq_false_iff_eq]; exact e2
  have b3 : ((y.length : Int) != beneath wd Ls i) = false := by rw [bne_eq_false_iff_eq]; exact e3
  have lz : z.length ≤ 30 := by omega
  have lx : x.length ≤ 30 := by omega
  have ly : y.length ≤ 30 := by omega
  have hk2 : kind = 0 ∨ kind = 1 := of_decide_eq_true hk
  have c0 := cell_new w #[.int .i64 wd, .slice ao Ls.length cap] 80 0
  have c1 := cell_new w #[.int .i64 wd, .slice ao Ls.length cap] 80 1
  clear hv hE h hk hz hx hy hf hS e1 e2 e3 hbb hwb
  rcases hk2 with rfl | rfl
  all_goals
    go_enter Tryd.func38, Tryd.ntmps38
    go_wp2_with (first | (go_at_call 109; refine (checked_any _ _ Ls R _ (HV.out.ext (Ext.alloc _ _))).mono ?_; rw [E.out]; rintro e w2 ⟨rfl, hx2⟩; replace c0 : w2.cell? ⟨w.heap.size, 0, none⟩ = some (.int .i64 wd) := hx2.cell c0; replace c1 : w2.cell? ⟨w.heap.size, 1, none⟩ = some (.slice ao Ls.length cap) := hx2.cell c1; replace hx2 := (Ext.alloc _ _).trans hx2) | (go_at_call 110; refine (isLayer_any wd _ Ls R i _ (HV.out.ext hx2)).mono ?_; rw [hl]; rintro e w3 ⟨rfl, hx3⟩; replace c0 := hx3.cell c0; replace c1 := hx3.cell c1; replace hx3 := hx2.trans hx3))
    refine (vars_below wd _ Ls R i _ (HV.out.ext hx3) hi).mono ?_
    rintro e w4 ⟨rfl, hx4⟩
    replace c0 := hx4.cell c0
    replace c1 := hx4.cell c1
    replace hx4 := hx3.trans hx4
    go_wp2_with fail
    refine (vars_any wd _ Ls R i _ (HV.out.ext hx4) hi).mono ?_
    rintro e w5 ⟨rfl, hx5⟩
    replace c0 := hx5.cell c0
    replace c1 := hx5.cell c1
    replace hx5 := hx4.trans hx5
    go_wp2_with (go_at_call 112; refine (wire_any (C.out.ext hx5) wd _ Ls R i _ vz vx vy z x y (HV.out.ext hx5) hi HE.out (HZ.out.ext hx5) (HX.out.ext hx5) (HY.out.ext hx5) lz lx ly).mono ?_; rintro e w6 ⟨rfl, hx6⟩)
    go_ret2
    exact ⟨rfl, hx5.trans hx6⟩
end Go.Proofs.YthjemncbphdomaaDoor
