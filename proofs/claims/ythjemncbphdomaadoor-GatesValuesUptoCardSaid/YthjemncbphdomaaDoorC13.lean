/- How much of the gates there is anywhere, the program's side: Wire, the points' sizes. -/
import Derived.Test.YthjemncbphdomaaDoorC12
namespace Go.Att
open Go.RowKit
theorem fitsB_true {wd : Int} {Ls : List (List Tri)} {i : Nat} {z x y : List Int} (h : fitsB wd Ls i z x y = true) : (z.length : Int) = wideOf (nthY Ls i).length ∧ (x.length : Int) = beneath wd Ls i ∧ (y.length : Int) = beneath wd Ls i := of_decide_eq_true h
theorem fitsB_false {wd : Int} {Ls : List (List Tri)} {i : Nat} {z x y : List Int} (h : fitsB wd Ls i z x y = false) : ¬ ((z.length : Int) = wideOf (nthY Ls i).length ∧ (x.length : Int) = beneath wd Ls i ∧ (y.length : Int) = beneath wd Ls i) := of_decide_eq_false h
end Go.Att
namespace Go.Proofs.YthjemncbphdomaaDoor
open Go.RowKit Go.Att

/-- variables(c, layer - 1): those beneath. -/
theorem vars_below (wd : Int) (lv : Value) (Ls : List (List Tri)) (R : Nat → Value) (i : Nat) (w : World) (hv : LysAt w lv Ls R) (hi : i < Ls.length) :
    Calls Tryd.prog 111 #[.agg #[.int .i64 wd, lv], .int .i64 ((i : Int) - 1)] w fun e w' => e = .returned (.int .i64 (beneath wd Ls i)) ∧ Ext w w' := by
  unfold beneath
  by_cases h0 : i = 0
  · rw [if_pos h0]; exact vars_low wd lv Ls R _ w hv (by omega)
  · rw [if_neg h0, show (i : Int) - 1 = ((i - 1 : Nat) : Int) by omega]; exact vars_any wd lv Ls R _ w hv (by omega)

set_option maxRecDepth 100000 in
set_option maxHeartbeats 4000000 in
theorem Wire_e2 (f : Value) (wd : Int) (lv vz vx vy : Value) (Ls : List (List Tri)) (R : Nat → Value) (i : Nat) (kind : Int) (z x y : List Int) (w : World) (hv : LysAt w lv Ls R) (hE : cirErr wd Ls = 0) (hi : i < Ls.length) (hk : kindB kind = true) (hz : Ints w vz z) (hx : Ints w vx x) (hy : Ints w vy y) (h : fitsB wd Ls i z x y = false) :
    Calls Tryd.prog 38 #[f, .agg #[.int .i64 wd, lv], .int .i64 i, .int .i64 kind, vz, vx, vy] w fun e w' => e = .returned (.tuple #[.int .i64 0, errv 2]) ∧ Ext w w' := by
  have HV := Lib.hid hv
  have hlen := hv.len
  obtain ⟨ao, cap, rfl⟩ := hv.shape
  have E := Lib.hid (show errv (cirErr wd Ls) = .nilIface by rw [hE, errv_zero])
  have hlz := hz.run_len (P := Tryd.prog) slInts
  have hlx := hx.run_len (P := Tryd.prog) slInts
  have hly := hy.run_len (P := Tryd.prog) slInts
  have hl : layB i Ls.length = true := decide_eq_true ⟨by omega, by omega⟩
  rw [errv_pos (by decide)]
  have hF := fitsB_false h
  have hk2 : kind = 0 ∨ kind = 1 := of_decide_eq_true hk
  have c0 := cell_new w #[.int .i64 wd, .slice ao Ls.length cap] 80 0
  have c1 := cell_new w #[.int .i64 wd, .slice ao Ls.length cap] 80 1
  clear hv hE h hk hz hx hy
  have bad : (((z.length : Int) != wideOf (nthY Ls i).length) = true) ∨ (((z.length : Int) != wideOf (nthY Ls i).length) = false ∧ ((x.length : Int) != beneath wd Ls i) = true) ∨ (((z.length : Int) != wideOf (nthY Ls i).length) = false ∧ ((x.length : Int) != beneath wd Ls i) = false ∧ ((y.length : Int) != beneath wd Ls i) = true) := by
    simp only [bne_iff_ne, bne_eq_false_iff_eq, ne_eq]
    by_cases h1 : (z.length : Int) = wideOf (nthY Ls i).length
    · by_cases h2 : (x.length : Int) = beneath wd Ls i
      · exact .inr (.inr ⟨h1, h2, fun h3 => hF ⟨h1, h2, h3⟩⟩)
      · exact .inr (.inl ⟨h1, h2⟩)
    · exact .inl h1
  clear hF
  rcases hk2 with rfl | rfl
  all_goals
    rcases bad with b1 | ⟨b1, b2⟩ | ⟨b1, b2, b3⟩
    all_goals
      go_enter Tryd.func38, Tryd.ntmps38
      go_wp2_with (first | (go_at_call 109; refine (checked_any _ _ Ls R _ (HV.out.ext (Ext.alloc _ _))).mono ?_; rw [E.out]; rintro e w2 ⟨rfl, hx2⟩; replace c0 : w2.cell? ⟨w.heap.size, 0, none⟩ = some (.int .i64 wd) := hx2.cell c0; replace c1 : w2.cell? ⟨w.heap.size, 1, none⟩ = some (.slice ao Ls.length cap) := hx2.cell c1; replace hx2 := (Ext.alloc _ _).trans hx2) | (go_at_call 110; refine (isLayer_any wd _ Ls R i _ (HV.out.ext hx2)).mono ?_; rw [hl]; rintro e w3 ⟨rfl, hx3⟩; replace c0 := hx3.cell c0; replace c1 := hx3.cell c1; replace hx3 := hx2.trans hx3))
      refine (vars_below wd _ Ls R i _ (HV.out.ext hx3) hi).mono ?_
      rintro e w4 ⟨rfl, hx4⟩
      replace c0 := hx4.cell c0
      replace c1 := hx4.cell c1
      replace hx4 := hx3.trans hx4
      go_wp2_with fail
      refine (vars_any wd _ Ls R i _ (HV.out.ext hx4) hi).mono ?_
      rintro e w5 ⟨rfl, hx5⟩
      replace hx5 := hx4.trans hx5
      go_wp2_with fail
      go_ret2
      exact ⟨rfl, hx5⟩
end Go.Proofs.YthjemncbphdomaaDoor
