/- How much of the gates there is anywhere, the program's side: Wire with its faults. -/
import Derived.Test.YthjemncbphdomaaDoorC11
namespace Go.Att
open Go.RowKit
def kindB (k : Int) : Bool := decide (k = 0 ∨ k = 1)
/-- Do the points fit the layer? -/
def fitsB (wd : Int) (Ls : List (List Tri)) (i : Nat) (z x y : List Int) : Bool := decide ((z.length : Int) = wideOf (nthY Ls i).length ∧ (x.length : Int) = beneath wd Ls i ∧ (y.length : Int) = beneath wd Ls i)
end Go.Att
namespace Go.Proofs.YthjemncbphdomaaDoor
open Go.RowKit Go.Att

set_option maxRecDepth 100000 in
set_option maxHeartbeats 1000000 in
theorem Wire_e1 (f : Value) (wd : Int) (lv vz vx vy : Value) (Ls : List (List Tri)) (R : Nat → Value) (layer kind : Int) (w : World) (hv : LysAt w lv Ls R) (hE : cirErr wd Ls ≠ 0) :
    Calls Tryd.prog 38 #[f, .agg #[.int .i64 wd, lv], .int .i64 layer, .int .i64 kind, vz, vx, vy] w fun e w' => e = .returned (.tuple #[.int .i64 0, errv (cirErr wd Ls)]) ∧ Ext w w' := by
  have HV := Lib.hid hv
  obtain ⟨ao, cap, rfl⟩ := hv.shape
  have E := Lib.hid (errv_pos hE)
  rw [E.out]
  clear hv hE
  go_enter Tryd.func38, Tryd.ntmps38
  go_wp2_with (go_at_call 109; refine (checked_any _ _ Ls R _ (HV.out.ext (Ext.alloc _ _))).mono ?_; rw [E.out]; rintro e w2 ⟨rfl, hx2⟩)
  go_ret2
  exact ⟨rfl, (Ext.alloc _ _).trans hx2⟩

set_option maxRecDepth 100000 in
set_option maxHeartbeats 2000000 in
theorem Wire_e3 (f : Value) (wd : Int) (lv vz vx vy : Value) (Ls : List (List Tri)) (R : Nat → Value) (layer kind : Int) (w : World) (hv : LysAt w lv Ls R) (hE : cirErr wd Ls = 0) (h : layB layer Ls.length = false ∨ kindB kind = false) :
    Calls Tryd.prog 38 #[f, .agg #[.int .i64 wd, lv], .int .i64 layer, .int .i64 kind, vz, vx, vy] w fun e w' => e = .returned (.tuple #[.int .i64 0, errv 3]) ∧ Ext w w' := by
  have HV := Lib.hid hv
  obtain ⟨ao, cap, rfl⟩ := hv.shape
  have E := Lib.hid (show errv (cirErr wd Ls) = .nilIface by rw [hE, errv_zero])
  rw [errv_pos (by decide)]
  clear hv hE
  have c0 := cell_new w #[.int .i64 wd, .slice ao Ls.length cap] 80 0
  have c1 := cell_new w #[.int .i64 wd, .slice ao Ls.length cap] 80 1
  cases hl : layB layer Ls.length with
  | false =>
    clear h
    go_enter Tryd.func38, Tryd.ntmps38
    go_wp2_with (first | (go_at_call 109; refine (checked_any _ _ Ls R _ (HV.out.ext (Ext.alloc _ _))).mono ?_; rw [E.out]; rintro e w2 ⟨rfl, hx2⟩; replace c0 : w2.cell? ⟨w.heap.size, 0, none⟩ = some (.int .i64 wd) := hx2.cell c0; replace c1 : w2.cell? ⟨w.heap.size, 1, none⟩ = some (.slice ao Ls.length cap) := hx2.cell c1; replace hx2 := (Ext.alloc _ _).trans hx2) | (go_at_call 110; refine (isLayer_any wd _ Ls R layer _ (HV.out.ext hx2)).mono ?_; rw [hl]; rintro e w3 ⟨rfl, hx3⟩))
    go_ret2
    exact ⟨rfl, hx2.trans hx3⟩
  | true =>
    have hk : kindB kind = false := by rcases h with h | h; rw [hl] at h; cases h; exact h
    clear h
    have hk2 : ¬ (kind = 0 ∨ kind = 1) := of_decide_eq_false hk
    have b0 : (kind != 0) = true := by rw [bne_iff_ne]; exact fun e => hk2 (.inl e)
    have b1 : (kind != 1) = true := by rw [bne_iff_ne]; exact fun e => hk2 (.inr e)
    clear hk hk2
    go_enter Tryd.func38, Tryd.ntmps38
    go_wp2_with (first | (go_at_call 109; refine (checked_any _ _ Ls R _ (HV.out.ext (Ext.alloc _ _))).mono ?_; rw [E.out]; rintro e w2 ⟨rfl, hx2⟩; replace c0 : w2.cell? ⟨w.heap.size, 0, none⟩ = some (.int .i64 wd) := hx2.cell c0; replace c1 : w2.cell? ⟨w.heap.size, 1, none⟩ = some (.slice ao Ls.length cap) := hx2.cell c1; replace hx2 := (Ext.alloc _ _).trans hx2) | (go_at_call 110; refine (isLayer_any wd _ Ls R layer _ (HV.out.ext hx2)).mono ?_; rw [hl]; rintro e w3 ⟨rfl, hx3⟩))
    go_ret2
    exact ⟨rfl, hx2.trans hx3⟩
end Go.Proofs.YthjemncbphdomaaDoor
