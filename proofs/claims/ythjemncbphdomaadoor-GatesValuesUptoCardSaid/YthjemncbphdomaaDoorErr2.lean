/- The number of an error, told: contracts. -/
import Derived.Test.YthjemncbphdomaaDoorErr
namespace Go.Proofs.YthjemncbphdomaaDoor
open Go.RowKit Go.Att

/-- The package errors' one variable holds the type of errors. -/
def Hnd (w : World) : Prop := w.cell? ⟨0, 0, none⟩ = some (.iface 264 (.agg #[.pointer (some ⟨1, 46, none⟩)]))
theorem Hnd.ext {w w' : World} (h : Hnd w) (hx : Ext w w') : Hnd w' := hx.cell h
/-- An error of a number; of 0 there is none. -/
def errv (k : Int) : Value := if k = 0 then .nilIface else .iface 140 (.int .i64 k)
theorem errv_zero : errv 0 = .nilIface := rfl
theorem errv_pos {k : Int} (h : k ≠ 0) : errv k = .iface 140 (.int .i64 k) := if_neg h

theorem told_nil (w : World) : Calls Tryd.prog 89 #[.nilIface] w fun e w' => e = .returned (.int .i64 0) ∧ w = w' := by
  go_enter Tryd.func89, Tryd.ntmps89
  go_wp2
  go_ret
  exact ⟨rfl, rfl⟩

set_option maxHeartbeats 1000000 in
theorem told_some (k : Int) (w : World) (hg : Hnd w) : Calls Tryd.prog 89 #[.iface 140 (.int .i64 k)] w fun e w' => e = .returned (.int .i64 k) ∧ Ext w w' := by
  have hA : (w.alloc (.cells #[.int .i64 0] 140)).cell? ⟨0, 0, none⟩ = some (.iface 264 (.agg #[.pointer (some ⟨1, 46, none⟩)])) := (Ext.alloc _ _).cell hg
  have htA : (w.alloc (.cells #[.int .i64 0] 140)).cell? ⟨w.heap.size, 0, none⟩ = some (.int .i64 0) := by simp
  have hfA : (w.alloc (.cells #[.int .i64 0] 140)).frozen? ⟨w.heap.size, 0, none⟩ = false := by simp
  have C := Lib.hid (as_hit k ⟨w.heap.size, 0, none⟩ (.int .i64 0) _ hA htA hfA)
  clear hg hA htA hfA
  go_enter Tryd.func89, Tryd.ntmps89
  go_wp2_with (go_at_call 141; refine C.out.mono ?_; rintro e w' ⟨rfl, rfl⟩)
  go_ret
  refine ⟨rfl, ?_⟩
  repeat (refine Below.alloc ?_ (by first | exact Nat.le_refl _ | (simp only [World.size_alloc]; omega)) _)
  exact Below.refl _ _

set_option maxHeartbeats 400000 in
theorem error_any (k n : Int) (w : World) (hg : Hnd w) :
    Calls Tryd.prog 24 #[errv k, .int .i64 n] w fun e w' => e = .returned (.bool (k == n)) ∧ Ext w w' := by
  have HG := Lib.hid hg; clear hg
  by_cases hk : k = 0
  · subst hk
    rw [errv_zero]
    go_enter Tryd.func24, Tryd.ntmps24
    go_wp2_with (go_at_call 89; refine (told_nil _).mono ?_; rintro e w' ⟨rfl, rfl⟩)
    go_ret
    exact ⟨rfl, Ext.refl _⟩
  · rw [errv_pos hk]
    clear hk
    go_enter Tryd.func24, Tryd.ntmps24
    go_wp2_with (go_at_call 89; refine (told_some _ _ HG.out).mono ?_; rintro e w' ⟨rfl, hx⟩)
    go_ret
    exact ⟨rfl, hx⟩
end Go.Proofs.YthjemncbphdomaaDoor
