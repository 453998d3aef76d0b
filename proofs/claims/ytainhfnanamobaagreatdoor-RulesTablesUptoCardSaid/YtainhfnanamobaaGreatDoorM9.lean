/- The program's machine: a stop that is caught. -/
import Derived.Test.YtainhfnanamobaaGreatDoorM8
import Derived.Defers
import Derived.Recover
namespace Go.Att
open Go.RowKit
/-- What the deferred call leaves of a stop. -/
def StopCaught (ts te tp ti tr : TypeId) (w : World) (k : Int) (r1 r2 r3 : Nat) (older : List PanicEntry) (e : Ending) (u' : FrameMode) (w' : World) : Prop :=
  e = .returned (.tuple #[]) ∧ u' = .panicking ({ v := .iface ts (.agg #[.int .i64 k]), recovered := true } :: older) ∧ BlkOf w' r1 [.pointer none] tp ∧ BlkOf w' r2 [.int .i64 0] ti ∧ BlkOf w' r3 [.iface te (.int .i64 k)] tr ∧ ∀ w0, Ext w0 w → w0.heap.size ≤ r1 → w0.heap.size ≤ r2 → w0.heap.size ≤ r3 → Ext w0 w'
end Go.Att
namespace Go.Proofs.YtainhfnanamobaaGreatDoor
open Go.RowKit Go.Att Go.Maps
attribute [local go_sem ↓] Go.wp_at_zero Go.wp_at_succ
theorem rep15 : Array.replicate 15 undef = #[undef, undef, undef, undef, undef, undef, undef, undef, undef, undef, undef, undef, undef, undef, undef] := rfl
theorem rep12m : Array.replicate 12 undef = #[undef, undef, undef, undef, undef, undef, undef, undef, undef, undef, undef, undef] := rfl
set_option maxRecDepth 100000 in
set_option maxHeartbeats 1000000 in
theorem mcatch_idle (p q r : Value) (w : World) :
    CallsD Tryz.prog 113 #[p, q, r] .returning w fun e u' w' => e = .returned (.tuple #[]) ∧ u' = .returning ∧ w = w' := by
  refine callsD_of_wpS Tryz.func113 rfl fun c₀ cs hu => ?_
  apply wpS_seq
  apply wpS_region
  simp [wpOpsS, go_sem, recoverD, hu, Tryz.ntmps113, Exit.thenS, rep12m]
  refine wpS_of_wp ?_
  go_wp2_with fail
  cases c₀ with
  | mk a1 a2 a3 a4 a5 a6 a7 =>
  have hu' : a5 = .returning := hu
  subst hu'
  refine ⟨rfl, .returning, rfl, .tuple #[], ?_, rfl, rfl, rfl⟩
  simp [results, Tryz.results113]
set_option maxRecDepth 100000 in
set_option maxHeartbeats 1000000 in
theorem mcatch_stops (r1 r2 r3 : Nat) (k : Int) (older : List PanicEntry) (w : World) {v1 v2 v3 : Value} (h1 : BlkOf w r1 [v1] 117) (h2 : BlkOf w r2 [v2] 3) (h3 : BlkOf w r3 [v3] 32) (n1 : r1 ≠ r2) (n2 : r1 ≠ r3) (n3 : r2 ≠ r3) :
    CallsD Tryz.prog 113 #[.pointer (some ⟨r1, 0, none⟩), .pointer (some ⟨r2, 0, none⟩), .pointer (some ⟨r3, 0, none⟩)] (.panicking ({ v := .iface 164 (.agg #[.int .i64 k]), recovered := false } :: older)) w (StopCaught 164 77 117 3 32 w k r1 r2 r3 older) := by
  have hta : ∀ w, (Instr.typeAssert (.iface 164 (.agg #[.int .i64 k])) 20 164 true).run Tryz.prog w = .ok (.tuple #[.agg #[.int .i64 k], .bool true]) w := fun _ => by kernel_rfl
  have hx := Ext.alloc w (Obj.cells #[.int .i64 k] 164)
  have hz := h1.ext hx
  have c1 : (w.alloc (Obj.cells #[.int .i64 k] 164)).cell? ⟨r1, 0, none⟩ = some v1 := (h1.ext hx).cell 0
  have c2 : (w.alloc (Obj.cells #[.int .i64 k] 164)).cell? ⟨r2, 0, none⟩ = some v2 := (h2.ext hx).cell 0
  have c3 : (w.alloc (Obj.cells #[.int .i64 k] 164)).cell? ⟨r3, 0, none⟩ = some v3 := (h3.ext hx).cell 0
  have f1 := (h1.ext hx).free 0
  have f2 := (h2.ext hx).free 0
  have f3 := (h3.ext hx).free 0
  have m1 := h1.lt; have m2 := h2.lt; have m3 := h3.lt
  have HX := Lib.hid hx; have HA := Lib.hid h1; have HB := Lib.hid h2; have HC := Lib.hid h3
  clear hx h1 h2 h3 hz
  refine callsD_of_wpS Tryz.func113 rfl fun c₀ cs hu => ?_
  apply wpS_seq
  apply wpS_region
  simp [wpOpsS, go_sem, recoverD, hu, Tryz.ntmps113, Exit.thenS, rep12m]
  refine wpS_of_wp ?_
  go_wp2_with fail
  have s0 : (w.alloc (Obj.cells #[.int .i64 k] 164)).cell? ⟨w.heap.size, 0, none⟩ = some (.int .i64 k) := (BlkOf.new w [.int .i64 k] 164).cell 0
  have g1 : w.heap.size ≠ r1 := by omega
  have g2 : w.heap.size ≠ r2 := by omega
  have g3 : w.heap.size ≠ r3 := by omega
  replace HA := Lib.hid (HA.out.ext HX.out); replace HB := Lib.hid (HB.out.ext HX.out); replace HC := Lib.hid (HC.out.ext HX.out)
  clear m1 m2 m3 hta
  generalize w.alloc (Obj.cells #[.int .i64 k] 164) = W at *
  generalize w.heap.size = sb at *
  have k1 := g1.symm
  have k2 := g2.symm
  have k3 := g3.symm
  go_region_held3 (fun w' => w'.cell? ⟨sb, 0, none⟩ = some (.int .i64 k)) (first | exact s0 | exact (World.cell?_setCell_other _ _ _ _ (by simp)).trans s0 | exact (World.cell?_setCell_other _ _ _ _ (by simp)).trans ((World.cell?_setCell_other _ _ _ _ (by simp)).trans s0) | exact (World.cell?_setCell_other _ _ _ _ (by simp)).trans ((World.cell?_setCell_other _ _ _ _ (by simp)).trans ((World.cell?_setCell_other _ _ _ _ (by simp)).trans s0))) (fail)
  rename_i hHeld; clear hHeld
  go_wp2_with fail
  have G1 := setCell_grown W r1 0 (.pointer none)
  have G2 := setCell_grown (W.setCell ⟨r1, 0, none⟩ (.pointer none)) r2 0 (.int .i64 0)
  have G3 := setCell_grown ((W.setCell ⟨r1, 0, none⟩ (.pointer none)).setCell ⟨r2, 0, none⟩ (.int .i64 0)) r3 0 (.iface 77 (.int .i64 k))
  have X4 := Ext.drew (((W.setCell ⟨r1, 0, none⟩ (.pointer none)).setCell ⟨r2, 0, none⟩ (.int .i64 0)).setCell ⟨r3, 0, none⟩ (.iface 77 (.int .i64 k)))
  have B1 : BlkOf (((W.setCell ⟨r1, 0, none⟩ (.pointer none)).setCell ⟨r2, 0, none⟩ (.int .i64 0)).setCell ⟨r3, 0, none⟩ (.iface 77 (.int .i64 k))).drew r1 [.pointer none] 117 := (((HA.out.set 0 (.pointer none)).grown G2 (fun e => n1 (Option.some.inj e))).grown G3 (fun e => n2 (Option.some.inj e))).ext X4
  have B2 : BlkOf (((W.setCell ⟨r1, 0, none⟩ (.pointer none)).setCell ⟨r2, 0, none⟩ (.int .i64 0)).setCell ⟨r3, 0, none⟩ (.iface 77 (.int .i64 k))).drew r2 [.int .i64 0] 3 := (((HB.out.grown G1 (fun e => n1 (Option.some.inj e).symm)).set 0 (.int .i64 0)).grown G3 (fun e => n3 (Option.some.inj e))).ext X4
  have B3 : BlkOf (((W.setCell ⟨r1, 0, none⟩ (.pointer none)).setCell ⟨r2, 0, none⟩ (.int .i64 0)).setCell ⟨r3, 0, none⟩ (.iface 77 (.int .i64 k))).drew r3 [.iface 77 (.int .i64 k)] 32 := (((HC.out.grown G1 (fun e => n2 (Option.some.inj e).symm)).grown G2 (fun e => n3 (Option.some.inj e).symm)).set 0 (.iface 77 (.int .i64 k))).ext X4
  refine ⟨rfl, _, rfl, .tuple #[], ?_, rfl, rfl, B1, B2, B3, ?_⟩
  · simp [results, Tryz.results113]
  · intro w0 hx h1 h2 h3
    exact Ext.trans (Below.setCell (Below.setCell (Below.setCell (hx.trans HX.out) h1 _) h2 _) h3 _) X4
end Go.Proofs.YtainhfnanamobaaGreatDoor
