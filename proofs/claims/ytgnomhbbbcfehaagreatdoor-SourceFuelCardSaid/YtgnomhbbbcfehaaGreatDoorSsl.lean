/- A text's reader, the program's side: a fault that is caught: contract. -/
import Derived.Test.YtgnomhbbbcfehaaGreatDoorSsk
import Derived.Defers
import Derived.Recover
namespace Go.Att
open Go.RowKit
def FaultCaught (ts te tp ti tr : TypeId) (w : World) (a k : Int) (r1 r2 r3 : Nat) (older : List PanicEntry) (e : Ending) (u' : FrameMode) (w' : World) : Prop :=
  e = .returned (.tuple #[]) ∧ u' = .panicking ({ v := .iface ts (.agg #[.int .i64 a, .int .i64 k]), recovered := true } :: older) ∧ BlkOf w' r1 [.pointer none] tp ∧ BlkOf w' r2 [.int .i64 a] ti ∧ BlkOf w' r3 [.iface te (.int .i64 k)] tr ∧ ∀ w0, Ext w0 w → w0.heap.size ≤ r1 → w0.heap.size ≤ r2 → w0.heap.size ≤ r3 → Ext w0 w'
end Go.Att
namespace Go.Proofs.YtgnomhbbbcfehaaGreatDoor
open Go.RowKit Go.Att Go.Maps
attribute [local go_sem ↓] Go.wp_at_zero Go.wp_at_succ
theorem rep19p : Array.replicate 19 undef = #[undef, undef, undef, undef, undef, undef, undef, undef, undef, undef, undef, undef, undef, undef, undef, undef, undef, undef, undef] := rfl
set_option maxRecDepth 100000 in
set_option maxHeartbeats 1000000 in
theorem pcatch_idle (p q r : Value) (w : World) :
    CallsD Tryz.prog 23 #[p, q, r] .returning w fun e u' w' => e = .returned (.tuple #[]) ∧ u' = .returning ∧ w = w' := by
  refine callsD_of_wpS Tryz.func23 rfl fun c₀ cs hu => ?_
  apply wpS_seq
  apply wpS_region
  simp [wpOpsS, go_sem, recoverD, hu, Tryz.ntmps23, Exit.thenS, rep19p]
  refine wpS_of_wp ?_
  go_wp2_with fail
  cases c₀ with
  | mk a1 a2 a3 a4 a5 a6 a7 =>
  have hu' : a5 = .returning := hu
  subst hu'
  refine ⟨rfl, .returning, rfl, .tuple #[], ?_, rfl, rfl, rfl⟩
  simp [results, Tryz.results23]
set_option maxRecDepth 100000 in
set_option maxHeartbeats 1000000 in
theorem pcatch_faults (r1 r2 r3 : Nat) (a k : Int) (older : List PanicEntry) (w : World) {v1 v2 v3 : Value} (h1 : BlkOf w r1 [v1] 26) (h2 : BlkOf w r2 [v2] 3) (h3 : BlkOf w r3 [v3] 28) (n1 : r1 ≠ r2) (n2 : r1 ≠ r3) (n3 : r2 ≠ r3) :
    CallsD Tryz.prog 23 #[.pointer (some ⟨r1, 0, none⟩), .pointer (some ⟨r2, 0, none⟩), .pointer (some ⟨r3, 0, none⟩)] (.panicking ({ v := .iface 62 (.agg #[.int .i64 a, .int .i64 k]), recovered := false } :: older)) w (FaultCaught 62 60 26 3 28 w a k r1 r2 r3 older) := by
  have hta : ∀ w, (Instr.typeAssert (.iface 62 (.agg #[.int .i64 a, .int .i64 k])) 20 62 true).run Tryz.prog w = .ok (.tuple #[.agg #[.int .i64 a, .int .i64 k], .bool true]) w := fun _ => by kernel_rfl
  have hx := Ext.alloc w (Obj.cells #[.int .i64 a, .int .i64 k] 62)
  have hz := h1.ext hx
  have c1 : (w.alloc (Obj.cells #[.int .i64 a, .int .i64 k] 62)).cell? ⟨r1, 0, none⟩ = some v1 := (h1.ext hx).cell 0
  have c2 : (w.alloc (Obj.cells #[.int .i64 a, .int .i64 k] 62)).cell? ⟨r2, 0, none⟩ = some v2 := (h2.ext hx).cell 0
  have c3 : (w.alloc (Obj.cells #[.int .i64 a, .int .i64 k] 62)).cell? ⟨r3, 0, none⟩ = some v3 := (h3.ext hx).cell 0
  have f1 := (h1.ext hx).free 0
  have f2 := (h2.ext hx).free 0
  have f3 := (h3.ext hx).free 0
  have m1 := h1.lt; have m2 := h2.lt; have m3 := h3.lt
  have HX := Lib.hid hx; have HA := Lib.hid h1; have HB := Lib.hid h2; have HC := Lib.hid h3
  clear hx h1 h2 h3 hz
  refine callsD_of_wpS Tryz.func23 rfl fun c₀ cs hu => ?_
  apply wpS_seq
  apply wpS_region
  simp [wpOpsS, go_sem, recoverD, hu, Tryz.ntmps23, Exit.thenS, rep19p]
  refine wpS_of_wp ?_
  go_wp2_with fail
  have s0 : (w.alloc (Obj.cells #[.int .i64 a, .int .i64 k] 62)).cell? ⟨w.heap.size, 0, none⟩ = some (.int .i64 a) := (BlkOf.new w [.int .i64 a, .int .i64 k] 62).cell 0
  have s1 : (w.alloc (Obj.cells #[.int .i64 a, .int .i64 k] 62)).cell? ⟨w.heap.size, 1, none⟩ = some (.int .i64 k) := (BlkOf.new w [.int .i64 a, .int .i64 k] 62).cell 1
  have g1 : w.heap.size ≠ r1 := by omega
  have g2 : w.heap.size ≠ r2 := by omega
  have g3 : w.heap.size ≠ r3 := by omega
  replace HA := Lib.hid (HA.out.ext HX.out); replace HB := Lib.hid (HB.out.ext HX.out); replace HC := Lib.hid (HC.out.ext HX.out)
  clear m1 m2 m3 hta
  generalize w.alloc (Obj.cells #[.int .i64 a, .int .i64 k] 62) = W at *
  generalize w.heap.size = sb at *
  have k1 := g1.symm
  have k2 := g2.symm
  have k3 := g3.symm
  have HH : Hid (∀ (W' : World) (r : Nat) (u : Value), r ≠ sb → (W'.cell? ⟨sb, 0, none⟩ = some (.int .i64 a) ∧ W'.cell? ⟨sb, 1, none⟩ = some (.int .i64 k)) → ((W'.setCell ⟨r, 0, none⟩ u).cell? ⟨sb, 0, none⟩ = some (.int .i64 a) ∧ (W'.setCell ⟨r, 0, none⟩ u).cell? ⟨sb, 1, none⟩ = some (.int .i64 k))) := Lib.hid (fun W' r u hne h => ⟨(World.cell?_setCell_other _ _ _ _ (by simp; try omega)).trans h.1, (World.cell?_setCell_other _ _ _ _ (by simp; try omega)).trans h.2⟩)
  go_region_held3 (fun w' => w'.cell? ⟨sb, 0, none⟩ = some (.int .i64 a) ∧ w'.cell? ⟨sb, 1, none⟩ = some (.int .i64 k)) (first | exact ⟨s0, s1⟩ | exact HH.out _ _ _ (by assumption) ⟨s0, s1⟩ | exact HH.out _ _ _ (by assumption) (HH.out _ _ _ (by assumption) ⟨s0, s1⟩) | exact HH.out _ _ _ (by assumption) (HH.out _ _ _ (by assumption) (HH.out _ _ _ (by assumption) ⟨s0, s1⟩))) (fail)
  rename_i hHeld; clear hHeld
  go_wp2_with fail
  have G1 := setCell_grown W r1 0 (.pointer none)
  have G2 := setCell_grown (W.setCell ⟨r1, 0, none⟩ (.pointer none)) r2 0 (.int .i64 a)
  have G3 := setCell_grown ((W.setCell ⟨r1, 0, none⟩ (.pointer none)).setCell ⟨r2, 0, none⟩ (.int .i64 a)) r3 0 (.iface 60 (.int .i64 k))
  have X4 := Ext.drew (((W.setCell ⟨r1, 0, none⟩ (.pointer none)).setCell ⟨r2, 0, none⟩ (.int .i64 a)).setCell ⟨r3, 0, none⟩ (.iface 60 (.int .i64 k)))
  have B1 : BlkOf (((W.setCell ⟨r1, 0, none⟩ (.pointer none)).setCell ⟨r2, 0, none⟩ (.int .i64 a)).setCell ⟨r3, 0, none⟩ (.iface 60 (.int .i64 k))).drew r1 [.pointer none] 26 := (((HA.out.set 0 (.pointer none)).grown G2 (fun e => n1 (Option.some.inj e))).grown G3 (fun e => n2 (Option.some.inj e))).ext X4
  have B2 : BlkOf (((W.setCell ⟨r1, 0, none⟩ (.pointer none)).setCell ⟨r2, 0, none⟩ (.int .i64 a)).setCell ⟨r3, 0, none⟩ (.iface 60 (.int .i64 k))).drew r2 [.int .i64 a] 3 := (((HB.out.grown G1 (fun e => n1 (Option.some.inj e).symm)).set 0 (.int .i64 a)).grown G3 (fun e => n3 (Option.some.inj e))).ext X4
  have B3 : BlkOf (((W.setCell ⟨r1, 0, none⟩ (.pointer none)).setCell ⟨r2, 0, none⟩ (.int .i64 a)).setCell ⟨r3, 0, none⟩ (.iface 60 (.int .i64 k))).drew r3 [.iface 60 (.int .i64 k)] 28 := (((HC.out.grown G1 (fun e => n2 (Option.some.inj e).symm)).grown G2 (fun e => n3 (Option.some.inj e).symm)).set 0 (.iface 60 (.int .i64 k))).ext X4
  refine ⟨rfl, _, rfl, .tuple #[], ?_, rfl, rfl, B1, B2, B3, ?_⟩
  · simp [results, Tryz.results23]
  · intro w0 hx h1 h2 h3
    exact Ext.trans (Below.setCell (Below.setCell (Below.setCell (hx.trans HX.out) h1 _) h2 _) h3 _) X4
end Go.Proofs.YtgnomhbbbcfehaaGreatDoor
