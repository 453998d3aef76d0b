/- errors.As at the target *api.Errno, and what tells an error's number: contracts (turned from the guide's worked example ToyasAs). Words for worlds: a matrix of eight rows of eight numbers in a block of its own. No program in sight. Words for worlds: a slice that the call grows, whose elements may hold slices made meanwhile. No program in sight. Words for worlds: rows of the call's own that grow, within a slice of the call's own. No program in sight. From a law's walk to its row: what a law leaves behind; how arguments read. No function in sight. The one listed variable: errors.errorType: what the condition gives; a world that meets it. -/
import Derived.Test.YtfepefbehgbjpaaGreatDoorZx1
import Derived.Test.YtfepefbehgbjpaaGreatDoorProg
import Derived.LaidEql
import Derived.Stop.Asserts
import Derived.RowKitTokens
import Derived.Deep.RegionLaw
import Derived.ProofKit
import Derived.OpenShut
import Derived.Deep.SlicePairs
import Derived.Carry
import Derived.Deep.Slices
import Derived.Test.YtfepefbehgbjpaaGreatDoorRows
import Derived.LaidHandle
import Derived.Deep.DeepHandedRow
section
/-! errors.As at the target *api.Errno, and what tells an error's number: contracts (turned from the guide's worked example ToyasAs). -/
namespace Go.Proofs.YtfepefbehgbjpaaGreatDoor
open Go.RowKit Go.Extern.Stop Go.Stop Go.Extern

/-! ### CLOSED FACTS ON THE MODEL's ENTRIES FOR internal/reflectlite, at this program's types: 25: *p.E · 27: **p.E · 23: error · 45: reflectlite's rtype · 1: how many package-level variables the dump has -/
theorem Tryz.valueOf27 (t : Addr) (w : World) : (ReflectliteValue.unpack (.iface 133 (.pointer (some t)))).run Tryz.prog w
    = .ok (.agg #[.pointer (some ⟨1, 133, none⟩), .pointer (some ⟨w.heap.size, 0, none⟩), .int .u64 150]) (w.alloc (.cells #[.pointer (some t)] 133)) := by kernel_rfl
theorem Tryz.type27 (a : Addr) (w : World) : (ReflectliteValue.methodAny (ReflectliteValue.valueError "reflectlite.Value.Type" 0) (fun t _ _ _ => ReflectliteType.toType t) #[.agg #[.pointer (some ⟨1, 133, none⟩), .pointer (some a), .int .u64 150]]).run Tryz.prog w
    = .ok (.iface 198 (.agg #[.pointer (some ⟨1, 133, none⟩)])) w := by kernel_rfl
theorem Tryz.methodKind (h : Value) (w : World) : (Go.method 349 198 (.agg #[h]) "Kind").run Tryz.prog w = .ok (195, h) w := by kernel_rfl
theorem Tryz.kind27 (w : World) : ((ReflectliteType.abiMethod fun t => (fun a : Nat => Value.int IntKind.u8 (a : Int)) <$> Rtype.kind t) #[.pointer (some ⟨1, 133, none⟩)]).run Tryz.prog w = .ok (.int .u8 22) w := by kernel_rfl
theorem Tryz.kind25 (w : World) : ((ReflectliteType.abiMethod fun t => (fun a : Nat => Value.int IntKind.u8 (a : Int)) <$> Rtype.kind t) #[.pointer (some ⟨1, 73, none⟩)]).run Tryz.prog w = .ok (.int .u8 2) w := by kernel_rfl

/-! ### THE ENTRIES THAT READ OR WRITE MEMORY: laws with a premise on the cell (after Derived/Lib/ReflectliteSlice.lean's manner: each unfolding a lemma of its own, by rfl) -/
theorem rlm (z : Sem Value) (f : TypeId → Addr → Nat → Nat → Sem Value) (v : Value) :
    ReflectliteValue.method z f #[v] = (do match ← ReflectliteValue.parts v with | none => z | some (t, a, fl) => f t a fl (fl % 32)) := rfl
theorem Tryz.parts27 (a : Addr) (w : World) : (ReflectliteValue.parts (.agg #[.pointer (some ⟨1, 133, none⟩), .pointer (some a), .int .u64 150])).run Tryz.prog w = .ok (some (133, a, 150)) w := by kernel_rfl
theorem Tryz.isNil27 (a p : Addr) (W : World) (ha : W.cell? a = some (.pointer (some p))) :
    (ReflectliteValue.method (ReflectliteValue.valueError "reflectlite.Value.IsNil" 0) ReflectliteValue.isNil #[.agg #[.pointer (some ⟨1, 133, none⟩), .pointer (some a), .int .u64 150]]).run Tryz.prog W = .ok (.bool false) W := by
  rw [rlm]
  simp only [Sem.run_bind, Tryz.parts27, Result.andThen]
  simp [ReflectliteValue.isNil, loadVar, isAgg, underlying, Tryz.underlying133, ha, Result.andThen]

theorem Tryz.methodElem (h : Value) (w : World) : (Go.method 349 198 (.agg #[h]) "Elem").run Tryz.prog w = .ok (207, .agg #[h]) w := by kernel_rfl
theorem Tryz.methodImplements (h : Value) (w : World) : (Go.method 349 198 (.agg #[h]) "Implements").run Tryz.prog w = .ok (208, .agg #[h]) w := by kernel_rfl
theorem Tryz.methodAssignableTo (h : Value) (w : World) : (Go.method 349 198 (.agg #[h]) "AssignableTo").run Tryz.prog w = .ok (205, .agg #[h]) w := by kernel_rfl
theorem Tryz.elem27 (w : World) : (ReflectliteType.method ReflectliteType.elem #[.agg #[.pointer (some ⟨1, 133, none⟩)]]).run Tryz.prog w = .ok (.iface 198 (.agg #[.pointer (some ⟨1, 73, none⟩)])) w := by kernel_rfl
theorem Tryz.implements25 (w : World) : (ReflectliteType.relation "Implements" ReflectliteType.implements_ #[.agg #[.pointer (some ⟨1, 73, none⟩)], .iface 198 (.agg #[.pointer (some ⟨1, 35, none⟩)])]).run Tryz.prog w = .ok (.bool true) w := by kernel_rfl
theorem Tryz.typeOf25 (v : Value) (w : World) : (ReflectliteType.typeOf #[.iface 73 v]).run Tryz.prog w = .ok (.iface 198 (.agg #[.pointer (some ⟨1, 73, none⟩)])) w := by kernel_rfl
theorem Tryz.assignable25 (w : World) : (ReflectliteType.relation "AssignableTo" ReflectliteType.assignableTo #[.agg #[.pointer (some ⟨1, 73, none⟩)], .iface 198 (.agg #[.pointer (some ⟨1, 73, none⟩)])]).run Tryz.prog w = .ok (.bool true) w := by kernel_rfl
theorem Tryz.valueOf25 (e : Int) (w : World) : (ReflectliteValue.unpack (.iface 73 (.int .i64 e))).run Tryz.prog w
    = .ok (.agg #[.pointer (some ⟨1, 73, none⟩), .pointer (some ⟨w.heap.size, 0, none⟩), .int .u64 130]) (w.alloc (.cells #[.int .i64 e] 73)) := by kernel_rfl

theorem Tryz.elemOf27 (w : World) : (Rtype.elem? 133).run Tryz.prog w = .ok (some 73) w := by kernel_rfl
theorem Tryz.mk25 (p : Addr) (w : World) : (ReflectliteValue.mk 73 p ReflectliteValue.flagAddr).run Tryz.prog w = .ok (.agg #[.pointer (some ⟨1, 73, none⟩), .pointer (some p), .int .u64 386]) w := by kernel_rfl
theorem Tryz.elemV27 (a p : Addr) (W : World) (ha : W.cell? a = some (.pointer (some p))) :
    (ReflectliteValue.method (ReflectliteValue.valueError "reflectlite.Value.Elem" 0) ReflectliteValue.elem #[.agg #[.pointer (some ⟨1, 133, none⟩), .pointer (some a), .int .u64 150]]).run Tryz.prog W
      = .ok (.agg #[.pointer (some ⟨1, 73, none⟩), .pointer (some p), .int .u64 386]) W := by
  rw [rlm]
  simp only [Sem.run_bind, Tryz.parts27, Result.andThen]
  simp [ReflectliteValue.elem, loadVar, isAgg, underlying, Tryz.underlying133, ha, Result.andThen, Tryz.elemOf27, Tryz.mk25]
theorem rls (v x : Value) : ReflectliteValue.set #[v, x] = (do
    let (some (dst, a, fl), some (src, b, _)) := (← ReflectliteValue.parts v, ← ReflectliteValue.parts x)
      | unsupported (.noEntry "extern/(internal/reflectlite.Value).Set.zeroValue")
    if fl / ReflectliteValue.flagAddr % 2 == 0 then unsupported (.noEntry "extern/(internal/reflectlite.Value).Set.unaddressable")
    let val ← loadVar src b
    if ← Rtype.directlyAssignable dst src then storeVar dst a val
    else if ← Rtype.implements dst src then
      if (← Rtype.kind src) == 20 then
        match val with
        | .nilIface => unsupported (.noEntry "extern/reflectlite: a nil value of one interface type handed on as a value of another")
        | _ => storeVar dst a val
      else storeVar dst a (.iface src val)
    else panicString ("reflectlite.Set: value of type " ++ (← Rtype.spelt src) ++ " is not assignable to type " ++ (← Rtype.spelt dst))
    pure (.tuple #[])) := rfl
theorem Tryz.parts25a (a : Addr) (w : World) : (ReflectliteValue.parts (.agg #[.pointer (some ⟨1, 73, none⟩), .pointer (some a), .int .u64 386])).run Tryz.prog w = .ok (some (73, a, 386)) w := by kernel_rfl
theorem Tryz.parts25 (a : Addr) (w : World) : (ReflectliteValue.parts (.agg #[.pointer (some ⟨1, 73, none⟩), .pointer (some a), .int .u64 130])).run Tryz.prog w = .ok (some (73, a, 130)) w := by kernel_rfl
theorem Tryz.direct25 (w : World) : (Rtype.directlyAssignable 73 73).run Tryz.prog w = .ok true w := by kernel_rfl
theorem Tryz.set25 (ta b : Addr) (e : Int) (old : Value) (W : World) (hb : W.cell? b = some (.int .i64 e)) (ht : W.cell? ta = some old) (hf : W.frozen? ta = false) :
    (ReflectliteValue.set #[.agg #[.pointer (some ⟨1, 73, none⟩), .pointer (some ta), .int .u64 386], .agg #[.pointer (some ⟨1, 73, none⟩), .pointer (some b), .int .u64 130]]).run Tryz.prog W
      = .ok (.tuple #[]) (W.setCell ta (.int .i64 e)) := by
  rw [rls]
  simp only [Sem.run_bind, Tryz.parts25a, Tryz.parts25, Result.andThen]
  simp [ReflectliteValue.flagAddr, loadVar, isAgg, underlying, Tryz.underlying73, hb, Result.andThen, Tryz.direct25, storeVar, Value.cells, storeCells, Addr.add]
  rw [run_store Tryz.prog W ta _ _ (by rfl)]
  simp [ht, hf]

set_option maxHeartbeats 4000000 in
theorem as_hit (e : Int) (t : Addr) (old : Value) (w : World) (hg : w.cell? ⟨0, 0, none⟩ = some (.iface 198 (.agg #[.pointer (some ⟨1, 35, none⟩)]))) (ht0 : w.cell? t = some old) (hf0 : w.frozen? t = false) :
    Calls Tryz.prog 95 #[.iface 73 (.int .i64 e), .iface 133 (.pointer (some t))] w fun ev w' => ev = .returned (.bool true) ∧ w' = ((((w.alloc (.cells #[.pointer (some t)] 133)).alloc (.cells #[.pointer (some ⟨1, 133, none⟩), .pointer (some ⟨w.heap.size, 0, none⟩), .int .u64 150] 164)).alloc (.cells #[.pointer (some ⟨1, 133, none⟩), .pointer (some ⟨w.heap.size, 0, none⟩), .int .u64 150] 164)).alloc (.cells #[.int .i64 e] 73)).setCell t (.int .i64 e) := by
  have h6 := @run_callFunc_extern Tryz.prog 133 _ (fun args => ReflectliteValue.unpack (args.getD 0 (.tuple #[]))) Tryz.func133 (by kernel_rfl) (by kernel_rfl) (by kernel_rfl) (by kernel_rfl)
  have h7 := @run_callFunc_extern Tryz.prog 134 _ (ReflectliteValue.methodAny (ReflectliteValue.valueError "reflectlite.Value.Type" 0) (fun t _ _ _ => ReflectliteType.toType t)) Tryz.func134 (by kernel_rfl) (by kernel_rfl) (by kernel_rfl) (by kernel_rfl)
  have h8 := @run_callFunc_extern Tryz.prog 135 _ (ReflectliteValue.method (ReflectliteValue.valueError "reflectlite.Value.IsNil" 0) ReflectliteValue.isNil) Tryz.func135 (by kernel_rfl) (by kernel_rfl) (by kernel_rfl) (by kernel_rfl)
  have h27 := @run_callFunc_extern Tryz.prog 195 _ (ReflectliteType.abiMethod fun t => do pure (.int .u8 (← Rtype.kind t))) Tryz.func195 (by kernel_rfl) (by kernel_rfl) (by kernel_rfl) (by kernel_rfl)
  have h37 := @run_callFunc_extern Tryz.prog 207 _ (ReflectliteType.method ReflectliteType.elem) Tryz.func207 (by kernel_rfl) (by kernel_rfl) (by kernel_rfl) (by kernel_rfl)
  have h38 := @run_callFunc_extern Tryz.prog 208 _ (ReflectliteType.relation "Implements" ReflectliteType.implements_) Tryz.func208 (by kernel_rfl) (by kernel_rfl) (by kernel_rfl) (by kernel_rfl)
  have h10 := @run_callFunc_extern Tryz.prog 162 _ ReflectliteType.typeOf Tryz.func162 (by kernel_rfl) (by kernel_rfl) (by kernel_rfl) (by kernel_rfl)
  have h35 := @run_callFunc_extern Tryz.prog 205 _ (ReflectliteType.relation "AssignableTo" ReflectliteType.assignableTo) Tryz.func205 (by kernel_rfl) (by kernel_rfl) (by kernel_rfl) (by kernel_rfl)
  have h11 := @run_callFunc_extern Tryz.prog 163 _ (ReflectliteValue.method (ReflectliteValue.valueError "reflectlite.Value.Elem" 0) ReflectliteValue.elem) Tryz.func163 (by kernel_rfl) (by kernel_rfl) (by kernel_rfl) (by kernel_rfl)
  have h12 := @run_callFunc_extern Tryz.prog 164 _ ReflectliteValue.set Tryz.func164 (by kernel_rfl) (by kernel_rfl) (by kernel_rfl) (by kernel_rfl)
  have tO := Tryz.typeOf25
  have mA := Tryz.methodAssignableTo
  have a25 := Tryz.assignable25
  have v25 := Tryz.valueOf25
  have f6 := Tryz.valueOf27
  have f7 := Tryz.type27
  have mK := Tryz.methodKind
  have mE := Tryz.methodElem
  have mI := Tryz.methodImplements
  have k27 := Tryz.kind27
  have k25 := Tryz.kind25
  have e27 := Tryz.elem27
  have i25 := Tryz.implements25
  have n8 := Tryz.isNil27 ⟨w.heap.size, 0, none⟩ t ((w.alloc (.cells #[.pointer (some t)] 133)).alloc (.cells #[.pointer (some ⟨1, 133, none⟩), .pointer (some ⟨w.heap.size, 0, none⟩), .int .u64 150] 164)) (by simp)
  have hlt : 0 < w.heap.size := World.block_lt_of_cell? w _ hg
  have hg2 : ((w.alloc (.cells #[.pointer (some t)] 133)).alloc (.cells #[.pointer (some ⟨1, 133, none⟩), .pointer (some ⟨w.heap.size, 0, none⟩), .int .u64 150] 164)).cell? ⟨0, 0, none⟩ = some (.iface 198 (.agg #[.pointer (some ⟨1, 35, none⟩)])) := by
    rw [World.cell?_alloc_lt _ _ ⟨0, 0, none⟩ (by rw [World.size_alloc]; exact Nat.lt_succ_of_lt hlt), World.cell?_alloc_lt _ _ ⟨0, 0, none⟩ hlt]; exact hg
  have htl : t.block < w.heap.size := by
    rcases Nat.lt_or_ge t.block w.heap.size with h | h
    · exact h
    · simp [World.cell?, Array.getElem?_eq_none h] at ht0
  have el := Tryz.elemV27 ⟨w.heap.size, 0, none⟩ t (((w.alloc (.cells #[.pointer (some t)] 133)).alloc (.cells #[.pointer (some ⟨1, 133, none⟩), .pointer (some ⟨w.heap.size, 0, none⟩), .int .u64 150] 164)).alloc (.cells #[.pointer (some ⟨1, 133, none⟩), .pointer (some ⟨w.heap.size, 0, none⟩), .int .u64 150] 164)) (by rw [World.cell?_alloc_lt _ _ ⟨w.heap.size, 0, none⟩ (by simp; omega)]; simp)
  have st := Tryz.set25 t ⟨w.heap.size + 1 + 1 + 1, 0, none⟩ e old ((((w.alloc (.cells #[.pointer (some t)] 133)).alloc (.cells #[.pointer (some ⟨1, 133, none⟩), .pointer (some ⟨w.heap.size, 0, none⟩), .int .u64 150] 164)).alloc (.cells #[.pointer (some ⟨1, 133, none⟩), .pointer (some ⟨w.heap.size, 0, none⟩), .int .u64 150] 164)).alloc (.cells #[.int .i64 e] 73))
    (by rw [World.cell?_alloc_at _ _ _ _ (by simp)]; rfl)
    (by rw [World.cell?_alloc_lt _ _ t (by simp; omega), World.cell?_alloc_lt _ _ t (by simp; omega), World.cell?_alloc_lt _ _ t (by simp; omega), World.cell?_alloc_lt _ _ t htl]; exact ht0)
    (by rw [World.frozen?_alloc_old _ _ t (by simp; omega), World.frozen?_alloc_old _ _ t (by simp; omega), World.frozen?_alloc_old _ _ t (by simp; omega), World.frozen?_alloc_old _ _ t (Nat.ne_of_lt htl)]; exact hf0)
  go_enter Tryz.func95, Tryz.ntmps95
  go_wp2
  refine wp_loop_rounds 1 ?_
  rw [rounds_succ]
  go_wp2
  go_ret
  exact ⟨rfl, rfl⟩
end Go.Proofs.YtfepefbehgbjpaaGreatDoor
/-! The number of an error, told: contracts. -/
namespace Go.Proofs.YtfepefbehgbjpaaGreatDoor
open Go.RowKit Go.Att

def Hnd (w : World) : Prop := w.cell? ⟨0, 0, none⟩ = some (.iface 198 (.agg #[.pointer (some ⟨1, 35, none⟩)]))
theorem Hnd.ext {w w' : World} (h : Hnd w) (hx : Ext w w') : Hnd w' := hx.cell h
def errv (k : Int) : Value := if k = 0 then .nilIface else .iface 73 (.int .i64 k)
theorem errv_zero : errv 0 = .nilIface := rfl
theorem errv_pos {k : Int} (h : k ≠ 0) : errv k = .iface 73 (.int .i64 k) := if_neg h

theorem told_nil (w : World) : Calls Tryz.prog 42 #[.nilIface] w fun e w' => e = .returned (.int .i64 0) ∧ w = w' := by
  go_enter Tryz.func42, Tryz.ntmps42
  go_wp2
  go_ret
  exact ⟨rfl, rfl⟩

set_option maxHeartbeats 1000000 in
theorem told_some (k : Int) (w : World) (hg : Hnd w) : Calls Tryz.prog 42 #[.iface 73 (.int .i64 k)] w fun e w' => e = .returned (.int .i64 k) ∧ Ext w w' := by
  have hA : (w.alloc (.cells #[.int .i64 0] 73)).cell? ⟨0, 0, none⟩ = some (.iface 198 (.agg #[.pointer (some ⟨1, 35, none⟩)])) := (Ext.alloc _ _).cell hg
  have htA : (w.alloc (.cells #[.int .i64 0] 73)).cell? ⟨w.heap.size, 0, none⟩ = some (.int .i64 0) := by simp
  have hfA : (w.alloc (.cells #[.int .i64 0] 73)).frozen? ⟨w.heap.size, 0, none⟩ = false := by simp
  have C := Lib.hid (as_hit k ⟨w.heap.size, 0, none⟩ (.int .i64 0) _ hA htA hfA)
  clear hg hA htA hfA
  go_enter Tryz.func42, Tryz.ntmps42
  go_wp2_with (go_at_call 95; refine C.out.mono ?_; rintro e w' ⟨rfl, rfl⟩)
  go_ret
  refine ⟨rfl, ?_⟩
  repeat (refine Below.alloc ?_ (by first | exact Nat.le_refl _ | (simp only [World.size_alloc]; omega)) _)
  exact Below.refl _ _

set_option maxHeartbeats 400000 in
theorem error_any (k n : Int) (w : World) (hg : Hnd w) :
    Calls Tryz.prog 10 #[errv k, .int .i64 n] w fun e w' => e = .returned (.bool (k == n)) ∧ Ext w w' := by
  have HG := Lib.hid hg; clear hg
  by_cases hk : k = 0
  · subst hk
    rw [errv_zero]
    go_enter Tryz.func10, Tryz.ntmps10
    go_wp2_with (go_at_call 42; refine (told_nil _).mono ?_; rintro e w' ⟨rfl, rfl⟩)
    go_ret
    exact ⟨rfl, Ext.refl _⟩
  · rw [errv_pos hk]
    clear hk
    go_enter Tryz.func10, Tryz.ntmps10
    go_wp2_with (go_at_call 42; refine (told_some _ _ HG.out).mono ?_; rintro e w' ⟨rfl, hx⟩)
    go_ret
    exact ⟨rfl, hx⟩
end Go.Proofs.YtfepefbehgbjpaaGreatDoor
end
section
namespace Go.Att
open Go.RowKit
def Mx (w : World) (b : Nat) (M : Nat → Nat → Int) : Prop := ∀ r j, r < 8 → j < 8 → w.cell? ⟨b, r * 8 + j, none⟩ = some (.int .i64 (M r j)) ∧ w.frozen? ⟨b, r * 8 + j, none⟩ = false
def upm (M : Nat → Nat → Int) (r j : Nat) (x : Int) : Nat → Nat → Int := fun r' j' => if r' = r ∧ j' = j then x else M r' j'
theorem Mx.ext {w w' : World} {b : Nat} {M : Nat → Nat → Int} (h : Mx w b M) (hx : Ext w w') : Mx w' b M := fun r j hr hj =>
  ⟨hx.cell (h r j hr hj).1, by rw [World.frozen?_of_block (hx.below.block b (World.block_lt_of_cell? w ⟨b, r * 8 + j, none⟩ (h r j hr hj).1))]; exact (h r j hr hj).2⟩
theorem Mx.set {w : World} {b : Nat} {M : Nat → Nat → Int} (h : Mx w b M) {r j : Nat} (hr : r < 8) (hj : j < 8) (x : Int) : Mx (w.setCell ⟨b, r * 8 + j, none⟩ (.int .i64 x)) b (upm M r j x) := fun r' j' hr' hj' => by
  refine ⟨?_, by rw [World.frozen?_setCell]; exact (h r' j' hr' hj').2⟩
  unfold upm
  by_cases e : r' = r ∧ j' = j
  · obtain ⟨rfl, rfl⟩ := e
    rw [if_pos ⟨rfl, rfl⟩]; exact World.cell?_setCell_same _ _ _ (h _ _ hr hj).1
  · rw [if_neg e, World.cell?_setCell_other _ _ _ _ (by first | (simp; omega) | simp)]; exact (h _ _ hr' hj').1
theorem Mx.other {w : World} {b b' k : Nat} {M : Nat → Nat → Int} (h : Mx w b M) (hb : b ≠ b') (v : Value) : Mx (w.setCell ⟨b', k, none⟩ v) b M := fun r j hr hj =>
  ⟨by rw [World.cell?_setCell_other _ _ _ _ (by simp)]; exact (h r j hr hj).1, by rw [World.frozen?_setCell]; exact (h r j hr hj).2⟩
theorem Mx.size {w : World} {b : Nat} {M : Nat → Nat → Int} (h : Mx w b M) : b < w.heap.size := World.block_lt_of_cell? w ⟨b, 0 * 8 + 0, none⟩ (h 0 0 (by decide) (by decide)).1
theorem Mx.congr {w : World} {b : Nat} {M M' : Nat → Nat → Int} (h : Mx w b M) (he : ∀ r j, r < 8 → j < 8 → M r j = M' r j) : Mx w b M' := fun r j hr hj => by rw [← he r j hr hj]; exact h r j hr hj
end Go.Att
end
section
namespace Go.Att
open Go.RowKit
def InB (X Y : Nat) (v : Value) : Prop := ∀ k, v.ownBlock = some k → X ≤ k ∧ k < Y
theorem InB.mono {X Y X' Y' : Nat} {v : Value} (h : InB X Y v) (h1 : X' ≤ X) (h2 : Y ≤ Y') : InB X' Y' v := fun k hk => by have := h k hk; omega
structure Rdg (α : Type) where
  sat : Nat → Nat → World → α → List Value → Prop
  keep : ∀ {X Y : Nat} {w w' : World} {x : α} {cs : List Value} {b : Option Nat}, sat X Y w x cs → w.grownBy w' b → (∀ k, b = some k → k < X ∨ Y ≤ k) → sat X Y w' x cs
  wide : ∀ {X Y X' Y' : Nat} {w : World} {x : α} {cs : List Value}, sat X Y w x cs → X' ≤ X → Y ≤ Y' → sat X' Y' w x cs
structure Lst {α : Type} (ρ : Rdg α) (B : Nat) (w : World) (e sz : Nat) (v : Value) (l : List α) (E : Nat → List Value) : Prop where
  own : w.ownsRow B e sz v l.length ((List.range l.length).flatMap E)
  each : ∀ i (h : i < l.length), ∃ X Y, B ≤ X ∧ Y ≤ w.heap.size ∧ (∀ k, v.ownBlock = some k → k < X ∨ Y ≤ k) ∧ ρ.sat X Y w l[i] (E i)
section
variable {α : Type} {ρ : Rdg α} {B : Nat} {w w' : World} {e sz : Nat} {v : Value} {l : List α} {E : Nat → List Value}
theorem Lst.nil (B : Nat) (w : World) (e sz : Nat) (h : w.ownsRow B e sz v 0 []) : Lst ρ B w e sz v [] E := ⟨h, fun i hi => by simp at hi⟩
theorem Lst.low (h : Lst ρ B w e sz v l E) {q : Nat} (hg : w.grownBy w' (some q)) (hq : q < B) : Lst ρ B w' e sz v l E :=
  ⟨own_low h.own hg hq, fun i hi => by
    obtain ⟨X, Y, h1, h2, h3, h4⟩ := h.each i hi
    exact ⟨X, Y, h1, Nat.le_trans h2 hg.size, h3, ρ.keep h4 hg (fun k hk => by have := Option.some.inj hk; omega)⟩⟩
theorem Lst.ext (h : Lst ρ B w e sz v l E) (hx : Ext w w') : Lst ρ B w' e sz v l E :=
  ⟨own_ext h.own hx, fun i hi => by
    obtain ⟨X, Y, h1, h2, h3, h4⟩ := h.each i hi
    exact ⟨X, Y, h1, Nat.le_trans h2 hx.size, h3, ρ.keep h4 (hx.grownBy none) (fun k hk => by cases hk)⟩⟩
theorem flatMap_if (n : Nat) (E : Nat → List Value) (cs : List Value) : (List.range (n + 1)).flatMap (fun i => if i < n then E i else cs) = (List.range n).flatMap E ++ cs := by
  rw [List.range_succ, List.flatMap_append]
  have h1 : (List.range n).flatMap (fun i => if i < n then E i else cs) = (List.range n).flatMap E := by
    rw [List.flatMap_def, List.flatMap_def]
    congr 1
    exact List.map_congr_left fun i hi => by rw [if_pos (List.mem_range.1 hi)]
  rw [h1]; simp
theorem Lst.push (h : Lst ρ B w e sz v l E) {v' : Value} {x : α} {cs : List Value} {X Y : Nat} (hX : B ≤ X) (hY : Y ≤ w.heap.size) (hv : ∀ k, v.ownBlock = some k → k < X ∨ Y ≤ k) (hs : ρ.sat X Y w x cs)
    (ho : w'.ownsRow B e sz v' (l.length + 1) ((List.range l.length).flatMap E ++ cs)) (hg : w.grownBy w' v.ownBlock) (hm : Moved w v v') : Lst ρ B w' e sz v' (l ++ [x]) (fun i => if i < l.length then E i else cs) := by
  have far : ∀ X Y, Y ≤ w.heap.size → (∀ k, v.ownBlock = some k → k < X ∨ Y ≤ k) → ∀ k, v'.ownBlock = some k → k < X ∨ Y ≤ k := by
    intro X Y hY hv k hk
    rcases hm with hm | hm
    · exact hv k (by rw [← hm]; exact hk)
    · exact .inr (Nat.le_trans hY (hm k hk))
  refine ⟨by rw [List.length_append, List.length_singleton, flatMap_if]; exact ho, fun i hi => ?_⟩
  by_cases h1 : i < l.length
  · obtain ⟨X', Y', g1, g2, g3, g4⟩ := h.each i h1
    refine ⟨X', Y', g1, Nat.le_trans g2 hg.size, far X' Y' g2 g3, ?_⟩
    rw [if_pos h1, List.getElem_append_left h1]
    exact ρ.keep g4 hg g3
  · refine ⟨X, Y, hX, Nat.le_trans hY hg.size, far X Y hY hv, ?_⟩
    rw [if_neg h1]
    have : (l ++ [x])[i] = x := by rw [List.getElem_append_right (by omega)]; simp
    rw [this]
    exact ρ.keep hs hg hv
end
def rgInt : Rdg Int where
  sat := fun _ _ _ x cs => cs = [.int .i64 x]
  keep := fun h _ _ => h
  wide := fun h _ _ => h
def rgInts : Rdg (List Int) where
  sat := fun X Y w l cs => ∃ u, cs = [u] ∧ Ints w u l ∧ InB X Y u
  keep := by
    rintro X Y w w' x cs b ⟨u, rfl, hu, hb⟩ hg hf
    exact ⟨u, rfl, hu.grown hg (fun k hk hc => by have := hb k hk; have := hf k hc.symm; omega), hb⟩
  wide := by
    rintro X Y X' Y' w x cs ⟨u, rfl, hu, hb⟩ h1 h2
    exact ⟨u, rfl, hu, hb.mono h1 h2⟩
theorem Lst.ints {B : Nat} {w : World} {e : Nat} {v : Value} {l : List Int} {E : Nat → List Value} (h : Lst rgInt B w e 1 v l E) : w.ownsRow B e 1 v l.length (l.map (Value.int .i64)) := by
  have : (List.range l.length).flatMap E = l.map (Value.int .i64) := by
    have h1 : (List.range l.length).flatMap E = (List.range l.length).flatMap fun i => [.int .i64 (nth l i)] := by
      rw [List.flatMap_def, List.flatMap_def]
      congr 1
      refine List.map_congr_left fun i hi => ?_
      have hi' := List.mem_range.1 hi
      obtain ⟨X, Y, _, _, _, h4⟩ := h.each i hi'
      rw [nth_eq hi']; exact h4
    rw [h1]
    apply List.ext_getElem?
    intro i
    have h2 : (List.range l.length).flatMap (fun i => [Value.int .i64 (nth l i)]) = (List.range l.length).map fun i => Value.int .i64 (nth l i) := by
      rw [List.flatMap_def]; induction (List.range l.length) <;> simp_all
    rw [h2]
    by_cases hi : i < l.length
    · simp [hi, nth_eq hi]
    · rw [List.getElem?_eq_none (by simp; omega), List.getElem?_eq_none (by simp; omega)]
  rw [← this]; exact h.own
theorem Lst.rws {B : Nat} {w : World} {e : Nat} {v : Value} {l : List (List Int)} {E : Nat → List Value} (h : Lst rgInts B w e 1 v l E) : ∃ R, RwsAt w v l R ∧ ∀ i, i < l.length → InB B w.heap.size (R i) := by
  have hex : ∀ i, ∃ u, i < l.length → E i = [u] ∧ Ints w u (nthL l i) ∧ InB B w.heap.size u := by
    intro i
    by_cases hi : i < l.length
    · obtain ⟨X, Y, h1, h2, _, u, hu, hI, hb⟩ := h.each i hi
      exact ⟨u, fun _ => ⟨hu, by rw [nthL_eq hi]; exact hI, hb.mono h1 h2⟩⟩
    · exact ⟨.bool false, fun hc => absurd hc hi⟩
  refine ⟨fun i => Classical.choose (hex i), ⟨?_, fun i hi => ((Classical.choose_spec (hex i)) hi).2.1⟩, fun i hi => ((Classical.choose_spec (hex i)) hi).2.2⟩
  have h2 : (List.range l.length).flatMap E = (List.range l.length).map fun i => Classical.choose (hex i) := by
    have h1 : (List.range l.length).flatMap E = (List.range l.length).flatMap fun i => [Classical.choose (hex i)] := by
      rw [List.flatMap_def, List.flatMap_def]
      congr 1
      exact List.map_congr_left fun i hi => ((Classical.choose_spec (hex i)) (List.mem_range.1 hi)).1
    rw [h1, List.flatMap_def]; induction (List.range l.length) <;> simp_all
  have := Sl.of_own h.own (by omega)
  rw [h2] at this
  exact this
end Go.Att
namespace Go.Att
end Go.Att
end
section
namespace Go.Att
open Go.RowKit
theorem row_apart {w : World} {B B' e e' sz sz' n n' : Nat} {v v' : Value} {xs xs' : List Value} (h : w.ownsRow B e sz v n xs) (h' : w.ownsRow B' e' sz' v' n' xs') (hne : e ≠ e') : ∀ k, v.ownBlock = some k → v'.ownBlock ≠ some k := by
  intro k hk hk'
  rcases h.2 with ⟨rfl, _⟩ | ⟨g, cap, cur, rfl, _, hg, _⟩
  · cases hk
  · rcases h'.2 with ⟨rfl, _⟩ | ⟨g', cap', cur', rfl, _, hg', _⟩
    · cases hk'
    · obtain rfl : g = k := Option.some.inj hk
      obtain rfl : g' = g := Option.some.inj hk'
      rw [hg] at hg'
      simp at hg'
      exact hne hg'.2
theorem row_grown {w w' : World} {B e sz n : Nat} {v : Value} {xs : List Value} (h : w.ownsRow B e sz v n xs) {b : Option Nat} (hg : w.grownBy w' b) (hb : ∀ k, v.ownBlock = some k → some k ≠ b) : w'.ownsRow B e sz v n xs := by
  refine ⟨h.1, ?_⟩
  rcases h.2 with h2 | ⟨g, cap, cur, hv, hbg, hgg, hr⟩
  · exact .inl h2
  · exact .inr ⟨g, cap, cur, hv, hbg, by rw [hg.block g (Array.getElem?_eq_some_iff.1 hgg).1 (hb g (by rw [hv]; rfl))]; exact hgg, hr⟩
theorem list_set_take {α : Type} (l : List α) {n i : Nat} (x : α) (hi : i < n) (hl : n ≤ l.length) : (l.set i x).take n = (l.take n).take i ++ [x] ++ (l.take n).drop (i + 1) := by
  rw [List.take_set, List.set_eq_take_append_cons_drop, if_pos (by rw [List.length_take]; omega)]
  simp
theorem own_setCell {w : World} {B e n : Nat} {v : Value} {xs : List Value} (h : w.ownsRow B e 1 v n xs) {i : Nat} (hi : i < n) (u : Value) :
    w.frozen? (elt v i 1) = false ∧ (w.setCell (elt v i 1) u).ownsRow B e 1 v n (xs.take (i * 1) ++ [u] ++ xs.drop (i * 1 + 1)) ∧ w.grownBy (w.setCell (elt v i 1) u) v.ownBlock := by
  obtain ⟨g, cap, cur, rfl, hb, hg, hn, hm, hs, htk, he⟩ := elt_own h hi
  rw [he, Nat.mul_one] at *
  have hlt : g < w.heap.size := (Array.getElem?_eq_some_iff.1 hg).1
  have h' : w.heap[g] = .cells cur e (0, 0) := by simpa [Array.getElem?_eq_getElem hlt] using hg
  have hxl : xs.length = n * 1 := h.1
  refine ⟨by simp [World.frozen?, hg], ⟨?_, .inr ⟨g, cap, cur.setIfInBounds i u, rfl, hb, ?_, hn, hm, by simpa using hs, ?_⟩⟩, setCell_grown w g i u⟩
  · simp only [List.length_append, List.length_take, List.length_drop, List.length_singleton]; omega
  · show (w.heap.modify g _)[g]? = _
    rw [Array.getElem?_eq_getElem (by simpa using hlt), Array.getElem_modify_self, h']
    rfl
  · rw [Array.toList_setIfInBounds, Nat.mul_one, list_set_take _ _ hi (by rw [Array.length_toList, hs]; omega), ← htk]
def updN {α : Type} (f : Nat → α) (i : Nat) (x : α) : Nat → α := fun j => if j = i then x else f j
theorem updN_same {α : Type} (f : Nat → α) (i : Nat) (x : α) : updN f i x i = x := if_pos rfl
theorem updN_other {α : Type} (f : Nat → α) (x : α) {i j : Nat} (h : j ≠ i) : updN f i x j = f j := if_neg h
theorem range_set {n i : Nat} (R : Nat → Value) (u : Value) (hi : i < n) : ((List.range n).map R).take (i * 1) ++ [u] ++ ((List.range n).map R).drop (i * 1 + 1) = (List.range n).map (updN R i u) := by
  apply List.ext_getElem?
  intro j
  rw [Nat.mul_one]
  by_cases hj : j < n
  · by_cases h1 : j < i
    · rw [List.append_assoc, List.getElem?_append_left (by simp; omega), List.getElem?_take, if_pos h1]
      simp [hj, updN, show ¬ j = i by omega]
    · by_cases h2 : j = i
      · subst h2
        rw [List.append_assoc, List.getElem?_append_right (by simp; omega)]
        simp [hj, updN, show min j n = j by omega]
      · rw [List.getElem?_append_right (by simp; omega)]
        simp only [List.length_append, List.length_take, List.length_map, List.length_range, List.length_singleton, List.getElem?_drop]
        rw [show i + 1 + (j - (min i n + 1)) = j by omega]
        simp [hj, updN, h2]
  · rw [List.getElem?_eq_none (by simp; omega), List.getElem?_eq_none (by simp; omega)]
structure GrowAt (B : Nat) (w : World) (eR e : TypeId) (v : Value) (n : Nat) (R : Nat → Value) (L : Nat → List Int) : Prop where
  own : w.ownsRow B eR 1 v n ((List.range n).map R)
  row : ∀ i, i < n → w.ownsRow B e 1 (R i) (L i).length ((L i).map (Value.int .i64))
  nd : ∀ i j, i < n → j < n → i ≠ j → ∀ k, (R i).ownBlock = some k → (R j).ownBlock ≠ some k
  ne : eR ≠ e
section
variable {B : Nat} {w w1 w2 : World} {eR e : TypeId} {v : Value} {n : Nat} {R : Nat → Value} {L : Nat → List Int}
theorem GrowAt.ext (h : GrowAt B w eR e v n R L) (hx : Ext w w1) : GrowAt B w1 eR e v n R L := ⟨own_ext h.own hx, fun i hi => own_ext (h.row i hi) hx, h.nd, h.ne⟩
theorem GrowAt.congr {L' : Nat → List Int} (h : GrowAt B w eR e v n R L) (he : ∀ i, i < n → L i = L' i) : GrowAt B w eR e v n R L' := ⟨h.own, fun i hi => by rw [← he i hi]; exact h.row i hi, h.nd, h.ne⟩
theorem GrowAt.made (ho : w.ownsRow B eR 1 v n (madeCells (Value.slice none 0 0).cells (n * 1)).toList) (hne : eR ≠ e) : GrowAt B w eR e v n (fun _ => .slice none 0 0) (fun _ => []) := by
  refine ⟨?_, fun i _ => World.ownsRow_nil _ _ _ _, fun i j _ _ _ k hk => (by cases hk), hne⟩
  have e1 : (madeCells (Value.slice none 0 0).cells (n * 1)).toList = (List.range n).map fun _ => Value.slice none 0 0 := by
    simp [madeCells, Value.cells, Nat.mod_one, List.map_const']
  rw [← e1]; exact ho
theorem GrowAt.cell (h : GrowAt B w eR e v n R L) {i : Nat} (hi : i < n) : w.cell? (elt v i 1) = some (R i) := by
  have := Sl.cell (Sl.of_own h.own (by omega)) i 0 hi (by omega)
  simp only [Addr.add, if_true, Nat.add_zero, Nat.mul_one] at this
  rw [this]; simp [hi]
theorem GrowAt.mid (h : GrowAt B w eR e v n R L) {i : Nat} (hi : i < n) (hg : w.grownBy w1 (R i).ownBlock) : w1.ownsRow B eR 1 v n ((List.range n).map R) :=
  row_grown h.own hg fun k hk hc => row_apart h.own (h.row i hi) h.ne k hk hc.symm
theorem GrowAt.put (h : GrowAt B w eR e v n R L) {i : Nat} (hi : i < n) {v' : Value} {x : Int} (ho : w1.ownsRow B e 1 v' ((L i).length + 1) ((L i).map (Value.int .i64) ++ [.int .i64 x])) (hg : w.grownBy w1 (R i).ownBlock) (hm : Moved w (R i) v')
    (hs : w2.ownsRow B eR 1 v n (((List.range n).map R).take (i * 1) ++ [v'] ++ ((List.range n).map R).drop (i * 1 + 1))) (hg2 : w1.grownBy w2 v.ownBlock) : GrowAt B w2 eR e v n (updN R i v') (updN L i (L i ++ [x])) := by
  have hmid := h.mid hi hg
  have far : ∀ j, j < n → j ≠ i → ∀ k, (R j).ownBlock = some k → v'.ownBlock ≠ some k := by
    intro j hj hne k hk hc
    rcases hm with hm | hm
    · exact h.nd j i hj hi hne k hk (by rw [← hm]; exact hc)
    · have := hm k hc
      have := ((h.row j hj).lt k hk).2
      omega
  refine ⟨by rw [← range_set R v' hi]; exact hs, fun j hj => ?_, fun j1 j2 h1 h2 hne k hk => ?_, h.ne⟩
  · by_cases hji : j = i
    · subst hji
      rw [updN_same, updN_same, List.length_append, List.length_singleton, List.map_append]
      exact row_grown ho hg2 fun k hk hc => row_apart ho hmid (fun e1 => h.ne e1.symm) k hk hc.symm
    · rw [updN_other _ _ hji, updN_other _ _ hji]
      have h1 : w1.ownsRow B e 1 (R j) (L j).length ((L j).map (Value.int .i64)) := row_grown (h.row j hj) hg fun k hk hc => h.nd j i hj hi hji k hk hc.symm
      exact row_grown h1 hg2 fun k hk hc => row_apart h1 hmid (fun e1 => h.ne e1.symm) k hk hc.symm
  · by_cases e1 : j1 = i
    · subst e1
      rw [updN_same] at hk
      rw [updN_other _ _ (fun e2 => hne e2.symm)]
      exact fun hc => far j2 h2 (fun e2 => hne e2.symm) k hc hk
    · rw [updN_other _ _ e1] at hk
      by_cases e2 : j2 = i
      · subst e2
        rw [updN_same]
        exact far j1 h1 e1 k hk
      · rw [updN_other _ _ e2]
        exact h.nd j1 j2 h1 h2 hne k hk
theorem GrowAt.outer {w0 : World} (h : GrowAt w0.heap.size w eR e v n R L) (hx : Ext w0 w) {i : Nat} (hi : i < n) (hg : w.grownBy w1 (R i).ownBlock) (hg2 : w1.grownBy w2 v.ownBlock) : Ext w0 w2 :=
  Ext.own_grown (Ext.own_grown hx (h.row i hi) hg) (h.mid hi hg) hg2
theorem GrowAt.rws (h : GrowAt B w eR e v n R L) : RwsAt w v ((List.range n).map L) R := by
  refine ⟨?_, fun i hi => ?_⟩
  · have := Sl.of_own h.own (by omega)
    simpa using this
  · have hi' : i < n := by simpa using hi
    have e1 : nthL ((List.range n).map L) i = L i := by rw [nthL_eq hi]; simp
    rw [e1]
    exact Ints.of_own (h.row i hi')
end
section
variable {P : Program} {ops : Array Oper} {o : Oper} {a : Act} {Q : Exit → Act → World → Prop}
end
def Calm (Q : Exit → Act → World → Prop) : Exit → Act → World → Prop
  | .panic _, a, _ => a.defers = [] ∧ False
  | e, a, w => Q e a w
theorem Calm.normal {Q : Exit → Act → World → Prop} {a : Act} {w : World} (h : Q .normal a w) : Calm Q .normal a w := h
end Go.Att
end
section
/-! From a law's walk to its row: what a law leaves behind; how arguments read. No function in sight. -/
namespace Go.Att
open Go.RowKit Go.ChangeShapes Go.WideShapes Go.Deep

section
variable {H : Type} {enc : TypeId × Value → H} {P : Program}
theorem trodAll_below (hl : laidOutB P = true) {W W' : World} (hb : Ext W W') : ∀ {ts : List TypeId} {vs : List Value} {ds : List (DataW H)} {ps : List MemPlace},
    (∀ t ∈ ts, P.readableRec t = true ∧ t < P.types.size) → DataW.TrodAll enc P W 0 (fun _ => true) true ts vs ds ps → (∀ x ∈ ps, x.block < W.heap.size) →
    DataW.TrodAll enc P W' 0 (fun b => decide (b < W.heap.size)) true ts vs ds ps
  | [], vs, ds, ps, _, h, _ => by
    obtain ⟨rfl, rfl, rfl⟩ := trodAll_nil h
    exact trodAll_mk0
  | t :: ts, vs, ds, ps, hr, h, hlt => by
    obtain ⟨v, vs', d, ds', p, q, rfl, rfl, rfl, h1, h2⟩ := trodAll_cons h
    obtain ⟨r1, r2⟩ := hr t (by simp)
    exact trodAll_cons_mk (Below.trod hl r1 r2 h1 hb (fun x hx => hlt x (by simp [hx]))) (trodAll_below hl hb (fun t ht => hr t (by simp [ht])) h2 (fun x hx => hlt x (by simp [hx])))

theorem law_post {f : Func} {s : ChangeSpec} {W W' : World} {args : Array Value} {ds gs : List (DataW H)} {before : List MemPlace} {tb : TypeId} (hl : laidOutB P = true)
    (hpar : f.params.toList.all (fun t => P.readableRec t && decide (t < P.types.size)) = true) (hres : f.resultTypes = #[tb]) (htb : P.underlying tb = some .bool) (hsv : s.vars = [])
    (hW : DataW.Whole enc P f.params.toList s.vars false W args.toList ds gs before) (hfn : s.fn H ds = { results := [.lit (.bool true)], args := ds }) (hx : Ext W W') :
    s.post enc P f false true false false W args (.bool true) W' := by
  have hW' := hW
  obtain ⟨p, q, hA, hV, rfl, hfz, hnd⟩ := hW
  rw [hsv] at hV
  obtain ⟨rfl, rfl⟩ : gs = [] ∧ q = [] := by
    cases gs with
    | nil => exact ⟨rfl, hV⟩
    | cons g r => exact absurd hV (by intro h; cases h)
  have hlt : ∀ x ∈ p, x.block < W.heap.size := fun x hx => hW'.lt x (by simpa using hx)
  have hpar' : ∀ t ∈ f.params.toList, P.readableRec t = true ∧ t < P.types.size := fun t ht => by
    have := List.all_eq_true.1 hpar t ht
    simpa using this
  refine ⟨ds, [], _, [], p, [], hW', ?_, ?_, ?_, World.keptBut_mono (fun x hx => ?_) (Below.frame hx (fun _ => False)), fun h => by cases h⟩
  · rw [List.append_nil, hfn, hres]
    exact trodAll_mk1 (shut_bool htb true)
  · rw [List.append_nil, hfn]
    exact trodAll_below hl hx hpar' hA hlt
  · rw [List.append_nil, hfn, hsv]; rfl
  · exact hx.elim
end

section
variable {H : Type} {enc : TypeId × Value → H} {P : Program} {w : World} {base : Nat} {spare : Nat → Bool} {held : Bool}
theorem open_IntsF {fuel : Nat} {t e : TypeId} {v : Value} {d : DataW H} {p : List MemPlace} (ht : P.underlying t = some (.slice e)) (he : P.underlying e = some (.int .i64)) (hc : P.cellsOf e = 1)
    (hf : DataW.trod enc P w base spare held fuel t [v] = some (d, p)) : ∃ l : List Int, Ints w v l ∧ (l = [] ∨ ∃ es sp, d = .slice es sp ∧ es.length = l.length) := by
  rcases open_ints ht he hc hf with ⟨h1, h2⟩ | ⟨a, len, cap, zs, h1, h2, h3, h4, h5, h6, h7, h8⟩
  · simp at h1 h2
    subst h1
    exact ⟨[], Ints.nil _, .inl rfl⟩
  · simp at h1 h6
    subst h1
    have hlz : len ≤ zs.length := by rw [h5]; split <;> omega
    refine ⟨zs.take len, ⟨some a, cap, ?_, ?_, ?_, h4, fun i hi => ?_⟩, .inr ⟨_, _, h6.1, by simp [lits]⟩⟩
    · simp; omega
    · simp
    · simp; omega
    · simp at hi
      have hi' : i < zs.length := by omega
      have hsp : a.spot = none := by
        have h0 := h7 0 (by omega)
        rw [Addr.add, if_pos rfl] at h0
        rcases ha : a.spot with _ | n
        · rfl
        · unfold World.cell? at h0
          rw [ha] at h0
          split at h0
          · simp at h0
          · cases h0
      refine ⟨a.block, a.off, ?_, ?_⟩
      · rcases a with ⟨b, o, s⟩; simp at hsp; subst hsp; rfl
      · have hci := h7 i hi'
        have : a.add i = ⟨a.block, a.off + i, none⟩ := by
          rcases a with ⟨b, o, s⟩; simp at hsp; subst hsp; exact Addr.add_lit _ _ _
        rw [this] at hci
        rw [hci]
        simp [hi']
theorem open_Ints {t e : TypeId} {v : Value} {d : DataW H} {p : List MemPlace} (ht : P.underlying t = some (.slice e)) (he : P.underlying e = some (.int .i64)) (hc : P.cellsOf e = 1)
    (hv : v.cells.toList = [v]) (h : DataW.Trod enc P w base spare held t v d p) : ∃ l : List Int, Ints w v l ∧ (l = [] ∨ ∃ es sp, d = .slice es sp ∧ es.length = l.length) := by
  obtain ⟨fuel, hf⟩ := h
  rw [hv] at hf
  exact open_IntsF ht he hc hf

end
end Go.Att
/-! How arguments read: slices of slices. No function in sight. -/
namespace Go.Att
open Go.RowKit Go.ChangeShapes Go.WideShapes Go.Deep
section
variable {H : Type} {enc : TypeId × Value → H} {P : Program} {w : World} {base : Nat} {spare : Nat → Bool} {held : Bool}
end
end Go.Att
end
section
namespace Go.Proofs.YtfepefbehgbjpaaGreatDoor
open Go.ChangeShapes Go.WideShapes Go.RowKit Go.Att

theorem kOwn : ownKnob Tryz.prog.godebug = none := by kernel_rfl
theorem kEt : Tryz.prog.globalNamed "errors.errorType" = some 0 := by kernel_rfl
theorem kRt : (Tryz.prog.cutTypes.find? (·.1 == "internal/reflectlite.rtype")).map (·.2) = some 198 := by kernel_rfl
theorem kOneRow : ((List.range 249).filter fun t => Tryz.prog.rowNamed t [101, 114, 114, 111, 114]) = [35] := by kernel_rfl
theorem kSize : Tryz.prog.types.size = 249 := by kernel_rfl
theorem kLaidOut : laidOutB Tryz.prog = true := by kernel_rfl

theorem handle_of_laid {W : World} (h : laidMetH Tryz.prog [("errors.errorType", Rows.laid_errors_errorType)] W) : Hnd W := by
  have h' : laidMet Tryz.prog [] W ∧ handlesMet Tryz.prog [("errors.errorType", Rows.laid_errors_errorType)] W := h
  obtain ⟨name, u, ty, e1, e2, e3, e4, e5⟩ := h'.2 _ (List.mem_singleton.2 rfl)
  have en : name = [101, 114, 114, 111, 114] := (Option.some.inj e1).symm
  subst en
  obtain rfl := Option.some.inj (kRt.symm.trans e2)
  have hm : ty ∈ (List.range 249).filter fun t => Tryz.prog.rowNamed t [101, 114, 114, 111, 114] := List.mem_filter.2 ⟨List.mem_range.2 (by rw [← kSize]; exact e3), e4⟩
  rw [kOneRow] at hm
  obtain rfl := List.mem_singleton.1 hm
  have hh : typeHandle Tryz.prog 35 = .pointer (some ⟨1, 35, none⟩) := by kernel_rfl
  rw [hh] at e5
  unfold Hnd
  simpa using World.var?_cell kEt e5 0

noncomputable def laidWorld (os : Os) : World :=
  let w0 := World.holding Tryz.prog os ⟨#[], #[], []⟩
  { w0 with heap := w0.heap.modify 0 fun
      | .cells _ t frozen => .cells #[.iface 198 (.agg #[.pointer (some ⟨1, 35, none⟩)])] t frozen
      | o => o }
theorem laidWorld_met (os : Os) (args : Array Value) : laidMetH Tryz.prog [("errors.errorType", Rows.laid_errors_errorType)] ((laidWorld os).forCall (fun _ _ => 0) ⟨#[], args, []⟩).memory :=
  laidMetH_of_parts (laidMet_nil _ _) (by kernel_rfl)
end Go.Proofs.YtfepefbehgbjpaaGreatDoor
end
