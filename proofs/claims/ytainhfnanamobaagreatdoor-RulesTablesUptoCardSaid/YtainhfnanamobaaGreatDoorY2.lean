/- A voucher's bytes are written: contracts. -/
import Derived.Test.YtainhfnanamobaaGreatDoorY1
import Derived.Test.YtainhfnanamobaaGreatDoorVc
import Derived.Test.YtainhfnanamobaaGreatDoorQt
import Derived.Test.YtainhfnanamobaaGreatDoorProg
namespace Go.Att
open Go.RowKit
/-- A slice of bytes that reads as l. -/
def Byts (w : World) (v : Value) (l : List Int) : Prop := Sl w 1 v l.length (l.map (Value.int .u8))
/-- Bytes of the call's own. -/
abbrev OwnB (w0 w : World) (e : TypeId) (v : Value) (l : List Int) : Prop := w.ownsRow w0.heap.size e 1 v l.length (l.map (Value.int .u8))
theorem or128 : ∀ m : Fin 256, bits .or .u8 ((m.val : Nat) : Int) 128 = ((m.val % 128 + 128 : Nat) : Int) := by decide +kernel
theorem or_byte (q : Nat) : bits .or .u8 ((q : Int) % 256) 128 = ((q % 128 + 128 : Nat) : Int) := by
  have := or128 ⟨q % 256, Nat.mod_lt _ (by decide)⟩
  simp only at this
  rw [show ((q : Int) % 256) = ((q % 256 : Nat) : Int) by omega, this, show q % 256 % 128 = q % 128 by omega]
theorem own_snoc {w0 w : World} {e : TypeId} {v : Value} {l : List Int} {c : Int} (h : w.ownsRow w0.heap.size e 1 v (l.length + 1) (l.map (Value.int .u8) ++ [Value.int .u8 c])) : OwnB w0 w e v (l ++ [c]) := by
  unfold OwnB; simpa using h
/-- From w, bytes v of its own (all behind w0), the call made the bytes l; but for v's block all is as it was. -/
def Wrote (w0 w : World) (e : TypeId) (v : Value) (l : List Int) (en : Ending) (w' : World) : Prop := ∃ v', en = .returned v' ∧ Ext w0 w' ∧ OwnB w0 w' e v' l ∧ w.grownBy w' v.ownBlock ∧ Moved w v v'
theorem Wrote.mk' {w0 w w' : World} {e : TypeId} {v v' : Value} {l l' : List Int} {en : Ending} (h1 : en = .returned v') (h2 : Ext w0 w) (h0 : OwnB w0 w e v l') (h3 : OwnB w0 w' e v' l) (h4 : w.grownBy w' v.ownBlock) (h5 : Moved w v v') : Wrote w0 w e v l en w' := ⟨v', h1, Ext.own_grown h2 h0 h4, h3, h4, h5⟩
end Go.Att
namespace Go.Proofs.YtainhfnanamobaaGreatDoor
open Go.RowKit Go.Att
theorem slIntY : SlT Tryz.prog 26 3 1 8 (.int .i64 0) := .mk' Tryz.underlying26 (by kernel_rfl) (by decide)
theorem slRowY : SlT Tryz.prog 25 26 1 24 (.slice none 0 0) := .mk' Tryz.underlying25 (by kernel_rfl) (by decide)
end Go.Proofs.YtainhfnanamobaaGreatDoor
