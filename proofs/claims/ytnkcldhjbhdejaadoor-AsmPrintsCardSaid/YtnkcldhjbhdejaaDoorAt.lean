/- Code as text, the document's side: its two tables: contracts. -/
import Derived.Test.YtnkcldhjbhdejaaDoorAs
namespace Go.Att
open Go.RowKit
/-- A list of strings. -/
def Strs (w : World) (v : Value) (L : List (List UInt8)) : Prop := Sl w 1 v L.length (L.map fun s => .string ⟨s.toArray⟩)
theorem Strs.ext {w w' : World} {v : Value} {L : List (List UInt8)} (h : Strs w v L) (hx : Ext w w') : Strs w' v L := Sl.ext h hx
theorem Strs.cell {w : World} {v : Value} {L : List (List UInt8)} (h : Strs w v L) {i : Nat} (hi : i < L.length) : w.cell? (elt v i 1) = some (.string ⟨L[i].toArray⟩) := by
  have := Sl.cell h i 0 hi (by omega)
  simp only [Addr.add, if_true, Nat.add_zero, Nat.mul_one] at this
  rw [this]; simp [hi]
/-- The letters of what follows a word. -/
def needA (op : Nat) : List UInt8 := (List.range (opsA op).length).map fun j => UInt8.ofNat (if (opsA op).getD j false = true then 65 + j else 97 + j)
def needsA : List (List UInt8) := (List.range 14).map needA
def wordsA : List (List UInt8) := (List.range 14).map wordA
theorem strs_new (w : World) (vs : List Value) (t : TypeId) (L : List (List UInt8)) (h : vs = L.map fun s => Value.string ⟨s.toArray⟩) (hb : L.length ≤ 1000) : Strs (w.alloc (.cells vs.toArray t)) (.slice (some ⟨w.heap.size, 0, none⟩) L.length L.length) L := by
  subst h
  refine ⟨_, _, rfl, by simp, Nat.le_refl _, by unfold maxLen; omega, fun i hi => ⟨_, _, rfl, ?_⟩⟩
  rw [Nat.zero_add, cell_new]
  simp [List.getElem?_eq_getElem hi]
end Go.Att
namespace Go.Proofs.YtnkcldhjbhdejaaDoor
open Go.RowKit Go.Att
set_option maxRecDepth 100000 in
set_option maxHeartbeats 2000000 in
theorem aneeds_any (w : World) : Calls Tryd.prog 18 #[] w (Gives w fun u w' => Strs w' u needsA) := by
  go_enter Tryd.func18, Tryd.ntmps18
  go_wp2_with fail
  go_ret
  exact .mk _ rfl (Ext.alloc _ _) (strs_new w _ 9 needsA (by kernel_rfl) (by decide))
set_option maxRecDepth 100000 in
set_option maxHeartbeats 2000000 in
theorem awords_any (w : World) : Calls Tryd.prog 22 #[] w (Gives w fun u w' => Strs w' u wordsA) := by
  go_enter Tryd.func22, Tryd.ntmps22
  go_wp2_with fail
  go_ret
  exact .mk _ rfl (Ext.alloc _ _) (strs_new w _ 9 wordsA (by kernel_rfl) (by decide))
end Go.Proofs.YtnkcldhjbhdejaaDoor
