/- Words for what a world holds: slices that read as lists, blocks that are as they were. No program in sight. -/
import Derived.WalkKit
import Derived.WalkSpells
import Derived.Lib.Hide
import Derived.Deep.QuietTactic
import Derived.BigQuiet
import Derived.Deep.CutRange
import Derived.Test.YthjemncbphdomaaDoorAlg
namespace Go.Att
open Go.RowKit

theorem ret_int {k : IntKind} {a b : Int} (h : a = b) : Ending.returned (.int k a) = .returned (.int k b) := by rw [h]
theorem ret_bool {a b : Bool} (h : a = b) : Ending.returned (.bool a) = .returned (.bool b) := by rw [h]
theorem ret_val {a b : Value} (h : a = b) : Ending.returned a = .returned b := by rw [h]

theorem i64_and_nat (a b : Nat) (ha : a < 9223372036854775808) (hb : b < 9223372036854775808) : bits .and .i64 (a : Int) (b : Int) = ((a &&& b : Nat) : Int) := by
  have hx : a &&& b < 2 ^ 63 := Nat.and_lt_two_pow _ (by omega)
  have h1 : (BitVec.ofInt 64 (a : Int)).toNat = a := by
    rw [BitVec.ofInt_natCast, BitVec.toNat_ofNat]; exact Nat.mod_eq_of_lt (by omega)
  have h2 : (BitVec.ofInt 64 (b : Int)).toNat = b := by
    rw [BitVec.ofInt_natCast, BitVec.toNat_ofNat]; exact Nat.mod_eq_of_lt (by omega)
  show IntKind.i64.wrap ((BitVec.ofInt 64 (a : Int) &&& BitVec.ofInt 64 (b : Int)).toNat : Int) = _
  rw [BitVec.toNat_and, h1, h2, IntKind.wrap_i64]
  omega
theorem i64_and_one (a : Nat) (ha : a < 9223372036854775808) : bits .and .i64 (a : Int) 1 = ((a % 2 : Nat) : Int) := by
  have := i64_and_nat a 1 ha (by omega)
  rw [Nat.and_one_is_mod] at this
  exact this

/-- All that was there is as it was. -/
def Ext (w w' : World) : Prop := Below w.heap.size w w'

theorem Ext.refl (w : World) : Ext w w := Below.refl _ _
theorem Ext.trans {a b c : World} (h : Ext a b) (k : Ext b c) : Ext a c := Below.trans h (Below.mono k h.size)
theorem Ext.alloc (w : World) (o : Obj) : Ext w (w.alloc o) := (Below.refl _ _).alloc (Nat.le_refl _) o
theorem Ext.drew (w : World) : Ext w w.drew := (Below.refl _ _).drew
theorem Ext.drewN (w : World) (n : Nat) : Ext w (w.drewN n) := ⟨rfl, rfl, rfl, Nat.le_refl _, fun _ _ => rfl⟩
/-- What a reader gives: the value, in the world after some draws. -/
abbrev Rd (w : World) (v : Value) : Ending → World → Prop := fun e w' => e = .returned v ∧ ∃ m, w' = w.drewN m
theorem Rd.ext {w w' : World} {v : Value} {e : Ending} (h : Rd w v e w') : e = .returned v ∧ Ext w w' := ⟨h.1, by obtain ⟨m, rfl⟩ := h.2; exact Ext.drewN _ _⟩
theorem Rd.same {w : World} {v : Value} {e : Ending} (h : e = .returned v) : Rd w v e w := ⟨h, 0, rfl⟩
theorem Rd.more {w : World} {v : Value} {e : Ending} (n : Nat) (h : e = .returned v) : Rd w v e (w.drewN n) := ⟨h, n, rfl⟩
/-- What a call gives that makes memory of its own: a value of which something holds; all that was there is as it was. -/
def Gives (w : World) (φ : Value → World → Prop) (e : Ending) (w' : World) : Prop := ∃ v, e = .returned v ∧ Ext w w' ∧ φ v w'
theorem Gives.mk {w w' : World} {φ : Value → World → Prop} {e : Ending} (v : Value) (h1 : e = .returned v) (h2 : Ext w w') (h3 : φ v w') : Gives w φ e w' := ⟨v, h1, h2, h3⟩
/-- What a reader gives of whose number something holds. -/
def RdI (w : World) (φ : Int → Prop) (e : Ending) (w' : World) : Prop := ∃ r, φ r ∧ e = .returned (.int .i64 r) ∧ ∃ m, w' = w.drewN m
theorem Ext.size {w w' : World} (h : Ext w w') : w.heap.size ≤ w'.heap.size := Below.size h
theorem Ext.cell {w w' : World} (h : Ext w w') {p : Addr} {v : Value} (hc : w.cell? p = some v) : w'.cell? p = some v :=
  (Below.cell h (World.block_lt_of_cell? w p hc)).trans hc
theorem Ext.below {w w' : World} (h : Ext w w') : Below w.heap.size w w' := h

/-- The slice v has n elements of sz cells each; their cells are cs. -/
def Sl (w : World) (sz : Nat) (v : Value) (n : Nat) (cs : List Value) : Prop :=
  ∃ ao cap, v = .slice ao n cap ∧ cs.length = n * sz ∧ n ≤ cap ∧ cap ≤ maxLen ∧
    ∀ i (h : i < cs.length), ∃ b off, ao = some ⟨b, off, none⟩ ∧ w.cell? ⟨b, off + i, none⟩ = some cs[i]

/-- Where element i of a slice lies. -/
def elt (v : Value) (i sz : Nat) : Addr := match v with
  | .slice (some a) _ _ => a.add (i * sz)
  | _ => default

theorem Sl.ext {w w' : World} {sz n : Nat} {v : Value} {cs : List Value} (h : Sl w sz v n cs) (hx : Ext w w') : Sl w' sz v n cs := by
  obtain ⟨ao, cap, h1, h2, h3, h4, h5⟩ := h
  exact ⟨ao, cap, h1, h2, h3, h4, fun i hi => let ⟨b, off, e, hc⟩ := h5 i hi; ⟨b, off, e, hx.cell hc⟩⟩
theorem Sl.len {w : World} {sz n : Nat} {v : Value} {cs : List Value} (h : Sl w sz v n cs) : n ≤ maxLen := by
  obtain ⟨ao, cap, h1, h2, h3, h4, h5⟩ := h; omega
theorem Sl.length {w : World} {sz n : Nat} {v : Value} {cs : List Value} (h : Sl w sz v n cs) : cs.length = n * sz := by
  obtain ⟨ao, cap, h1, h2, h3, h4, h5⟩ := h; exact h2
/-- A cell of an element. -/
theorem Sl.cell {w : World} {sz n : Nat} {v : Value} {cs : List Value} (h : Sl w sz v n cs) (i k : Nat) (hi : i < n) (hk : k < sz) : w.cell? ((elt v i sz).add k) = cs[i * sz + k]? := by
  obtain ⟨ao, cap, rfl, h2, h3, h4, h5⟩ := h
  have hlt : i * sz + k < cs.length := by
    have : (i + 1) * sz ≤ n * sz := Nat.mul_le_mul_right _ hi
    rw [Nat.succ_mul] at this; omega
  obtain ⟨b, off, rfl, hc⟩ := h5 _ hlt
  simp only [elt, Addr.add_lit]
  rw [List.getElem?_eq_getElem hlt, ← hc, Nat.add_assoc]

/-- A slice's type t, its elements' type e: sz cells, so many bytes, the zero z. -/
structure SlT (P : Program) (t e sz bytes : Nat) (z : Value) : Prop where
  und : P.underlying t = some (.slice e)
  inf : ∃ i, P.info? e = some i ∧ i.zero = some z ∧ i.size = sz ∧ i.bytes = bytes
  pos : 0 < sz

theorem SlT.mk' {P : Program} {t e sz bytes : Nat} {z : Value} (h : P.underlying t = some (.slice e)) (h2 : (P.info? e).map (fun i => (i.zero, i.size, i.bytes)) = some (some z, sz, bytes)) (h3 : 0 < sz) : SlT P t e sz bytes z :=
  ⟨h, info_parts h2, h3⟩

section
variable {P : Program}
theorem SlT.run_size {t e sz bytes : Nat} {z : Value} (h : SlT P t e sz bytes z) (w : World) : (sizeOf e).run P w = .ok sz w := by
  obtain ⟨i, h1, h2, h3, h4⟩ := h.inf
  simp [sizeOf, typeInfo, h1, h3]
theorem Sl.run_len {w : World} {sz n : Nat} {v : Value} {cs : List Value} (h : Sl w sz v n cs) {t e bytes : Nat} {z : Value} (ht : SlT P t e sz bytes z) (ty : TypeId) (w' : World) :
    (Builtin.len_ #[t] ty #[v]).run P w' = .ok (.int .i64 n) w' := by
  obtain ⟨ao, cap, rfl, h2, h3, h4, h5⟩ := h
  simp [Builtin.len_, run_underlying ht.und, goInt]
theorem Sl.run_index {w : World} {sz n : Nat} {v : Value} {cs : List Value} (h : Sl w sz v n cs) {t e bytes : Nat} {z : Value} (ht : SlT P t e sz bytes z) (i : Int) (h0 : 0 ≤ i) (hi : i < n) (w' : World) :
    (Instr.indexAt t v (.int .i64 i)).run P w' = .ok (.pointer (some (elt v i.toNat sz))) w' := by
  obtain ⟨ao, cap, rfl, h2, h3, h4, h5⟩ := h
  have hlt : i.toNat * sz < cs.length := by
    have h6 : (i.toNat + 1) * sz ≤ n * sz := Nat.mul_le_mul_right _ (by omega)
    rw [Nat.succ_mul] at h6; have := ht.pos; omega
  obtain ⟨b, off, rfl, hc⟩ := h5 _ hlt
  simp [Instr.indexAt, run_underlying ht.und, asIntOf, h0, hi, elt, ht.run_size]
end

/-- A slice of ints that reads as l. -/
def Ints (w : World) (v : Value) (l : List Int) : Prop := Sl w 1 v l.length (l.map (Value.int .i64))
theorem Ints.ext {w w' : World} {v : Value} {l : List Int} (h : Ints w v l) (hx : Ext w w') : Ints w' v l := Sl.ext h hx
/-- The number at a place. -/
def nth (l : List Int) (i : Nat) : Int := l.getD i 0
theorem Ints.cell {w : World} {v : Value} {l : List Int} (h : Ints w v l) (i : Nat) (hi : i < l.length) : w.cell? (elt v i 1) = some (.int .i64 (nth l i)) := by
  have := Sl.cell h i 0 hi (by omega)
  simp [Addr.add] at this
  rw [this]
  simp [nth, List.getElem?_eq_getElem hi]


theorem nth_eq {l : List Int} {i : Nat} (h : i < l.length) : nth l i = l[i] := by simp [nth, h]
theorem nth_mem {l : List Int} {i : Nat} (h : i < l.length) : nth l i ∈ l := by rw [nth_eq h]; exact List.getElem_mem h
theorem Ints.shape {w : World} {v : Value} {l : List Int} (h : Ints w v l) : ∃ ao cap, v = .slice ao l.length cap := by
  obtain ⟨ao, cap, h1, _⟩ := h; exact ⟨ao, cap, h1⟩
theorem Ints.run_len {P : Program} {w : World} {v : Value} {l : List Int} (h : Ints w v l) {t e bytes : Nat} {z : Value} (ht : SlT P t e 1 bytes z) (ty : TypeId) (w' : World) :
    (Builtin.len_ #[t] ty #[v]).run P w' = .ok (.int .i64 l.length) w' := Sl.run_len h ht ty w'
theorem Ints.run_index {P : Program} {w : World} {v : Value} {l : List Int} (h : Ints w v l) {t e bytes : Nat} {z : Value} (ht : SlT P t e 1 bytes z) (i : Nat) (hi : i < l.length) (w' : World) :
    (Instr.indexAt t v (.int .i64 i)).run P w' = .ok (.pointer (some (elt v i 1))) w' := Sl.run_index h ht i (by omega) (by omega) w'
theorem Ints.len {w : World} {v : Value} {l : List Int} (h : Ints w v l) : l.length ≤ 9223372036854775807 := by have := Sl.len h; unfold maxLen at this; omega

/-- The field's value: a pointer to the prime, its factors, a generator. -/
structure Fld (w : World) (f : Value) (p g : Int) (fs : List Int) : Prop where
  at_ : ∃ b v, f = .pointer (some ⟨b, 0, none⟩) ∧ w.cell? ⟨b, 0, none⟩ = some (.int .i64 p) ∧ w.cell? ⟨b, 1, none⟩ = some v ∧ Ints w v fs ∧ w.cell? ⟨b, 2, none⟩ = some (.int .i64 g)
  pr : Pr p
  lo : 3 ≤ p
  hi : p ≤ 2147483647
theorem Fld.ptr {w : World} {f : Value} {p g : Int} {fs : List Int} (h : Fld w f p g fs) : ∃ b, f = .pointer (some ⟨b, 0, none⟩) := by
  obtain ⟨b, v, h1, _⟩ := h.at_; exact ⟨b, h1⟩
theorem Fld.ext {w w' : World} {f : Value} {p g : Int} {fs : List Int} (h : Fld w f p g fs) (hx : Ext w w') : Fld w' f p g fs := by
  obtain ⟨⟨b, v, h1, h2, h3, h4, h5⟩, h6, h7, h8⟩ := h
  exact ⟨⟨b, v, h1, hx.cell h2, hx.cell h3, h4.ext hx, hx.cell h5⟩, h6, h7, h8⟩
theorem Fld.drewN {w : World} {f : Value} {p g : Int} {fs : List Int} (h : Fld w f p g fs) (n : Nat) : Fld (w.drewN n) f p g fs := h.ext (Ext.drewN _ _)
theorem Ints.drewN {w : World} {v : Value} {l : List Int} (h : Ints w v l) (n : Nat) : Ints (w.drewN n) v l := h.ext (Ext.drewN _ _)
theorem Fld.two {w : World} {f : Value} {p g : Int} {fs : List Int} (h : Fld w f p g fs) : 2 ≤ p := by have := h.lo; omega
end Go.Att
