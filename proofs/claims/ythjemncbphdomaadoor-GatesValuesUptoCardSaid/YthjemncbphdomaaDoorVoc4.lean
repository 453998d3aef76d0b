/- Slices of the call's own, more: make; slices of slices. -/
import Derived.Test.YthjemncbphdomaaDoorVoc3
namespace Go.Att
open Go.RowKit
section
variable {P : Program} {ops : Array Oper} {rest : List Oper} {o : Oper} {a : Act} {Q : Exit → Act → World → Prop}
/-- 'make([]T, 0, C)'. -/
theorem wpList_mk0 {W : World} (hgd : o.guard = none) (l c : Operand) (t : TypeId) (hop : o.op = Op.makeSlice t l c) {e sz bytes : Nat} {z : Value} (ht : SlT P t e sz bytes z) {w0 : World} (hx0 : Ext w0 W)
    {kl kc : IntKind} {C : Int} (hl : a.eval l = .int kl 0) (hc : a.eval c = .int kc C) (h0 : 0 ≤ C) (h1 : C ≤ 4294967296) (hby : bytes ≤ 65536)
    (h : ∀ v w', w'.ownsRow w0.heap.size e sz v 0 [] → Ext w0 w' → W.grownBy w' none → wpList P ops Q rest (a.put o.dst v) w') : wpList P ops Q (o :: rest) a W := by
  obtain ⟨i, hi, hiz, his, hib⟩ := ht.inf
  obtain ⟨n, rfl⟩ := Int.eq_ofNat_of_zero_le h0
  have hB : i.bytes * n ≤ 65536 * 4294967296 := Nat.mul_le_mul (by omega) (by omega)
  refine wpList_make_own W hgd l c t hop w0.heap.size e i z sz ht.und hi hiz his kl kc n n hl hc rfl (by omega) (by unfold maxLen; omega) hx0.size ?_
  intro w' h2 h3
  exact h _ w' h2 (Below.grown hx0.below h3 hx0.size (fun k hk => by cases hk)) h3
/-- 'make([]T, C)'. -/
theorem wpList_mkn {W : World} (hgd : o.guard = none) (l c : Operand) (t : TypeId) (hop : o.op = Op.makeSlice t l c) {e sz bytes : Nat} {z : Value} (ht : SlT P t e sz bytes z) {w0 : World} (hx0 : Ext w0 W)
    {kl kc : IntKind} {C : Int} (hl : a.eval l = .int kl C) (hc : a.eval c = .int kc C) (h0 : 0 ≤ C) (h1 : C ≤ 4294967296) (hby : bytes ≤ 65536)
    (h : ∀ v w', w'.ownsRow w0.heap.size e sz v C.toNat (madeCells z.cells (C.toNat * sz)).toList → Ext w0 w' → W.grownBy w' none → wpList P ops Q rest (a.put o.dst v) w') : wpList P ops Q (o :: rest) a W := by
  obtain ⟨i, hi, hiz, his, hib⟩ := ht.inf
  obtain ⟨n, rfl⟩ := Int.eq_ofNat_of_zero_le h0
  have hB : i.bytes * n ≤ 65536 * 4294967296 := Nat.mul_le_mul (by omega) (by omega)
  refine wpList_make_full W hgd l c t hop w0.heap.size e i z sz ht.und hi hiz his kl kc n n n hl hc rfl rfl (by omega) (by unfold maxLen; omega) hx0.size ?_
  intro w' h2 h3
  exact h _ w' (by simpa using h2) (Below.grown hx0.below h3 hx0.size (fun k hk => by cases hk)) h3
end
theorem cell_new (w : World) (cs : Array Value) (e : TypeId) (i : Nat) : (w.alloc (.cells cs e)).cell? ⟨w.heap.size, i, none⟩ = cs[i]? := by simp
theorem cell_newN (w : World) (n : Nat) (cs : Array Value) (e : TypeId) (i : Nat) : ((w.drewN n).alloc (.cells cs e)).cell? ⟨w.heap.size, i, none⟩ = cs[i]? := cell_new (w.drewN n) cs e i
/-- A slice's length. -/
def slen : Value → Nat
  | .slice _ n _ => n
  | _ => 0
theorem own_slen {w : World} {B e sz n : Nat} {v : Value} {xs : List Value} (h : w.ownsRow B e sz v n xs) : slen v = n := by
  rcases h.2 with ⟨rfl, rfl⟩ | ⟨g, cap, cur, rfl, _⟩ <;> rfl
theorem own_shape {w : World} {B e sz n : Nat} {v : Value} {xs : List Value} (h : w.ownsRow B e sz v n xs) : ∃ ao cap, v = .slice ao n cap := by
  rcases h.2 with ⟨rfl, rfl⟩ | ⟨g, cap, cur, rfl, _⟩
  · exact ⟨_, _, rfl⟩
  · exact ⟨_, _, rfl⟩

/-- A list's element, or nothing. -/
def nthL (l : List (List Int)) (i : Nat) : List Int := l.getD i []
theorem nthL_eq {l : List (List Int)} {i : Nat} (h : i < l.length) : nthL l i = l[i] := by simp [nthL, h]
/-- A slice of slices of ints that reads as l; R: the slices within. -/
structure RwsAt (w : World) (v : Value) (l : List (List Int)) (R : Nat → Value) : Prop where
  sl : Sl w 1 v l.length ((List.range l.length).map R)
  row : ∀ i, i < l.length → Ints w (R i) (nthL l i)
def Rws (w : World) (v : Value) (l : List (List Int)) : Prop := ∃ R, RwsAt w v l R
section
variable {P : Program} {w : World} {v : Value} {l : List (List Int)} {R : Nat → Value}
theorem RwsAt.ext {w' : World} (h : RwsAt w v l R) (hx : Ext w w') : RwsAt w' v l R := ⟨h.sl.ext hx, fun i hi => (h.row i hi).ext hx⟩
theorem Rws.ext {w' : World} (h : Rws w v l) (hx : Ext w w') : Rws w' v l := let ⟨R, hR⟩ := h; ⟨R, hR.ext hx⟩
theorem RwsAt.drewN (h : RwsAt w v l R) (n : Nat) : RwsAt (w.drewN n) v l R := h.ext (Ext.drewN _ _)
theorem RwsAt.run_len (h : RwsAt w v l R) {t e bytes : Nat} {z : Value} (ht : SlT P t e 1 bytes z) (ty : TypeId) (w' : World) : (Builtin.len_ #[t] ty #[v]).run P w' = .ok (.int .i64 l.length) w' := Sl.run_len h.sl ht ty w'
theorem RwsAt.run_index (h : RwsAt w v l R) {t e bytes : Nat} {z : Value} (ht : SlT P t e 1 bytes z) (i : Nat) (hi : i < l.length) (w' : World) :
    (Instr.indexAt t v (.int .i64 i)).run P w' = .ok (.pointer (some (elt v i 1))) w' := Sl.run_index h.sl ht i (by omega) (by omega) w'
theorem RwsAt.cell (h : RwsAt w v l R) (i : Nat) (hi : i < l.length) : w.cell? (elt v i 1) = some (R i) := by
  have := Sl.cell h.sl i 0 hi (by omega)
  simp [Addr.add] at this
  rw [this]; simp [hi]
theorem RwsAt.len (h : RwsAt w v l R) : l.length ≤ 9223372036854775807 := by have := Sl.len h.sl; unfold maxLen at this; omega
theorem RwsAt.shape (h : RwsAt w v l R) : ∃ ao cap, v = .slice ao l.length cap := by
  obtain ⟨ao, cap, h1, _⟩ := h.sl; exact ⟨ao, cap, h1⟩
theorem Rws.nil (w : World) : Rws w (.slice none 0 0) [] := ⟨fun _ => .slice none 0 0, ⟨none, 0, rfl, by simp, Nat.le_refl _, Nat.zero_le _, fun i hi => by simp at hi⟩, fun i hi => by simp at hi⟩
end
end Go.Att
