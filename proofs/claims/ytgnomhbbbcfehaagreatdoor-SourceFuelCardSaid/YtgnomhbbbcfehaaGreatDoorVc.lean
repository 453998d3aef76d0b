/- Words for what a world holds: slices that read as lists, blocks that are as they were. No program in sight. -/
import Derived.WalkKit
import Derived.WalkSpells
import Derived.Lib.Hide
import Derived.Deep.QuietTactic
import Derived.BigQuiet
import Derived.Deep.CutRange
import Derived.Test.YtgnomhbbbcfehaaGreatDoorPl
import Derived.Laws.Slices
/-! Words for what a world holds: slices that read as lists, blocks that are as they were. No program in sight. -/
namespace Go.Att
open Go.RowKit

theorem ret_int {k : IntKind} {a b : Int} (h : a = b) : Ending.returned (.int k a) = .returned (.int k b) := by rw [h]
theorem ret_bool {a b : Bool} (h : a = b) : Ending.returned (.bool a) = .returned (.bool b) := by rw [h]
theorem i64_and_nat (a b : Nat) (ha : a < 9223372036854775808) (hb : b < 9223372036854775808) : bits .and .i64 (a : Int) (b : Int) = ((a &&& b : Nat) : Int) := by
  have hx : a &&& b < 2 ^ 63 := Nat.and_lt_two_pow _ (by omega)
  have h1 : (BitVec.ofInt 64 (a : Int)).toNat = a := by
    rw [BitVec.ofInt_natCast, BitVec.toNat_ofNat]; exact Nat.mod_eq_of_lt (by omega)
  have h2 : (BitVec.ofInt 64 (b : Int)).toNat = b := by
    rw [BitVec.ofInt_natCast, BitVec.toNat_ofNat]; exact Nat.mod_eq_of_lt (by omega)
  show IntKind.i64.wrap ((BitVec.ofInt 64 (a : Int) &&& BitVec.ofInt 64 (b : Int)).toNat : Int) = _
  rw [BitVec.toNat_and, h1, h2, IntKind.wrap_i64]
  omega
theorem i64_and_one (a : Nat) (ha : a < 9223372036854775808) : bits .and .i64 (a : Int) 1 = ((a % 2 : Nat) : Int) := by
  have := i64_and_nat a 1 ha (by omega)
  rw [Nat.and_one_is_mod] at this
  exact this

def Ext (w w' : World) : Prop := Below w.heap.size w w'

theorem Ext.refl (w : World) : Ext w w := Below.refl _ _
theorem Ext.trans {a b c : World} (h : Ext a b) (k : Ext b c) : Ext a c := Below.trans h (Below.mono k h.size)
theorem Ext.alloc (w : World) (o : Obj) : Ext w (w.alloc o) := (Below.refl _ _).alloc (Nat.le_refl _) o
theorem Ext.drew (w : World) : Ext w w.drew := (Below.refl _ _).drew
theorem Ext.drewN (w : World) (n : Nat) : Ext w (w.drewN n) := ⟨rfl, rfl, rfl, Nat.le_refl _, fun _ _ => rfl⟩
abbrev Rd (w : World) (v : Value) : Ending → World → Prop := fun e w' => e = .returned v ∧ ∃ m, w' = w.drewN m
theorem Rd.ext {w w' : World} {v : Value} {e : Ending} (h : Rd w v e w') : e = .returned v ∧ Ext w w' := ⟨h.1, by obtain ⟨m, rfl⟩ := h.2; exact Ext.drewN _ _⟩
theorem Rd.same {w : World} {v : Value} {e : Ending} (h : e = .returned v) : Rd w v e w := ⟨h, 0, rfl⟩
theorem Rd.more {w : World} {v : Value} {e : Ending} (n : Nat) (h : e = .returned v) : Rd w v e (w.drewN n) := ⟨h, n, rfl⟩
def Gives (w : World) (φ : Value → World → Prop) (e : Ending) (w' : World) : Prop := ∃ v, e = .returned v ∧ Ext w w' ∧ φ v w'
theorem Gives.mk {w w' : World} {φ : Value → World → Prop} {e : Ending} (v : Value) (h1 : e = .returned v) (h2 : Ext w w') (h3 : φ v w') : Gives w φ e w' := ⟨v, h1, h2, h3⟩
def RdI (w : World) (φ : Int → Prop) (e : Ending) (w' : World) : Prop := ∃ r, φ r ∧ e = .returned (.int .i64 r) ∧ ∃ m, w' = w.drewN m
theorem Ext.size {w w' : World} (h : Ext w w') : w.heap.size ≤ w'.heap.size := Below.size h
theorem Ext.cell {w w' : World} (h : Ext w w') {p : Addr} {v : Value} (hc : w.cell? p = some v) : w'.cell? p = some v :=
  (Below.cell h (World.block_lt_of_cell? w p hc)).trans hc
theorem Ext.below {w w' : World} (h : Ext w w') : Below w.heap.size w w' := h

def Sl (w : World) (sz : Nat) (v : Value) (n : Nat) (cs : List Value) : Prop :=
  ∃ ao cap, v = .slice ao n cap ∧ cs.length = n * sz ∧ n ≤ cap ∧ cap ≤ maxLen ∧
    ∀ i (h : i < cs.length), ∃ b off, ao = some ⟨b, off, none⟩ ∧ w.cell? ⟨b, off + i, none⟩ = some cs[i]

def elt (v : Value) (i sz : Nat) : Addr := match v with
  | .slice (some a) _ _ => a.add (i * sz)
  | _ => default

theorem Sl.ext {w w' : World} {sz n : Nat} {v : Value} {cs : List Value} (h : Sl w sz v n cs) (hx : Ext w w') : Sl w' sz v n cs := by
  obtain ⟨ao, cap, h1, h2, h3, h4, h5⟩ := h
  exact ⟨ao, cap, h1, h2, h3, h4, fun i hi => let ⟨b, off, e, hc⟩ := h5 i hi; ⟨b, off, e, hx.cell hc⟩⟩
theorem Sl.len {w : World} {sz n : Nat} {v : Value} {cs : List Value} (h : Sl w sz v n cs) : n ≤ maxLen := by
  obtain ⟨ao, cap, h1, h2, h3, h4, h5⟩ := h; omega
theorem Sl.length {w : World} {sz n : Nat} {v : Value} {cs : List Value} (h : Sl w sz v n cs) : cs.length = n * sz := by
  obtain ⟨ao, cap, h1, h2, h3, h4, h5⟩ := h; exact h2
theorem Sl.cell {w : World} {sz n : Nat} {v : Value} {cs : List Value} (h : Sl w sz v n cs) (i k : Nat) (hi : i < n) (hk : k < sz) : w.cell? ((elt v i sz).add k) = cs[i * sz + k]? := by
  obtain ⟨ao, cap, rfl, h2, h3, h4, h5⟩ := h
  have hlt : i * sz + k < cs.length := by
    have : (i + 1) * sz ≤ n * sz := Nat.mul_le_mul_right _ hi
    rw [Nat.succ_mul] at this; omega
  obtain ⟨b, off, rfl, hc⟩ := h5 _ hlt
  simp only [elt, Addr.add_lit]
  rw [List.getElem?_eq_getElem hlt, ← hc, Nat.add_assoc]

structure SlT (P : Program) (t e sz bytes : Nat) (z : Value) : Prop where
  und : P.underlying t = some (.slice e)
  inf : ∃ i, P.info? e = some i ∧ i.zero = some z ∧ i.size = sz ∧ i.bytes = bytes
  pos : 0 < sz

theorem SlT.mk' {P : Program} {t e sz bytes : Nat} {z : Value} (h : P.underlying t = some (.slice e)) (h2 : (P.info? e).map (fun i => (i.zero, i.size, i.bytes)) = some (some z, sz, bytes)) (h3 : 0 < sz) : SlT P t e sz bytes z :=
  ⟨h, info_parts h2, h3⟩

section
variable {P : Program}
theorem SlT.run_size {t e sz bytes : Nat} {z : Value} (h : SlT P t e sz bytes z) (w : World) : (sizeOf e).run P w = .ok sz w := by
  obtain ⟨i, h1, h2, h3, h4⟩ := h.inf
  simp [sizeOf, typeInfo, h1, h3]
theorem Sl.run_len {w : World} {sz n : Nat} {v : Value} {cs : List Value} (h : Sl w sz v n cs) {t e bytes : Nat} {z : Value} (ht : SlT P t e sz bytes z) (ty : TypeId) (w' : World) :
    (Builtin.len_ #[t] ty #[v]).run P w' = .ok (.int .i64 n) w' := by
  obtain ⟨ao, cap, rfl, h2, h3, h4, h5⟩ := h
  simp [Builtin.len_, run_underlying ht.und, goInt]
theorem Sl.run_index {w : World} {sz n : Nat} {v : Value} {cs : List Value} (h : Sl w sz v n cs) {t e bytes : Nat} {z : Value} (ht : SlT P t e sz bytes z) (i : Int) (h0 : 0 ≤ i) (hi : i < n) (w' : World) :
    (Instr.indexAt t v (.int .i64 i)).run P w' = .ok (.pointer (some (elt v i.toNat sz))) w' := by
  obtain ⟨ao, cap, rfl, h2, h3, h4, h5⟩ := h
  have hlt : i.toNat * sz < cs.length := by
    have h6 : (i.toNat + 1) * sz ≤ n * sz := Nat.mul_le_mul_right _ (by omega)
    rw [Nat.succ_mul] at h6; have := ht.pos; omega
  obtain ⟨b, off, rfl, hc⟩ := h5 _ hlt
  simp [Instr.indexAt, run_underlying ht.und, asIntOf, h0, hi, elt, ht.run_size]
end

def Ints (w : World) (v : Value) (l : List Int) : Prop := Sl w 1 v l.length (l.map (Value.int .i64))
theorem Ints.ext {w w' : World} {v : Value} {l : List Int} (h : Ints w v l) (hx : Ext w w') : Ints w' v l := Sl.ext h hx
def nth (l : List Int) (i : Nat) : Int := l.getD i 0
theorem Ints.cell {w : World} {v : Value} {l : List Int} (h : Ints w v l) (i : Nat) (hi : i < l.length) : w.cell? (elt v i 1) = some (.int .i64 (nth l i)) := by
  have := Sl.cell h i 0 hi (by omega)
  simp [Addr.add] at this
  rw [this]
  simp [nth, List.getElem?_eq_getElem hi]


theorem nth_eq {l : List Int} {i : Nat} (h : i < l.length) : nth l i = l[i] := by simp [nth, h]
theorem nth_mem {l : List Int} {i : Nat} (h : i < l.length) : nth l i ∈ l := by rw [nth_eq h]; exact List.getElem_mem h
theorem Ints.shape {w : World} {v : Value} {l : List Int} (h : Ints w v l) : ∃ ao cap, v = .slice ao l.length cap := by
  obtain ⟨ao, cap, h1, _⟩ := h; exact ⟨ao, cap, h1⟩
theorem Ints.run_len {P : Program} {w : World} {v : Value} {l : List Int} (h : Ints w v l) {t e bytes : Nat} {z : Value} (ht : SlT P t e 1 bytes z) (ty : TypeId) (w' : World) :
    (Builtin.len_ #[t] ty #[v]).run P w' = .ok (.int .i64 l.length) w' := Sl.run_len h ht ty w'
theorem Ints.run_index {P : Program} {w : World} {v : Value} {l : List Int} (h : Ints w v l) {t e bytes : Nat} {z : Value} (ht : SlT P t e 1 bytes z) (i : Nat) (hi : i < l.length) (w' : World) :
    (Instr.indexAt t v (.int .i64 i)).run P w' = .ok (.pointer (some (elt v i 1))) w' := Sl.run_index h ht i (by omega) (by omega) w'
theorem Ints.len {w : World} {v : Value} {l : List Int} (h : Ints w v l) : l.length ≤ 9223372036854775807 := by have := Sl.len h; unfold maxLen at this; omega

structure Fld (w : World) (f : Value) (p g : Int) (fs : List Int) : Prop where
  at_ : ∃ b v, f = .pointer (some ⟨b, 0, none⟩) ∧ w.cell? ⟨b, 0, none⟩ = some (.int .i64 p) ∧ w.cell? ⟨b, 1, none⟩ = some v ∧ Ints w v fs ∧ w.cell? ⟨b, 2, none⟩ = some (.int .i64 g)
  pr : Pr p
  lo : 3 ≤ p
  hi : p ≤ 2147483647
theorem Fld.ptr {w : World} {f : Value} {p g : Int} {fs : List Int} (h : Fld w f p g fs) : ∃ b, f = .pointer (some ⟨b, 0, none⟩) := by
  obtain ⟨b, v, h1, _⟩ := h.at_; exact ⟨b, h1⟩
theorem Fld.ext {w w' : World} {f : Value} {p g : Int} {fs : List Int} (h : Fld w f p g fs) (hx : Ext w w') : Fld w' f p g fs := by
  obtain ⟨⟨b, v, h1, h2, h3, h4, h5⟩, h6, h7, h8⟩ := h
  exact ⟨⟨b, v, h1, hx.cell h2, hx.cell h3, h4.ext hx, hx.cell h5⟩, h6, h7, h8⟩
theorem Fld.drewN {w : World} {f : Value} {p g : Int} {fs : List Int} (h : Fld w f p g fs) (n : Nat) : Fld (w.drewN n) f p g fs := h.ext (Ext.drewN _ _)
theorem Ints.drewN {w : World} {v : Value} {l : List Int} (h : Ints w v l) (n : Nat) : Ints (w.drewN n) v l := h.ext (Ext.drewN _ _)
theorem Fld.two {w : World} {f : Value} {p g : Int} {fs : List Int} (h : Fld w f p g fs) : 2 ≤ p := by have := h.lo; omega
end Go.Att
/-! Slices of the call's own: append, make, store, in the words of XVoc. -/
namespace Go.Att
open Go.RowKit

theorem own_ext {w w' : World} {B e sz n : Nat} {v : Value} {xs : List Value} (h : w.ownsRow B e sz v n xs) (hx : Ext w w') : w'.ownsRow B e sz v n xs := by
  refine ⟨h.1, ?_⟩
  rcases h.2 with h2 | ⟨g, cap, cur, hv, hb, hg, hr⟩
  · exact .inl h2
  · exact .inr ⟨g, cap, cur, hv, hb, by rw [hx.below.block g (Array.getElem?_eq_some_iff.1 hg).1]; exact hg, hr⟩

theorem Sl.of_own {w : World} {B e sz n : Nat} {v : Value} {xs : List Value} (h : w.ownsRow B e sz v n xs) (_hsz : 0 < sz) : Sl w sz v n xs := by
  obtain ⟨h1, h2⟩ := h
  rcases h2 with ⟨rfl, rfl⟩ | ⟨g, cap, cur, rfl, hb, hg, hn, hm, hs, ht⟩
  · have : xs = [] := List.eq_nil_of_length_eq_zero (by simpa using h1)
    subst this
    exact ⟨none, 0, rfl, by simp, Nat.le_refl _, Nat.zero_le _, fun i hi => by simp at hi⟩
  · refine ⟨some ⟨g, 0, none⟩, cap, rfl, h1, hn, hm, fun i hi => ⟨g, 0, rfl, ?_⟩⟩
    rw [Nat.zero_add, cell_of_row w g i cur e (0, 0) hg]
    have h3 : xs[i]? = cur[i]? := by
      rw [← ht, List.getElem?_take, if_pos (by omega)]; simp
    rw [← h3, List.getElem?_eq_getElem hi]
theorem Ints.of_own {w : World} {B e n : Nat} {v : Value} {l : List Int} (h : w.ownsRow B e 1 v n (l.map (Value.int .i64))) : Ints w v l := by
  have hl : n = l.length := by have := h.1; simp at this; omega
  subst hl
  exact Sl.of_own h (by omega)
theorem Ints.nil (w : World) : Ints w (.slice none 0 0) [] := ⟨none, 0, rfl, by simp, Nat.le_refl _, Nat.zero_le _, fun i hi => by simp at hi⟩

section
variable {P : Program} {ops : Array Oper} {rest : List Oper} {o : Oper} {a : Act} {Q : Exit → Act → World → Prop}
theorem wpList_app1 {W : World} (hgd : o.guard = none) (s x : Operand) (t : TypeId)
    (ho : o.op = .call { callee := .builtin .append, args := #[s, x], argTypes := #[t, t] })
    {e bytes : Nat} {z : Value} (ht : SlT P t e 1 bytes z) (hz : z.oneCell' = true) {w0 : World} (hx0 : Ext w0 W) {v : Value} {n : Nat} {xs : List Value} (hown : W.ownsRow w0.heap.size e 1 v n xs)
    (hs : a.eval s = v) (u : Value) (hu : u.oneCell' = true) (hx : a.eval x = .slice (some ⟨W.heap.size, 0, none⟩) 1 1) (h63 : n + 1 ≤ 4294967296) (hby : bytes ≤ 4096)
    (h : ∀ v' w', w'.ownsRow w0.heap.size e 1 v' (n + 1) (xs ++ [u]) → Ext w0 w' → W.grownBy w' v.ownBlock → wpList P ops Q rest (a.put o.dst v') w') : wpList P ops Q (o :: rest) a (W.alloc (.cells #[u] e)) := by
  obtain ⟨i, hi, hiz, his, hib⟩ := ht.inf
  have hB : (n + 1) * bytes ≤ 4294967296 * 4096 := Nat.mul_le_mul h63 hby
  refine wpList_append_own (P := P) _ hgd s x t ho w0.heap.size e i z 1 bytes ht.und hi hiz his hib ?_ (by omega) v n xs hs (hown.alloc _) ⟨W.heap.size, 0, none⟩ 1 1 [u] hx rfl ?_ ?_ ?_ ?_ ?_ ?_
  · cases z <;> first | rfl | simp [Value.oneCell'] at hz
  · intro j y hy
    cases j with
    | zero => simp at hy; subst hy; simp [Addr.add]
    | succ j => simp at hy
  · intro y hy; simp at hy; subst hy; exact hu
  · unfold maxLen; omega
  · omega
  · have := hx0.size; simp; omega
  · intro v' w' h1 h2 h3
    have hg : W.grownBy w' v.ownBlock := ⟨h2.os, h2.tape, h2.output, by have := h2.size; simp at this; omega, fun k hk hne => by
      rw [h2.block k (by simp; omega) hne]; exact heap_alloc_old W _ hk⟩
    refine h v' w' h1 ?_ hg
    exact Below.grown hx0.below hg hx0.size (fun k hk => (hown.lt k hk).1)
end

def flatP (l : List (Int × Int)) : List Value := l.flatMap fun c => [.int .i64 c.1, .int .i64 c.2]
theorem flatP_length (l : List (Int × Int)) : (flatP l).length = l.length * 2 := by
  induction l with
  | nil => rfl
  | cons c l ih => simp only [flatP, List.flatMap_cons, List.length_append, List.length_cons, List.length_nil] at *; omega
theorem flatP_get (l : List (Int × Int)) (i : Nat) (h : i < l.length) : (flatP l)[i * 2]? = some (.int .i64 l[i].1) ∧ (flatP l)[i * 2 + 1]? = some (.int .i64 l[i].2) := by
  induction l generalizing i with
  | nil => simp at h
  | cons c l ih =>
    cases i with
    | zero => simp [flatP]
    | succ i =>
      have := ih i (by simpa using h)
      have e : (i + 1) * 2 = i * 2 + 2 := by omega
      simp only [flatP, List.flatMap_cons, List.cons_append, List.nil_append, e] at *
      exact this
def Prs (w : World) (v : Value) (l : List (Int × Int)) : Prop := Sl w 2 v l.length (flatP l)
def nthP (l : List (Int × Int)) (i : Nat) : Int × Int := l.getD i (0, 0)
theorem nthP_eq {l : List (Int × Int)} {i : Nat} (h : i < l.length) : nthP l i = l[i] := by simp [nthP, h]
theorem Prs.ext {w w' : World} {v : Value} {l : List (Int × Int)} (h : Prs w v l) (hx : Ext w w') : Prs w' v l := Sl.ext h hx
theorem Prs.len {w : World} {v : Value} {l : List (Int × Int)} (h : Prs w v l) : l.length ≤ 9223372036854775807 := by have := Sl.len h; unfold maxLen at this; omega
theorem Prs.run_len {P : Program} {w : World} {v : Value} {l : List (Int × Int)} (h : Prs w v l) {t e bytes : Nat} {z : Value} (ht : SlT P t e 2 bytes z) (ty : TypeId) (w' : World) :
    (Builtin.len_ #[t] ty #[v]).run P w' = .ok (.int .i64 l.length) w' := Sl.run_len h ht ty w'
theorem Prs.run_index {P : Program} {w : World} {v : Value} {l : List (Int × Int)} (h : Prs w v l) {t e bytes : Nat} {z : Value} (ht : SlT P t e 2 bytes z) (i : Nat) (hi : i < l.length) (w' : World) :
    (Instr.indexAt t v (.int .i64 i)).run P w' = .ok (.pointer (some (elt v i 2))) w' := Sl.run_index h ht i (by omega) (by omega) w'
theorem Prs.fst {w : World} {v : Value} {l : List (Int × Int)} (h : Prs w v l) (i : Nat) (hi : i < l.length) : w.cell? (elt v i 2) = some (.int .i64 (nthP l i).1) := by
  have := Sl.cell h i 0 hi (by omega)
  simp only [Addr.add, if_true, Nat.add_zero] at this
  rw [this, (flatP_get l i hi).1, nthP_eq hi]
theorem Prs.snd {w : World} {v : Value} {l : List (Int × Int)} (h : Prs w v l) (i : Nat) (hi : i < l.length) : w.cell? ⟨(elt v i 2).block, (elt v i 2).off + 1, none⟩ = some (.int .i64 (nthP l i).2) := by
  have := Sl.cell h i 1 hi (by omega)
  simp only [Addr.add] at this
  rw [if_neg (by omega)] at this
  rw [this, (flatP_get l i hi).2, nthP_eq hi]
end Go.Att
/-! Slices of the call's own, more: a store into an element, append of a whole slice, make. -/
namespace Go.Att
open Go.RowKit

section
variable {P : Program} {ops : Array Oper} {rest : List Oper} {o : Oper} {a : Act} {Q : Exit → Act → World → Prop}

end
end Go.Att
/-! Slices of the call's own, more: make; slices of slices. -/
namespace Go.Att
open Go.RowKit
section
variable {P : Program} {ops : Array Oper} {rest : List Oper} {o : Oper} {a : Act} {Q : Exit → Act → World → Prop}
theorem wpList_mk0 {W : World} (hgd : o.guard = none) (l c : Operand) (t : TypeId) (hop : o.op = Op.makeSlice t l c) {e sz bytes : Nat} {z : Value} (ht : SlT P t e sz bytes z) {w0 : World} (hx0 : Ext w0 W)
    {kl kc : IntKind} {C : Int} (hl : a.eval l = .int kl 0) (hc : a.eval c = .int kc C) (h0 : 0 ≤ C) (h1 : C ≤ 4294967296) (hby : bytes ≤ 65536)
    (h : ∀ v w', w'.ownsRow w0.heap.size e sz v 0 [] → Ext w0 w' → W.grownBy w' none → wpList P ops Q rest (a.put o.dst v) w') : wpList P ops Q (o :: rest) a W := by
  obtain ⟨i, hi, hiz, his, hib⟩ := ht.inf
  obtain ⟨n, rfl⟩ := Int.eq_ofNat_of_zero_le h0
  have hB : i.bytes * n ≤ 65536 * 4294967296 := Nat.mul_le_mul (by omega) (by omega)
  refine wpList_make_own W hgd l c t hop w0.heap.size e i z sz ht.und hi hiz his kl kc n n hl hc rfl (by omega) (by unfold maxLen; omega) hx0.size ?_
  intro w' h2 h3
  exact h _ w' h2 (Below.grown hx0.below h3 hx0.size (fun k hk => by cases hk)) h3
end
theorem cell_new (w : World) (cs : Array Value) (e : TypeId) (i : Nat) : (w.alloc (.cells cs e)).cell? ⟨w.heap.size, i, none⟩ = cs[i]? := by simp
theorem own_shape {w : World} {B e sz n : Nat} {v : Value} {xs : List Value} (h : w.ownsRow B e sz v n xs) : ∃ ao cap, v = .slice ao n cap := by
  rcases h.2 with ⟨rfl, rfl⟩ | ⟨g, cap, cur, rfl, _⟩
  · exact ⟨_, _, rfl⟩
  · exact ⟨_, _, rfl⟩

def nthL (l : List (List Int)) (i : Nat) : List Int := l.getD i []
structure RwsAt (w : World) (v : Value) (l : List (List Int)) (R : Nat → Value) : Prop where
  sl : Sl w 1 v l.length ((List.range l.length).map R)
  row : ∀ i, i < l.length → Ints w (R i) (nthL l i)
def Rws (w : World) (v : Value) (l : List (List Int)) : Prop := ∃ R, RwsAt w v l R
section
variable {P : Program} {w : World} {v : Value} {l : List (List Int)} {R : Nat → Value}
theorem RwsAt.ext {w' : World} (h : RwsAt w v l R) (hx : Ext w w') : RwsAt w' v l R := ⟨h.sl.ext hx, fun i hi => (h.row i hi).ext hx⟩
theorem Rws.ext {w' : World} (h : Rws w v l) (hx : Ext w w') : Rws w' v l := let ⟨R, hR⟩ := h; ⟨R, hR.ext hx⟩
theorem RwsAt.drewN (h : RwsAt w v l R) (n : Nat) : RwsAt (w.drewN n) v l R := h.ext (Ext.drewN _ _)
theorem RwsAt.run_len (h : RwsAt w v l R) {t e bytes : Nat} {z : Value} (ht : SlT P t e 1 bytes z) (ty : TypeId) (w' : World) : (Builtin.len_ #[t] ty #[v]).run P w' = .ok (.int .i64 l.length) w' := Sl.run_len h.sl ht ty w'
theorem RwsAt.run_index (h : RwsAt w v l R) {t e bytes : Nat} {z : Value} (ht : SlT P t e 1 bytes z) (i : Nat) (hi : i < l.length) (w' : World) :
    (Instr.indexAt t v (.int .i64 i)).run P w' = .ok (.pointer (some (elt v i 1))) w' := Sl.run_index h.sl ht i (by omega) (by omega) w'
theorem RwsAt.cell (h : RwsAt w v l R) (i : Nat) (hi : i < l.length) : w.cell? (elt v i 1) = some (R i) := by
  have := Sl.cell h.sl i 0 hi (by omega)
  simp [Addr.add] at this
  rw [this]; simp [hi]
theorem RwsAt.len (h : RwsAt w v l R) : l.length ≤ 9223372036854775807 := by have := Sl.len h.sl; unfold maxLen at this; omega
theorem RwsAt.shape (h : RwsAt w v l R) : ∃ ao cap, v = .slice ao l.length cap := by
  obtain ⟨ao, cap, h1, _⟩ := h.sl; exact ⟨ao, cap, h1⟩
theorem Rws.nil (w : World) : Rws w (.slice none 0 0) [] := ⟨fun _ => .slice none 0 0, ⟨none, 0, rfl, by simp, Nat.le_refl _, Nat.zero_le _, fun i hi => by simp at hi⟩, fun i hi => by simp at hi⟩
end
end Go.Att
/-! Slices of the call's own beside others: where an append's result lies; what stays. -/
namespace Go.Att
open Go.RowKit
section
variable {P : Program}
theorem append_where {w : World} {base t ty e : Nat} {i : TypeInfo} {z : Value} (ht : P.underlying t = some (.slice e)) (hi : P.info? e = some i) (hz : i.zero = some z)
    {v : Value} {n : Nat} {xs : List Value} (hown : w.ownsRow base e i.size v n xs)
    {a : Addr} {m c : Nat} {news : List Value} (hl : news.length = m * i.size) (hnews : ∀ j u, news[j]? = some u → w.cell? (a.add j) = some u) (h1 : ∀ u ∈ news, u.oneCell' = true)
    (h63 : n + m ≤ maxLen) (hbytes : (n + m) * i.bytes ≤ 140737488355328) {v' : Value} {w' : World} (hr : (Builtin.append_ #[t, t] ty #[v, .slice (some a) m c]).run P w = .ok v' w') :
    v'.ownBlock = v.ownBlock ∨ v'.ownBlock = some w.heap.size := by
  have hsm : n + m ≤ 9223372036854775807 := by simp only [maxLen] at h63; omega
  rcases hown.2 with ⟨rfl, rfl⟩ | ⟨g, cap, cur, rfl, hbg, hg, hnc, hcm, hcs, htake⟩
  · have hx : xs = [] := List.eq_nil_of_length_eq_zero (by simpa using hown.1)
    subst hx
    rcases Nat.eq_zero_or_pos m with hm | hm
    · subst hm
      have : (Builtin.append_ #[t, t] ty #[.slice none 0 0, .slice (some a) 0 c]).run P w = .ok (.slice none 0 0) w := by
        simp [Builtin.append_, run_underlying ht, sizeOf, typeInfo, hi, Builtin.lenOf, Builtin.firstCells, loadCells, loadCellsFrom]
      rw [this] at hr
      injection hr with h2 h3
      exact .inl (by rw [← h2])
    · have h4 := run_append_nil (P := P) w t ty e i z ht hi hz a m c news hl hnews hm (by omega) (by rw [Nat.zero_add] at hbytes; omega)
      rw [h4] at hr
      injection hr with h2 h3
      exact .inr (by rw [← h2]; rfl)
  · by_cases hroom : n + m ≤ cap
    · have hfit : n * i.size + news.length ≤ cur.size := by rw [hl, hcs, ← Nat.add_mul]; exact Nat.mul_le_mul_right _ hroom
      rw [run_append_room (P := P) w t ty e i ht hi g n cap cur hg a m c news hl hnews h1 hroom hfit] at hr
      injection hr with h2 h3
      exact .inl (by rw [← h2]; rfl)
    · rw [run_append_grow (P := P) w t ty e i z ht hi hz ⟨g, 0, none⟩ n cap xs hown.1 (hown.cells (g := g) rfl) a m c news hl hnews (by omega) (by omega) (growslice_fits (by omega) hbytes)] at hr
      injection hr with h2 h3
      exact .inr (by rw [← h2]; rfl)

def Moved (W : World) (v v' : Value) : Prop := v'.ownBlock = v.ownBlock ∨ ∀ k, v'.ownBlock = some k → W.heap.size ≤ k
def NewIn (W : World) (v : Value) : Prop := ∀ k, v.ownBlock = some k → W.heap.size ≤ k
theorem NewIn.of_own {W w : World} {e sz n : Nat} {v : Value} {xs : List Value} (h : w.ownsRow W.heap.size e sz v n xs) : NewIn W v := fun k hk => (h.lt k hk).1
theorem NewIn.mono {W W' : World} {v : Value} (h : NewIn W' v) (hx : W.heap.size ≤ W'.heap.size) : NewIn W v := fun k hk => Nat.le_trans hx (h k hk)
theorem NewIn.nil (W : World) : NewIn W (.slice none 0 0) := fun k hk => by cases hk
def OldIn (W : World) (v : Value) : Prop := ∀ k, v.ownBlock = some k → k < W.heap.size
theorem OldIn.of_own {w : World} {B e sz n : Nat} {v : Value} {xs : List Value} (h : w.ownsRow B e sz v n xs) : OldIn w v := fun k hk => (h.lt k hk).2
theorem OldIn.ext {W W' : World} {v : Value} (h : OldIn W v) (hx : W.heap.size ≤ W'.heap.size) : OldIn W' v := fun k hk => Nat.lt_of_lt_of_le (h k hk) hx
theorem Moved.refl (W : World) (v : Value) : Moved W v v := .inl rfl
theorem Moved.trans {W W' : World} {a b c : Value} (h : Moved W a b) (k : Moved W' b c) (hx : W.heap.size ≤ W'.heap.size) : Moved W a c := by
  rcases k with k | k
  · rcases h with h | h
    · exact .inl (k.trans h)
    · exact .inr fun q hq => h q (by rw [← k]; exact hq)
  · exact .inr fun q hq => Nat.le_trans hx (k q hq)
theorem Ext.grownBy {w w' : World} (h : Ext w w') (b : Option Nat) : w.grownBy w' b := ⟨h.below.os, h.below.tape, h.below.output, h.size, fun k hk _ => h.below.block k hk⟩
theorem grown_ext {W w w' : World} {b : Option Nat} (h : W.grownBy w b) (k : Ext w w') : W.grownBy w' b :=
  ⟨k.below.os.trans h.os, k.below.tape.trans h.tape, k.below.output.trans h.output, Nat.le_trans h.size k.size, fun q hq hne => by
    rw [k.below.block q (Nat.lt_of_lt_of_le hq h.size)]; exact h.block q hq hne⟩
theorem Sl.grown {w w' : World} {b : Option Nat} {sz n : Nat} {v : Value} {cs : List Value} (h : Sl w sz v n cs) (hg : w.grownBy w' b) (hne : ∀ k, v.ownBlock = some k → some k ≠ b) : Sl w' sz v n cs := by
  obtain ⟨ao, cap, rfl, h2, h3, h4, h5⟩ := h
  refine ⟨ao, cap, rfl, h2, h3, h4, fun i hi => ?_⟩
  obtain ⟨q, off, rfl, hc⟩ := h5 i hi
  exact ⟨q, off, rfl, hg.cell hc (hne q rfl)⟩
theorem Ints.grown {w w' : World} {b : Option Nat} {v : Value} {l : List Int} (h : Ints w v l) (hg : w.grownBy w' b) (hne : ∀ k, v.ownBlock = some k → some k ≠ b) : Ints w' v l := Sl.grown h hg hne
theorem new_ne {W : World} {B e sz n : Nat} {v u : Value} {xs : List Value} (h : W.ownsRow B e sz v n xs) (hu : NewIn W u) : ∀ k, u.ownBlock = some k → some k ≠ v.ownBlock := by
  intro k hk hc
  have := hu k hk
  have := (h.lt k hc.symm).2
  omega
theorem Ext.own_grown {w0 W w' : World} {e sz n : Nat} {v : Value} {xs : List Value} (hx : Ext w0 W) (hown : W.ownsRow w0.heap.size e sz v n xs) (hg : W.grownBy w' v.ownBlock) : Ext w0 w' :=
  Below.grown hx.below hg hx.size (fun k hk => (hown.lt k hk).1)
end
section
variable {P : Program} {ops : Array Oper} {rest : List Oper} {o : Oper} {a : Act} {Q : Exit → Act → World → Prop}
theorem wpList_appNw {W : World} (hgd : o.guard = none) (s x : Operand) (t : TypeId)
    (ho : o.op = .call { callee := .builtin .append, args := #[s, x], argTypes := #[t, t] })
    {e sz bytes : Nat} {z : Value} (ht : SlT P t e sz bytes z) (hz : z.cells.size = sz) {B : Nat} (hx0 : B ≤ W.heap.size) {v : Value} {n : Nat} {xs : List Value} (hown : W.ownsRow B e sz v n xs)
    (hs : a.eval s = v) (us : Array Value) (hl : us.toList.length = sz) (hu : ∀ u ∈ us.toList, u.oneCell' = true) (hx : a.eval x = .slice (some ⟨W.heap.size, 0, none⟩) 1 1) (h63 : n + 1 ≤ 4294967296) (hby : bytes ≤ 4096)
    (h : ∀ v' w', w'.ownsRow B e sz v' (n + 1) (xs ++ us.toList) → W.grownBy w' v.ownBlock → Moved W v v' → wpList P ops Q rest (a.put o.dst v') w') : wpList P ops Q (o :: rest) a (W.alloc (.cells us e)) := by
  obtain ⟨i, hi, hiz, his, hib⟩ := ht.inf
  have hB : (n + 1) * bytes ≤ 4294967296 * 4096 := Nat.mul_le_mul h63 hby
  have hcell : ∀ j u, us.toList[j]? = some u → (W.alloc (.cells us e)).cell? ((⟨W.heap.size, 0, none⟩ : Addr).add j) = some u := by
    intro j y hy
    rw [Addr.add_lit, Nat.zero_add]
    simpa using hy
  have hown' := hown.alloc (.cells us e)
  obtain ⟨v', w', hr, h2, h3, h4⟩ := run_append_own (P := P) (W.alloc (.cells us e)) B t o.type e i z sz bytes ht.und hi hiz his hib hz ht.pos v n xs hown' ⟨W.heap.size, 0, none⟩ 1 1 us.toList (by rw [hl, Nat.one_mul]) hcell hu (by unfold maxLen; omega) (by omega) (by simp; omega)
  subst his; subst hib
  have hw := append_where (P := P) ht.und hi hiz hown' (m := 1) (c := 1) (by rw [hl, Nat.one_mul]) hcell hu (by unfold maxLen; omega) (by omega) hr
  have hg : W.grownBy w' v.ownBlock := ⟨h3.os, h3.tape, h3.output, by have := h3.size; simp at this; omega, fun k hk hne => by
      rw [h3.block k (by simp; omega) hne]; exact heap_alloc_old W _ hk⟩
  refine wpList_plain hgd fun K hK => ?_
  unfold Oper.wp
  simp [execOp, ho, resolve, invoke, builtin, hs, hx, hr, Result.andThen]
  refine hK _ _ (h v' w' h2 hg ?_)
  rcases hw with hw | hw
  · exact .inl hw
  · refine .inr fun k hk => ?_
    rw [hw] at hk
    have := Option.some.inj hk
    simp at this; omega
end
end Go.Att
/-! A slice of slices that the call owns, grown one slice at a time. -/
namespace Go.Att
open Go.RowKit
structure Grid (B : Nat) (w : World) (e : TypeId) (v : Value) (L : List (List Int)) (R : Nat → Value) : Prop where
  own : w.ownsRow B e 1 v L.length ((List.range L.length).map R)
  row : ∀ i, i < L.length → Ints w (R i) (nthL L i)
  lt : ∀ i, i < L.length → ∀ k, (R i).ownBlock = some k → B ≤ k ∧ k < w.heap.size ∧ some k ≠ v.ownBlock
section
variable {B : Nat} {w w' : World} {e : TypeId} {v : Value} {L : List (List Int)} {R : Nat → Value}
theorem Grid.ext (h : Grid B w e v L R) (hx : Ext w w') : Grid B w' e v L R :=
  ⟨own_ext h.own hx, fun i hi => (h.row i hi).ext hx, fun i hi k hk => ⟨(h.lt i hi k hk).1, Nat.lt_of_lt_of_le (h.lt i hi k hk).2.1 hx.size, (h.lt i hi k hk).2.2⟩⟩
theorem Grid.nil (B : Nat) (w : World) (e : TypeId) (R : Nat → Value) : Grid B w e (.slice none 0 0) [] R := ⟨World.ownsRow_nil _ _ _ _, fun i hi => by simp at hi, fun i hi => by simp at hi⟩
theorem Grid.set (h : Grid B w e v L R) {i : Nat} (hi : i < L.length) {u : Value} (hu : Ints w u (nthL L i)) (hlt : ∀ k, u.ownBlock = some k → B ≤ k ∧ k < w.heap.size ∧ some k ≠ v.ownBlock)
    (ho : w'.ownsRow B e 1 v L.length (((List.range L.length).map R).take (i * 1) ++ [u] ++ ((List.range L.length).map R).drop (i * 1 + 1))) (hg : w.grownBy w' v.ownBlock) : Grid B w' e v L (fun j => if j = i then u else R j) := by
  have hr : (List.range L.length).map (fun j => if j = i then u else R j) = ((List.range L.length).map R).take (i * 1) ++ [u] ++ ((List.range L.length).map R).drop (i * 1 + 1) := by
    apply List.ext_getElem?
    intro j
    rw [Nat.mul_one]
    by_cases hj : j < L.length
    · by_cases h1 : j < i
      · rw [List.append_assoc, List.getElem?_append_left (by simp; omega), List.getElem?_take, if_pos h1]
        simp [hj, show ¬ j = i by omega]
      · by_cases h2 : j = i
        · subst h2
          rw [List.append_assoc, List.getElem?_append_right (by simp; omega)]
          simp [hj, show min j L.length = j by omega]
        · rw [List.getElem?_append_right (by simp; omega)]
          simp only [List.length_append, List.length_take, List.length_map, List.length_range, List.length_singleton, List.getElem?_drop]
          rw [show i + 1 + (j - (min i L.length + 1)) = j by omega]
          simp [hj, h2]
    · rw [List.getElem?_eq_none (by simpa using hj), List.getElem?_eq_none (by simp; omega)]
  have far : ∀ x : Value, (∀ k, x.ownBlock = some k → B ≤ k ∧ k < w.heap.size ∧ some k ≠ v.ownBlock) → ∀ k, x.ownBlock = some k → B ≤ k ∧ k < w'.heap.size ∧ some k ≠ v.ownBlock := fun x hx k hk => ⟨(hx k hk).1, Nat.lt_of_lt_of_le (hx k hk).2.1 hg.size, (hx k hk).2.2⟩
  refine ⟨by rw [hr]; exact ho, fun j hj => ?_, fun j hj => ?_⟩
  · by_cases h2 : j = i
    · subst h2; rw [if_pos rfl]; exact hu.grown hg fun k hk => (hlt k hk).2.2
    · rw [if_neg h2]; exact (h.row j hj).grown hg fun k hk => (h.lt j hj k hk).2.2
  · by_cases h2 : j = i
    · subst h2; simp only [if_true]; exact far _ hlt
    · simp only [if_neg h2]; exact far _ (h.lt j hj)
theorem Grid.low (h : Grid B w e v L R) {b : Nat} (hg : w.grownBy w' (some b)) (hb : b < B) : Grid B w' e v L R := by
  refine ⟨?_, fun i hi => (h.row i hi).grown hg fun k hk hc => ?_, fun i hi k hk => ⟨(h.lt i hi k hk).1, Nat.lt_of_lt_of_le (h.lt i hi k hk).2.1 hg.size, (h.lt i hi k hk).2.2⟩⟩
  · refine ⟨h.own.1, ?_⟩
    rcases h.own.2 with h2 | ⟨g, cap, cur, hv, hbg, hgg, hr⟩
    · exact .inl h2
    · exact .inr ⟨g, cap, cur, hv, hbg, by rw [hg.block g (Array.getElem?_eq_some_iff.1 hgg).1 (fun e => by have := Option.some.inj e; omega)]; exact hgg, hr⟩
  · have := (h.lt i hi k hk).1
    have := Option.some.inj hc
    omega
end
theorem setCell_grown (w : World) (b o : Nat) (x : Value) : w.grownBy (w.setCell ⟨b, o, none⟩ x) (some b) :=
  ⟨rfl, rfl, rfl, by simp [World.setCell], fun k hk hne => by
    have : b ≠ k := fun e => hne (by rw [e])
    simp [World.setCell, Array.getElem?_modify, this]⟩
end Go.Att
/-! Words for worlds: the first, the last of a slice of ints. No program in sight. -/
namespace Go.Att
open Go.RowKit
theorem elem_of {P : Program} {t e : TypeId} (h : P.underlying t = some (.slice e)) : P.elem t = e := by simp [Program.elem, h]
def upTo (v : Value) (k : Nat) : Value := match v with
  | .slice a _ cap => sliced a 0 k cap 1
  | v => v
def fromV (v : Value) (k : Nat) : Value := match v with
  | .slice a n cap => sliced a k n cap 1
  | v => v
section
variable {P : Program} {w : World} {v : Value} {l : List Int}
theorem Ints.take (h : Ints w v l) (k : Nat) (hk : k ≤ l.length) : Ints w (upTo v k) (l.take k) := by
  obtain ⟨ao, cap, rfl, h2, h3, h4, h5⟩ := h
  refine ⟨ao, cap, ?_, ?_, ?_, h4, fun i hi => ?_⟩
  · have hl : (l.take k).length = k := by simp; omega
    rw [hl]
    cases ao with
    | none => simp [upTo, sliced]
    | some a =>
      rcases a with ⟨b, o, s⟩
      simp only [upTo, sliced, Nat.sub_zero]
      split
      · rfl
      · simp [Addr.add]
  · simp
  · simp; omega
  · have hi' : i < k ∧ i < l.length := by simp at hi; omega
    obtain ⟨b, off, e1, e2⟩ := h5 i (by simpa using hi'.2)
    exact ⟨b, off, e1, by rw [e2]; simp⟩
theorem Ints.drop (h : Ints w v l) (k : Nat) (hk : k ≤ l.length) : Ints w (fromV v k) (l.drop k) := by
  obtain ⟨ao, cap, rfl, h2, h3, h4, h5⟩ := h
  have hl : (l.drop k).length = l.length - k := by simp
  by_cases hc : cap = k
  · have h0 : l.length - k = 0 := by omega
    refine ⟨ao, cap - k, ?_, by simp, by omega, by omega, fun i hi => ?_⟩
    · rw [hl]; simp [fromV, sliced, hc]
    · simp at hi; omega
  · cases ao with
    | none =>
      have hn : l.length = 0 := by
        apply Classical.byContradiction
        intro hn
        obtain ⟨b, off, e1, _⟩ := h5 0 (by simp; omega)
        cases e1
      refine ⟨none, cap - k, ?_, by simp, by omega, by omega, fun i hi => ?_⟩
      · rw [hl]; simp [fromV, sliced]
      · simp at hi; omega
    | some a =>
      refine ⟨some (a.add k), cap - k, ?_, by simp, by omega, by omega, fun i hi => ?_⟩
      · rw [hl]; simp [fromV, sliced, hc]
      · have hi' : i < l.length - k := by simpa using hi
        obtain ⟨b, off, e1, e2⟩ := h5 (k + i) (by simp; omega)
        have e1' := Option.some.inj e1
        subst e1'
        refine ⟨b, off + k, ?_, ?_⟩
        · rw [Addr.add_lit]
        · rw [Nat.add_assoc, e2]; simp
end
end Go.Att
