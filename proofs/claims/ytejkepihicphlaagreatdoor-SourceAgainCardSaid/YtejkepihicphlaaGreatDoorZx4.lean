/- The machine's map and block, plain: a datum that reads as what was told; a block known whole; what two blocks' change leaves. Code as text: what is written, in plain words. No program in sight. -/
import Derived.Maps.OwnSet
import Derived.Test.YtejkepihicphlaaGreatDoorM1
import Derived.Test.YtejkepihicphlaaGreatDoorVc
import Derived.Lib.ItoaNum
import Derived.Lib.ItoaLen
import Derived.Lib.Join
section
namespace Go.Att
open Go.Maps Go.RowKit
structure MemD {H : Type} (D : DataW H) (mem : List (Int × Int)) : Prop where
  tidy : Tidy D
  has : ∀ k : Int, Maps.has D (.int .i64 k) = (lk mem k).isSome
  at_ : ∀ (k v : Int) (z : DataW H), lk mem k = some v → D.atKey (.int .i64 k) z = .lit (.int .i64 v)
section
variable {H : Type} {D : DataW H} {mem : List (Int × Int)}
theorem MemD.nil : MemD (.map [] : DataW H) [] := ⟨tidy_empty, fun k => rfl, fun k v z h => by cases h⟩
theorem lit_ne {k k' : Int} (h : k' ≠ k) : (Lit.int .i64 k' : Lit) ≠ .int .i64 k := fun e => h (by injection e)
theorem MemD.tell (h : MemD D mem) {k v : Int} (hk : WideAt.IsKeyLit (Lit.int .i64 k)) (hl : lk mem k = none) : MemD (D.put (.int .i64 k) (.lit (.int .i64 v))) (mem ++ [(k, v)]) := by
  refine ⟨h.tidy.put hk _, fun j => ?_, fun j u z hj => ?_⟩
  · by_cases e : j = k
    · subst e; rw [has_put_same h.tidy.isMap hk, lk_new hl]; rfl
    · rw [has_put_other (lit_ne e), h.has, lk_app]
      cases hj : lk mem j with
      | some x => rfl
      | none => simp [Ne.symm e]
  · by_cases e : j = k
    · subst e
      rw [lk_new hl] at hj; cases hj
      exact atKey_put_same h.tidy.isMap hk _ _
    · rw [atKey_put_other (lit_ne e)]
      rw [lk_app] at hj
      cases hx : lk mem j with
      | some x => rw [hx] at hj; cases hj; exact h.at_ _ _ _ hx
      | none => rw [hx] at hj; simp [Ne.symm e] at hj
theorem MemD.again (h : MemD D mem) {k v : Int} (hk : WideAt.IsKeyLit (Lit.int .i64 k)) (hl : lk mem k = some v) : MemD (D.put (.int .i64 k) (.lit (.int .i64 v))) mem := by
  refine ⟨h.tidy.put hk _, fun j => ?_, fun j u z hj => ?_⟩
  · by_cases e : j = k
    · subst e; rw [has_put_same h.tidy.isMap hk, hl]; rfl
    · rw [has_put_other (lit_ne e), h.has]
  · by_cases e : j = k
    · subst e
      rw [hl] at hj; cases hj
      exact atKey_put_same h.tidy.isMap hk _ _
    · rw [atKey_put_other (lit_ne e)]; exact h.at_ _ _ _ hj
end
def Tmem (P : Program) (K : TypeId) (w : World) (mb : Nat) (n : Int) (mem : List (Int × Int)) : Prop := ∃ (c : Nat) (D : DataW Unit), (c : Int) ≤ n ∧ w.ownsMap P K (plainElem P K) mb c D ∧ MemD D mem
section
variable {P : Program} {K T : TypeId} {w w' : World} {mb : Nat} {n : Int} {mem : List (Int × Int)}
theorem wf_small {k : Int} (h0 : 0 ≤ k) (h1 : k ≤ 2147483647) : (Lit.int .i64 k).wf = true := WalkArith.wf_i64 (by omega)
theorem Tmem.lt (h : Tmem P K w mb n mem) : mb < w.heap.size := by obtain ⟨c, D, _, h2, _⟩ := h; exact h2.lt
theorem Tmem.kept (h : Tmem P K w mb n mem) {row : Option Nat} (hg : w.grownBy w' row) (hne : some mb ≠ row) : Tmem P K w' mb n mem := by
  obtain ⟨c, D, h1, h2, h3⟩ := h; exact ⟨c, D, h1, h2.kept hg hne, h3⟩
theorem Tmem.mono (h : Tmem P K w mb n mem) {m : Int} (hm : n ≤ m) : Tmem P K w mb m mem := by
  obtain ⟨c, D, h1, h2, h3⟩ := h; exact ⟨c, D, Int.le_trans h1 hm, h2, h3⟩
variable (hk : P.underlying K = some (.int .i64)) (ht : P.underlying T = some (.map K K)) (hz : ∀ w, (zeroValue K).run P w = .ok (.int .i64 0) w)
include hk ht hz
theorem Tmem.look (h : Tmem P K w mb n mem) {k v : Int} (h0 : 0 ≤ k) (h1 : k ≤ 2147483647) (hl : lk mem k = some v) : (Instr.lookup T (.map (some mb)) (.int .i64 k) false).run P w = .ok (.int .i64 v) w := by
  obtain ⟨c, D, _, h2, h3⟩ := h
  obtain ⟨u, hr, ha, _⟩ := h2.lookup_int (int_keyed hk) ht hk (hz w) (keyOf_int_mk hk (wf_small h0 h1))
  rw [h3.at_ _ _ _ hl] at ha
  injection ha with ha
  injection ha with _ ha
  rw [ha]; exact hr
end
def BlkOf (w : World) (b : Nat) (cs : List Value) (t : TypeId) : Prop := w.heap[b]? = some (.cells cs.toArray t (0, 0))
section
variable {w w' : World} {b : Nat} {cs : List Value} {t : TypeId}
theorem BlkOf.cell (h : BlkOf w b cs t) (i : Nat) : w.cell? ⟨b, i, none⟩ = cs[i]? := by unfold BlkOf at h; simp [World.cell?, h]
theorem BlkOf.free (h : BlkOf w b cs t) (i : Nat) : w.frozen? ⟨b, i, none⟩ = false := by unfold BlkOf at h; simp [World.frozen?, h]
theorem BlkOf.lt (h : BlkOf w b cs t) : b < w.heap.size := lt_of_block h
theorem BlkOf.set (h : BlkOf w b cs t) (i : Nat) (v : Value) : BlkOf (w.setCell ⟨b, i, none⟩ v) b (cs.set i v) t := by
  have hlt := h.lt
  unfold BlkOf at *
  have h' : w.heap[b] = .cells cs.toArray t (0, 0) := by simpa [Array.getElem?_eq_getElem hlt] using h
  show (w.heap.modify b _)[b]? = _
  rw [Array.getElem?_eq_getElem (by simpa using hlt), Array.getElem_modify_self, h']
  simp
theorem BlkOf.grown (h : BlkOf w b cs t) {row : Option Nat} (hg : w.grownBy w' row) (hne : some b ≠ row) : BlkOf w' b cs t := by
  unfold BlkOf at *; rw [hg.block b (lt_of_block h) hne]; exact h
theorem BlkOf.ext (h : BlkOf w b cs t) (hx : Ext w w') : BlkOf w' b cs t := h.grown (hx.grownBy none) (by simp)
theorem BlkOf.new (w : World) (cs : List Value) (t : TypeId) : BlkOf (w.alloc (.cells cs.toArray t)) w.heap.size cs t := by
  unfold BlkOf; exact heap_alloc_new _ _
end
theorem grown_one {W w w' : World} {b : Option Nat} (h : W.grownBy w b) (k : w.grownBy w' b) : W.grownBy w' b :=
  ⟨k.os.trans h.os, k.tape.trans h.tape, k.output.trans h.output, Nat.le_trans h.size k.size, fun q hq hne => by rw [k.block q (Nat.lt_of_lt_of_le hq h.size) hne]; exact h.block q hq hne⟩
structure Turned (b c : Nat) (w w' : World) : Prop where
  os : w'.os = w.os
  tape : w'.tape = w.tape
  output : w'.output = w.output
  size : w.heap.size ≤ w'.heap.size
  block : ∀ q, q < w.heap.size → q ≠ b → q ≠ c → w'.heap[q]? = w.heap[q]?
section
variable {b c : Nat} {w w' w'' : World}
theorem Turned.refl (b c : Nat) (w : World) : Turned b c w w := ⟨rfl, rfl, rfl, Nat.le_refl _, fun _ _ _ _ => rfl⟩
theorem Turned.trans (h : Turned b c w w') (k : Turned b c w' w'') : Turned b c w w'' :=
  ⟨k.os.trans h.os, k.tape.trans h.tape, k.output.trans h.output, Nat.le_trans h.size k.size, fun q h1 h2 h3 => (k.block q (Nat.lt_of_lt_of_le h1 h.size) h2 h3).trans (h.block q h1 h2 h3)⟩
theorem Turned.one (hg : w.grownBy w' (some b)) : Turned b c w w' := ⟨hg.os, hg.tape, hg.output, hg.size, fun q h1 h2 _ => hg.block q h1 (fun e => h2 (Option.some.inj e))⟩
theorem Turned.two (hg : w.grownBy w' (some c)) : Turned b c w w' := ⟨hg.os, hg.tape, hg.output, hg.size, fun q h1 _ h3 => hg.block q h1 (fun e => h3 (Option.some.inj e))⟩
theorem Turned.ext {w0 : World} (h : Turned b c w w') (hx : Ext w0 w) (hb : w0.heap.size ≤ b) (hc : w0.heap.size ≤ c) : Ext w0 w' :=
  ⟨h.os.trans hx.below.os, h.tape.trans hx.below.tape, h.output.trans hx.below.output, Nat.le_trans hx.size h.size, fun q hq => (h.block q (Nat.lt_of_lt_of_le hq hx.size) (by omega) (by omega)).trans (hx.below.block q hq)⟩
theorem Turned.blk (h : Turned b c w w') {q : Nat} {cs : List Value} {t : TypeId} (hk : BlkOf w q cs t) (h1 : q ≠ b) (h2 : q ≠ c) : BlkOf w' q cs t := by
  unfold BlkOf at *; rw [h.block q (lt_of_block hk) h1 h2]; exact hk
theorem Turned.cell (h : Turned b c w w') {a : Addr} {v : Value} (hk : w.cell? a = some v) (h1 : a.block ≠ b) (h2 : a.block ≠ c) : w'.cell? a = some v := by
  rw [World.cell?_of_block (h.block a.block (World.block_lt_of_cell? w a hk) h1 h2)]; exact hk
theorem Turned.own (h : Turned b c w w') {B e sz n : Nat} {v : Value} {xs : List Value} (ho : w.ownsRow B e sz v n xs) (h1 : v.ownBlock ≠ some b) (h2 : v.ownBlock ≠ some c) : w'.ownsRow B e sz v n xs := by
  refine ⟨ho.1, ?_⟩
  rcases ho.2 with h3 | ⟨g, cap, cur, hv, hb, hg, hr⟩
  · exact .inl h3
  · subst hv
    exact .inr ⟨g, cap, cur, rfl, hb, by rw [h.block g (lt_of_block hg) (fun e => h1 (by simp [Value.ownBlock, e])) (fun e => h2 (by simp [Value.ownBlock, e]))]; exact hg, hr⟩
end
end Go.Att
end
section
namespace Go.Att
open Go.RowKit
def wordA : Nat → List UInt8
  | 0 => [104, 97, 108, 116]
  | 1 => [97, 100, 100]
  | 2 => [115, 117, 98]
  | 3 => [109, 117, 108]
  | 4 => [100, 105, 118]
  | 5 => [115, 101, 116]
  | 6 => [115, 97, 109, 101]
  | 7 => [109, 117, 115, 116]
  | 8 => [106, 117, 109, 112]
  | 9 => [122, 101, 114, 111]
  | 10 => [99, 97, 108, 108]
  | 11 => [98, 97, 99, 107]
  | 12 => [116, 97, 107, 101]
  | _ => [112, 97, 115, 115]
def opsA : Nat → List Bool
  | 0 => [false]
  | 1 => [false, false, false]
  | 2 => [false, false, false]
  | 3 => [false, false, false]
  | 4 => [false, false, false]
  | 5 => [false, false]
  | 6 => [false, false, false]
  | 7 => [false, false]
  | 8 => [true]
  | 9 => [false, true]
  | 10 => [true, false]
  | 11 => [false]
  | 12 => [false]
  | _ => [false, false]
end Go.Att
end
