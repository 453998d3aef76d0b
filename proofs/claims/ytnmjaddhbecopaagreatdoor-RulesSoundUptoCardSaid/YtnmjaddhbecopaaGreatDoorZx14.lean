/- The machine's map and block, plain: a datum that reads as what was told; a block known whole; what two blocks' change leaves. Instructions: how a slice of them reads. Tables: what is helped with: plain words and the program's contract. What runs tell compared; code copied and compared; a field by itself: contracts. -/
import Derived.Maps.OwnSet
import Derived.Test.YtnmjaddhbecopaaGreatDoorM1
import Derived.Test.YtnmjaddhbecopaaGreatDoorVc
import Derived.Test.YtnmjaddhbecopaaGreatDoorProg
import Derived.StillTailTactics
import Derived.Test.YtnmjaddhbecopaaGreatDoorFa
import Derived.Test.YtnmjaddhbecopaaGreatDoorHa
import Derived.Test.YtnmjaddhbecopaaGreatDoorQt
import Derived.Test.YtnmjaddhbecopaaGreatDoorFc
import Derived.BigQuiet
section
namespace Go.Att
open Go.Maps Go.RowKit
/-- A map's datum that reads as what was told. -/
structure MemD {H : Type} (D : DataW H) (mem : List (Int × Int)) : Prop where
  tidy : Tidy D
  has : ∀ k : Int, Maps.has D (.int .i64 k) = (lk mem k).isSome
  at_ : ∀ (k v : Int) (z : DataW H), lk mem k = some v → D.atKey (.int .i64 k) z = .lit (.int .i64 v)
section
variable {H : Type} {D : DataW H} {mem : List (Int × Int)}
theorem MemD.nil : MemD (.map [] : DataW H) [] := ⟨tidy_empty, fun k => rfl, fun k v z h => by cases h⟩
theorem lit_ne {k k' : Int} (h : k' ≠ k) : (Lit.int .i64 k' : Lit) ≠ .int .i64 k := fun e => h (by injection e)
/-- A cell is told what it was not told yet. -/
theorem MemD.tell (h : MemD D mem) {k v : Int} (hk : WideAt.IsKeyLit (Lit.int .i64 k)) (hl : lk mem k = none) : MemD (D.put (.int .i64 k) (.lit (.int .i64 v))) (mem ++ [(k, v)]) := by
  refine ⟨h.tidy.put hk _, fun j => ?_, fun j u z hj => ?_⟩
  · by_cases e : j = k
    · subst e; rw [has_put_same h.tidy.isMap hk, lk_new hl]; rfl
    · rw [has_put_other (lit_ne e), h.has, lk_app]
      cases hj : lk mem j with
      | some x => rfl
      | none => simp [Ne.symm e]
  · by_cases e : j = k
    · subst e
      rw [lk_new hl] at hj; cases hj
      exact atKey_put_same h.tidy.isMap hk _ _
    · rw [atKey_put_other (lit_ne e)]
      rw [lk_app] at hj
      cases hx : lk mem j with
      | some x => rw [hx] at hj; cases hj; exact h.at_ _ _ _ hx
      | none => rw [hx] at hj; simp [Ne.symm e] at hj
/-- A cell is told again what it was told. -/
theorem MemD.again (h : MemD D mem) {k v : Int} (hk : WideAt.IsKeyLit (Lit.int .i64 k)) (hl : lk mem k = some v) : MemD (D.put (.int .i64 k) (.lit (.int .i64 v))) mem := by
  refine ⟨h.tidy.put hk _, fun j => ?_, fun j u z hj => ?_⟩
  · by_cases e : j = k
    · subst e; rw [has_put_same h.tidy.isMap hk, hl]; rfl
    · rw [has_put_other (lit_ne e), h.has]
  · by_cases e : j = k
    · subst e
      rw [hl] at hj; cases hj
      exact atKey_put_same h.tidy.isMap hk _ _
    · rw [atKey_put_other (lit_ne e)]; exact h.at_ _ _ _ hj
end
/-- What a map's block was told; n bounds how many entries it has. -/
def Tmem (P : Program) (K : TypeId) (w : World) (mb : Nat) (n : Int) (mem : List (Int × Int)) : Prop := ∃ (c : Nat) (D : DataW Unit), (c : Int) ≤ n ∧ w.ownsMap P K (plainElem P K) mb c D ∧ MemD D mem
section
variable {P : Program} {K T : TypeId} {w w' : World} {mb : Nat} {n : Int} {mem : List (Int × Int)}
theorem wf_small {k : Int} (h0 : 0 ≤ k) (h1 : k ≤ 2147483647) : (Lit.int .i64 k).wf = true := WalkArith.wf_i64 (by omega)
theorem Tmem.lt (h : Tmem P K w mb n mem) : mb < w.heap.size := by obtain ⟨c, D, _, h2, _⟩ := h; exact h2.lt
theorem Tmem.kept (h : Tmem P K w mb n mem) {row : Option Nat} (hg : w.grownBy w' row) (hne : some mb ≠ row) : Tmem P K w' mb n mem := by
  obtain ⟨c, D, h1, h2, h3⟩ := h; exact ⟨c, D, h1, h2.kept hg hne, h3⟩
theorem Tmem.mono (h : Tmem P K w mb n mem) {m : Int} (hm : n ≤ m) : Tmem P K w mb m mem := by
  obtain ⟨c, D, h1, h2, h3⟩ := h; exact ⟨c, D, Int.le_trans h1 hm, h2, h3⟩
variable (hk : P.underlying K = some (.int .i64)) (ht : P.underlying T = some (.map K K)) (hz : ∀ w, (zeroValue K).run P w = .ok (.int .i64 0) w)
include hk ht hz
theorem Tmem.look (h : Tmem P K w mb n mem) {k v : Int} (h0 : 0 ≤ k) (h1 : k ≤ 2147483647) (hl : lk mem k = some v) : (Instr.lookup T (.map (some mb)) (.int .i64 k) false).run P w = .ok (.int .i64 v) w := by
  obtain ⟨c, D, _, h2, h3⟩ := h
  obtain ⟨u, hr, ha, _⟩ := h2.lookup_int (int_keyed hk) ht hk (hz w) (keyOf_int_mk hk (wf_small h0 h1))
  rw [h3.at_ _ _ _ hl] at ha
  injection ha with ha
  injection ha with _ ha
  rw [ha]; exact hr
theorem Tmem.look_yes (h : Tmem P K w mb n mem) {k v : Int} (h0 : 0 ≤ k) (h1 : k ≤ 2147483647) (hl : lk mem k = some v) : (Instr.lookup T (.map (some mb)) (.int .i64 k) true).run P w = .ok (.tuple #[.int .i64 v, .bool true]) w := by
  obtain ⟨c, D, _, h2, h3⟩ := h
  obtain ⟨u, ps, hr, hu⟩ := h2.look_ok (int_keyed hk) ht (hz w) (plainElem_int hk (by decide)) (keyOf_int_mk hk (wf_small h0 h1))
  rw [h3.at_ _ _ _ hl] at hu
  obtain ⟨c, rfl, hc, _⟩ := plainElem_int_inv hk hu
  have e : v = c := by
    have := congrArg Prod.fst hc
    dsimp only at this
    injection this with this
    injection this with _ this
  rw [h3.has, hl] at hr
  rw [e]; exact hr
theorem Tmem.look_no (h : Tmem P K w mb n mem) {k : Int} (h0 : 0 ≤ k) (h1 : k ≤ 2147483647) (hl : lk mem k = none) : ∃ u : Int, (Instr.lookup T (.map (some mb)) (.int .i64 k) true).run P w = .ok (.tuple #[.int .i64 u, .bool false]) w := by
  obtain ⟨c, D, _, h2, h3⟩ := h
  obtain ⟨u, ps, hr, hu⟩ := h2.look_ok (int_keyed hk) ht (hz w) (plainElem_int hk (by decide)) (keyOf_int_mk hk (wf_small h0 h1))
  obtain ⟨c, rfl, hc, _⟩ := plainElem_int_inv hk hu
  rw [h3.has, hl] at hr
  exact ⟨c, hr⟩
omit hz in
theorem Tmem.store (h : Tmem P K w mb n mem) (hn : n < 9223372036854775807) {k v : Int} (h0 : 0 ≤ k) (h1 : k ≤ 2147483647) (h2 : 0 ≤ v) (h3 : v ≤ 2147483647) {mem' : List (Int × Int)} (hm : (lk mem k = none ∧ mem' = mem ++ [(k, v)]) ∨ (lk mem k = some v ∧ mem' = mem)) :
    ∃ w', (Instr.mapUpdate T (.map (some mb)) (.int .i64 k) (.int .i64 v)).run P w = .ok () w' ∧ Tmem P K w' mb (n + 1) mem' ∧ w.grownBy w' (some mb) := by
  obtain ⟨c, D, hc, ho, hd⟩ := h
  obtain ⟨w', hr, ho', hg⟩ := ho.update (int_keyed hk) ht (by unfold maxLen; omega) (keyOf_int_mk hk (wf_small h0 h1)) (plainElem_int hk (wf_small h2 h3))
  refine ⟨w', hr, ⟨c + 1, _, by omega, ho', ?_⟩, hg⟩
  rcases hm with ⟨hl, rfl⟩ | ⟨hl, rfl⟩
  · exact hd.tell trivial hl
  · exact hd.again trivial hl
end
/-- A block's cells, all of them. -/
def BlkOf (w : World) (b : Nat) (cs : List Value) (t : TypeId) : Prop := w.heap[b]? = some (.cells cs.toArray t (0, 0))
section
variable {w w' : World} {b : Nat} {cs : List Value} {t : TypeId}
theorem BlkOf.cell (h : BlkOf w b cs t) (i : Nat) : w.cell? ⟨b, i, none⟩ = cs[i]? := by unfold BlkOf at h; simp [World.cell?, h]
theorem BlkOf.free (h : BlkOf w b cs t) (i : Nat) : w.frozen? ⟨b, i, none⟩ = false := by unfold BlkOf at h; simp [World.frozen?, h]
theorem BlkOf.lt (h : BlkOf w b cs t) : b < w.heap.size := lt_of_block h
theorem BlkOf.set (h : BlkOf w b cs t) (i : Nat) (v : Value) : BlkOf (w.setCell ⟨b, i, none⟩ v) b (cs.set i v) t := by
  have hlt := h.lt
  unfold BlkOf at *
  have h' : w.heap[b] = .cells cs.toArray t (0, 0) := by simpa [Array.getElem?_eq_getElem hlt] using h
  show (w.heap.modify b _)[b]? = _
  rw [Array.getElem?_eq_getElem (by simpa using hlt), Array.getElem_modify_self, h']
  simp
theorem BlkOf.grown (h : BlkOf w b cs t) {row : Option Nat} (hg : w.grownBy w' row) (hne : some b ≠ row) : BlkOf w' b cs t := by
  unfold BlkOf at *; rw [hg.block b (lt_of_block h) hne]; exact h
theorem BlkOf.ext (h : BlkOf w b cs t) (hx : Ext w w') : BlkOf w' b cs t := h.grown (hx.grownBy none) (by simp)
theorem BlkOf.new (w : World) (cs : List Value) (t : TypeId) : BlkOf (w.alloc (.cells cs.toArray t)) w.heap.size cs t := by
  unfold BlkOf; exact heap_alloc_new _ _
end
theorem grown_one {W w w' : World} {b : Option Nat} (h : W.grownBy w b) (k : w.grownBy w' b) : W.grownBy w' b :=
  ⟨k.os.trans h.os, k.tape.trans h.tape, k.output.trans h.output, Nat.le_trans h.size k.size, fun q hq hne => by rw [k.block q (Nat.lt_of_lt_of_le hq h.size) hne]; exact h.block q hq hne⟩
/-- Two blocks may have changed, and new ones are there. -/
structure Turned (b c : Nat) (w w' : World) : Prop where
  os : w'.os = w.os
  tape : w'.tape = w.tape
  output : w'.output = w.output
  size : w.heap.size ≤ w'.heap.size
  block : ∀ q, q < w.heap.size → q ≠ b → q ≠ c → w'.heap[q]? = w.heap[q]?
section
variable {b c : Nat} {w w' w'' : World}
theorem Turned.refl (b c : Nat) (w : World) : Turned b c w w := ⟨rfl, rfl, rfl, Nat.le_refl _, fun _ _ _ _ => rfl⟩
theorem Turned.trans (h : Turned b c w w') (k : Turned b c w' w'') : Turned b c w w'' :=
  ⟨k.os.trans h.os, k.tape.trans h.tape, k.output.trans h.output, Nat.le_trans h.size k.size, fun q h1 h2 h3 => (k.block q (Nat.lt_of_lt_of_le h1 h.size) h2 h3).trans (h.block q h1 h2 h3)⟩
theorem Turned.one (hg : w.grownBy w' (some b)) : Turned b c w w' := ⟨hg.os, hg.tape, hg.output, hg.size, fun q h1 h2 _ => hg.block q h1 (fun e => h2 (Option.some.inj e))⟩
theorem Turned.two (hg : w.grownBy w' (some c)) : Turned b c w w' := ⟨hg.os, hg.tape, hg.output, hg.size, fun q h1 _ h3 => hg.block q h1 (fun e => h3 (Option.some.inj e))⟩
theorem Turned.of_ext (hx : Ext w w') : Turned b c w w' := Turned.one (hx.grownBy _)
theorem Turned.ext {w0 : World} (h : Turned b c w w') (hx : Ext w0 w) (hb : w0.heap.size ≤ b) (hc : w0.heap.size ≤ c) : Ext w0 w' :=
  ⟨h.os.trans hx.below.os, h.tape.trans hx.below.tape, h.output.trans hx.below.output, Nat.le_trans hx.size h.size, fun q hq => (h.block q (Nat.lt_of_lt_of_le hq hx.size) (by omega) (by omega)).trans (hx.below.block q hq)⟩
theorem Turned.blk (h : Turned b c w w') {q : Nat} {cs : List Value} {t : TypeId} (hk : BlkOf w q cs t) (h1 : q ≠ b) (h2 : q ≠ c) : BlkOf w' q cs t := by
  unfold BlkOf at *; rw [h.block q (lt_of_block hk) h1 h2]; exact hk
theorem Turned.cell (h : Turned b c w w') {a : Addr} {v : Value} (hk : w.cell? a = some v) (h1 : a.block ≠ b) (h2 : a.block ≠ c) : w'.cell? a = some v := by
  rw [World.cell?_of_block (h.block a.block (World.block_lt_of_cell? w a hk) h1 h2)]; exact hk
theorem Turned.own (h : Turned b c w w') {B e sz n : Nat} {v : Value} {xs : List Value} (ho : w.ownsRow B e sz v n xs) (h1 : v.ownBlock ≠ some b) (h2 : v.ownBlock ≠ some c) : w'.ownsRow B e sz v n xs := by
  refine ⟨ho.1, ?_⟩
  rcases ho.2 with h3 | ⟨g, cap, cur, hv, hb, hg, hr⟩
  · exact .inl h3
  · subst hv
    exact .inr ⟨g, cap, cur, rfl, hb, by rw [h.block g (lt_of_block hg) (fun e => h1 (by simp [Value.ownBlock, e])) (fun e => h2 (by simp [Value.ownBlock, e]))]; exact hg, hr⟩
end
end Go.Att
end
section
/-! Instructions: how a slice of them reads. -/
namespace Go.Att
open Go.RowKit
def flatQ (l : List In4) : List Value := l.flatMap fun c => [.int .i64 c.op, .int .i64 c.a, .int .i64 c.b, .int .i64 c.c]
theorem flatQ_length (l : List In4) : (flatQ l).length = l.length * 4 := by
  induction l with
  | nil => rfl
  | cons c l ih => simp only [flatQ, List.flatMap_cons, List.length_append, List.length_cons, List.length_nil] at *; omega
theorem flatQ_get (l : List In4) (i : Nat) (h : i < l.length) : (flatQ l)[i * 4]? = some (.int .i64 l[i].op) ∧ (flatQ l)[i * 4 + 1]? = some (.int .i64 l[i].a) ∧ (flatQ l)[i * 4 + 2]? = some (.int .i64 l[i].b) ∧ (flatQ l)[i * 4 + 3]? = some (.int .i64 l[i].c) := by
  induction l generalizing i with
  | nil => simp at h
  | cons c l ih =>
    cases i with
    | zero => simp [flatQ]
    | succ i =>
      have := ih i (by simpa using h)
      have e : (i + 1) * 4 = i * 4 + 4 := by omega
      simp only [flatQ, List.flatMap_cons, List.cons_append, List.nil_append, e] at *
      exact this
theorem nthI_eq {l : List In4} {i : Nat} (h : i < l.length) : nthI l i = l[i] := by simp [nthI, h]
/-- A slice of instructions. -/
def Inqs (w : World) (v : Value) (l : List In4) : Prop := Sl w 4 v l.length (flatQ l)
section
variable {P : Program} {w w' : World} {v : Value} {l : List In4}
theorem Inqs.ext (h : Inqs w v l) (hx : Ext w w') : Inqs w' v l := Sl.ext h hx
theorem Inqs.len (h : Inqs w v l) : l.length ≤ 9223372036854775807 := by have := Sl.len h; unfold maxLen at this; omega
theorem Inqs.run_len (h : Inqs w v l) {t e bytes : Nat} {z : Value} (ht : SlT P t e 4 bytes z) (ty : TypeId) (w' : World) :
    (Builtin.len_ #[t] ty #[v]).run P w' = .ok (.int .i64 l.length) w' := Sl.run_len h ht ty w'
theorem Inqs.run_index (h : Inqs w v l) {t e bytes : Nat} {z : Value} (ht : SlT P t e 4 bytes z) (i : Nat) (hi : i < l.length) (w' : World) :
    (Instr.indexAt t v (.int .i64 i)).run P w' = .ok (.pointer (some (elt v i 4))) w' := Sl.run_index h ht i (by omega) (by omega) w'
theorem Inqs.c0 (h : Inqs w v l) (i : Nat) (hi : i < l.length) : w.cell? (elt v i 4) = some (.int .i64 (nthI l i).op) := by
  have := Sl.cell h i 0 hi (by omega)
  simp only [Addr.add, if_true, Nat.add_zero] at this
  rw [this, (flatQ_get l i hi).1, nthI_eq hi]
theorem Inqs.c1 (h : Inqs w v l) (i : Nat) (hi : i < l.length) : w.cell? ⟨(elt v i 4).block, (elt v i 4).off + 1, none⟩ = some (.int .i64 (nthI l i).a) := by
  have := Sl.cell h i 1 hi (by omega)
  simp only [Addr.add] at this
  rw [if_neg (by omega)] at this
  rw [this, (flatQ_get l i hi).2.1, nthI_eq hi]
theorem Inqs.c2 (h : Inqs w v l) (i : Nat) (hi : i < l.length) : w.cell? ⟨(elt v i 4).block, (elt v i 4).off + 2, none⟩ = some (.int .i64 (nthI l i).b) := by
  have := Sl.cell h i 2 hi (by omega)
  simp only [Addr.add] at this
  rw [if_neg (by omega)] at this
  rw [this, (flatQ_get l i hi).2.2.1, nthI_eq hi]
theorem Inqs.c3 (h : Inqs w v l) (i : Nat) (hi : i < l.length) : w.cell? ⟨(elt v i 4).block, (elt v i 4).off + 3, none⟩ = some (.int .i64 (nthI l i).c) := by
  have := Sl.cell h i 3 hi (by omega)
  simp only [Addr.add] at this
  rw [if_neg (by omega)] at this
  rw [this, (flatQ_get l i hi).2.2.2, nthI_eq hi]
theorem Inqs.shape (h : Inqs w v l) : ∃ ao cap, v = .slice ao l.length cap := by
  obtain ⟨ao, cap, h1, _⟩ := h; exact ⟨ao, cap, h1⟩
end
end Go.Att
namespace Go.Proofs.YtnmjaddhbecopaaGreatDoor
open Go.RowKit Go.Att
theorem slIns : SlT Tryz.prog 46 169 4 32 (.agg #[.int .i64 0, .int .i64 0, .int .i64 0, .int .i64 0]) := .mk' Tryz.underlying46 (by kernel_rfl) (by decide)
end Go.Proofs.YtnmjaddhbecopaaGreatDoor
end
section
namespace Go.Att
open Go.RowKit
/-- What is helped with. -/
def hintM (p op a b : Int) : Int := if op = 4 then finv p b else if op = 6 then finv p (fsub p a b) else if op = 9 then finv p a else 0
end Go.Att
namespace Go.Proofs.YtnmjaddhbecopaaGreatDoor
open Go.RowKit Go.Att
set_option maxHeartbeats 4000000 in
theorem helped_any {w : World} {f : Value} {p g : Int} {fs : List Int} (hf : Fld w f p g fs) (op a b c : Int) : Calls Tryz.prog 182 #[f, .int .i64 op, .agg #[.int .i64 a, .int .i64 b, .int .i64 c]] w fun e w' => e = .returned (.int .i64 (hintM p op a b)) ∧ Ext w w' := by
  have hx := Ext.alloc w (Obj.cells #[.int .i64 a, .int .i64 b, .int .i64 c] 188)
  have HX := Lib.hid hx; have HF := Lib.hid (hf.ext hx)
  obtain ⟨bf, rfl⟩ := hf.ptr
  clear hf hx
  obtain ⟨r, hr⟩ : ∃ r, hintM p op a b = r := ⟨_, rfl⟩
  rw [hr]
  by_cases h4 : op = 4
  · have HR := Lib.hid (show finv p b = r by rw [← hr]; unfold hintM; rw [if_pos h4])
    subst h4
    clear hr
    go_enter Tryz.func182, Tryz.ntmps182
    go_wp2_with (go_at_call 125; refine (inv_any HF.out _).mono ?_; rintro e w' hrd; obtain ⟨rfl, hx1⟩ := hrd.ext; clear hrd)
    go_ret
    exact ⟨ret_int HR.out, HX.out.trans hx1⟩
  by_cases h6 : op = 6
  · have HR := Lib.hid (show finv p (fsub p a b) = r by rw [← hr]; unfold hintM; rw [if_neg h4, if_pos h6])
    subst h6
    clear hr h4
    go_enter Tryz.func182, Tryz.ntmps182
    go_wp2_with (first | (go_at_call 179; refine (sub_any HF.out _ _).mono ?_; rintro e w' hrd; obtain ⟨rfl, hx1⟩ := hrd.ext; clear hrd; replace HF := Lib.hid (HF.out.ext hx1)) | (go_at_call 125; refine (inv_any HF.out _).mono ?_; rintro e w' hrd; obtain ⟨rfl, hx2⟩ := hrd.ext; clear hrd))
    go_ret
    exact ⟨ret_int HR.out, HX.out.trans (hx1.trans hx2)⟩
  by_cases h9 : op = 9
  · have HR := Lib.hid (show finv p a = r by rw [← hr]; unfold hintM; rw [if_neg h4, if_neg h6, if_pos h9])
    subst h9
    clear hr h4 h6
    go_enter Tryz.func182, Tryz.ntmps182
    go_wp2_with (go_at_call 125; refine (inv_any HF.out _).mono ?_; rintro e w' hrd; obtain ⟨rfl, hx1⟩ := hrd.ext; clear hrd)
    go_ret
    exact ⟨ret_int HR.out, HX.out.trans hx1⟩
  · have HR := Lib.hid (show (0 : Int) = r by rw [← hr]; unfold hintM; rw [if_neg h4, if_neg h6, if_neg h9])
    have b4 : (op == 4) = false := by rw [beq_eq_false_iff_ne]; exact h4
    have b6 : (op == 6) = false := by rw [beq_eq_false_iff_ne]; exact h6
    have b9 : (op == 9) = false := by rw [beq_eq_false_iff_ne]; exact h9
    clear hr h4 h6 h9
    go_enter Tryz.func182, Tryz.ntmps182
    go_wp2_with fail
    go_ret
    exact ⟨ret_int HR.out, HX.out⟩
/-- How wide a row is. -/
theorem twidth_any (sz : Int) (lv : Value) (cd : List In4) (w : World) (hc : Inqs w lv cd) (hs : cd.length ≤ 1048576) : Calls Tryz.prog 72 #[.agg #[.int .i64 sz, lv]] w fun e w' => e = .returned (.int .i64 (20 + cd.length)) ∧ Ext w w' := by
  have hll := fun w' => hc.run_len (P := Tryz.prog) slIns 3 w'
  obtain ⟨ao, cap, rfl⟩ := hc.shape
  go_enter Tryz.func72, Tryz.ntmps72
  go_wp2_with fail
  go_ret
  exact ⟨rfl, Ext.alloc _ _⟩
end Go.Proofs.YtnmjaddhbecopaaGreatDoor
end
section
namespace Go.Proofs.YtnmjaddhbecopaaGreatDoor
open Go.RowKit Go.Att
theorem slCellM : SlT Tryz.prog 96 193 2 16 (.agg #[.int .i64 0, .int .i64 0]) := .mk' Tryz.underlying96 (by kernel_rfl) (by decide)
theorem prs_shape {w : World} {v : Value} {l : List (Int × Int)} (h : Prs w v l) : ∃ ao cap, v = .slice ao l.length cap := by
  obtain ⟨ao, cap, h1, _⟩ := h; exact ⟨ao, cap, h1⟩
/-- Two boxes, as they lie. -/
theorem two_boxes (w : World) (xs ys : List Value) (t u : TypeId) : ∃ W, (w.alloc (Obj.cells xs.toArray t)).alloc (Obj.cells ys.toArray u) = W ∧ BlkOf W w.heap.size xs t ∧ BlkOf W (w.heap.size + 1) ys u ∧ Ext w W := by
  refine ⟨_, rfl, (BlkOf.new w xs t).ext (Ext.alloc _ _), ?_, (Ext.alloc _ _).trans (Ext.alloc _ _)⟩
  have := BlkOf.new (w.alloc (Obj.cells xs.toArray t)) ys u
  rwa [show (w.alloc (Obj.cells xs.toArray t)).heap.size = w.heap.size + 1 by simp] at this
theorem flatQ_cells (L : List In4) : ∀ u ∈ flatQ L, u.oneCell' = true := by
  intro u hu
  unfold flatQ at hu
  rw [List.mem_flatMap] at hu
  obtain ⟨c, _, hc⟩ := hu
  simp only [List.mem_cons, List.not_mem_nil, or_false] at hc
  rcases hc with rfl | rfl | rfl | rfl <;> rfl
end Go.Proofs.YtnmjaddhbecopaaGreatDoor
end
