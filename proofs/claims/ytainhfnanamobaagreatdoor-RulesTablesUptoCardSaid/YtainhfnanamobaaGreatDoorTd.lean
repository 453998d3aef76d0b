/- Tables: their rows, plain; a row as a block. -/
import Derived.Test.YtainhfnanamobaaGreatDoorTb
import Derived.Test.YtainhfnanamobaaGreatDoorTa
import Derived.Test.YtainhfnanamobaaGreatDoorMj
import Derived.Test.YtainhfnanamobaaGreatDoorMn
import Derived.Test.YtainhfnanamobaaGreatDoorA1
namespace Go.Att
open Go.RowKit
/-- The first twenty of a row. -/
def head20 (t : Stp) (m h : Int) (q0 q1 q2 q3 : Int × Int) : List Int := [t.fp, t.ap, t.rv, accA t.acc 0, accA t.acc 1, accA t.acc 2, m, accI t.acc 0, accI t.acc 1, accI t.acc 2, 0, h, q0.1, q1.1, q2.1, q3.1, q0.2, q1.2, q2.2, q3.2]
def selM (n : Nat) (pc : Int) : List Int := (List.replicate n 0).set pc.toNat 1
def hintS (p : Int) (cd : List In4) (t : Stp) : Int := hintM p (nthI cd t.pc.toNat).op (accI t.acc 0) (accI t.acc 1)
def prs4 (t : Stp) (m : Int) : List (Int × Int) := [(accA t.acc 0, accI t.acc 0), (accA t.acc 1, accI t.acc 1), (accA t.acc 2, accI t.acc 2), (m, 0)]
def stpAt (l : List Stp) (i : Nat) : Stp := l.getD (min i (l.length - 1)) ⟨0, 0, 0, 0, []⟩
def prsT (l : List Stp) (ms : List Int) (n : Nat) : List (Int × Int) := (List.range n).flatMap fun i => prs4 (stpAt l i) (nth ms i)
def pickS (S : List (Int × Int)) (i j : Nat) : Int × Int := if j < i then nthP S j else (0, 0)
/-- A row, as far as the first i pairs in order go. -/
def rowK (p : Int) (cd : List In4) (t : Stp) (m : Int) (S : List (Int × Int)) (i r : Nat) : List Int :=
  head20 t m (hintS p cd t) (pickS S i (4 * r)) (pickS S i (4 * r + 1)) (pickS S i (4 * r + 2)) (pickS S i (4 * r + 3)) ++ selM cd.length t.pc
theorem rowK_length (p : Int) (cd : List In4) (t : Stp) (m : Int) (S : List (Int × Int)) (i r : Nat) : (rowK p cd t m S i r).length = 20 + cd.length := by simp [rowK, head20, selM]; omega
theorem rowK_other {p : Int} {cd : List In4} {t : Stp} {m : Int} {S : List (Int × Int)} {i r : Nat} (h : r ≠ i / 4) : rowK p cd t m S (i + 1) r = rowK p cd t m S i r := by
  have hp : ∀ k, k < 4 → pickS S (i + 1) (4 * r + k) = pickS S i (4 * r + k) := fun k hk => by
    unfold pickS
    by_cases h1 : 4 * r + k < i
    · rw [if_pos h1, if_pos (by omega)]
    · rw [if_neg h1, if_neg (by omega)]
  unfold rowK
  rw [show 4 * r = 4 * r + 0 by omega, hp 0 (by omega), Nat.add_zero, hp 1 (by omega), hp 2 (by omega), hp 3 (by omega)]
theorem rowK_this {p : Int} {cd : List In4} {t : Stp} {m : Int} {S : List (Int × Int)} {r k : Nat} (hk : k < 4) :
    rowK p cd t m S (4 * r + k + 1) r = ((rowK p cd t m S (4 * r + k) r).set (12 + k) (nthP S (4 * r + k)).1).set (16 + k) (nthP S (4 * r + k)).2 := by
  have hp : ∀ j, j ≠ k → pickS S (4 * r + k + 1) (4 * r + j) = pickS S (4 * r + k) (4 * r + j) := fun j hj => by
    unfold pickS
    by_cases h1 : 4 * r + j < 4 * r + k
    · rw [if_pos h1, if_pos (by omega)]
    · rw [if_neg h1, if_neg (by omega)]
  have hq : pickS S (4 * r + k + 1) (4 * r + k) = nthP S (4 * r + k) := by unfold pickS; rw [if_pos (by omega)]
  have h4 : k = 0 ∨ k = 1 ∨ k = 2 ∨ k = 3 := by omega
  unfold rowK
  have e0 : ∀ i, pickS S i (4 * r) = pickS S i (4 * r + 0) := fun i => by rw [Nat.add_zero]
  rw [e0, e0]
  rcases h4 with rfl | rfl | rfl | rfl
  · rw [hq, hp 1 (by omega), hp 2 (by omega), hp 3 (by omega)]; rfl
  · rw [hq, hp 0 (by omega), hp 2 (by omega), hp 3 (by omega)]; rfl
  · rw [hq, hp 0 (by omega), hp 1 (by omega), hp 3 (by omega)]; rfl
  · rw [hq, hp 0 (by omega), hp 1 (by omega), hp 2 (by omega)]; rfl
/-- A run's table. -/
def tabL (p : Int) (cd : List In4) (l : List Stp) (n : Nat) : List (List Int) := (List.range n).map fun r => rowK p cd (stpAt l r) (nth (missL l) r) (sortP (prsT l (missL l) n)) (4 * n) r
inductive Tr where
  | no (k : Int)
  | ok (T : List (List Int)) (out : Int)
/-- What a table comes to. -/
def tableM (p sz : Int) (cd : List In4) (n : Int) : Tr := if n < 1 ∨ 512 < n ∨ 64 < cd.length then .no 2 else match walkM p sz cd (n - 1) with
  | .no k => .no k
  | .done l out _ => if n < (missL l).length then .no 9 else .ok (tabL p cd l n.toNat) out
theorem prsT_succ (l : List Stp) (ms : List Int) (n : Nat) : prsT l ms (n + 1) = prsT l ms n ++ prs4 (stpAt l n) (nth ms n) := by simp [prsT, List.range_succ]
theorem prsT_length (l : List Stp) (ms : List Int) (n : Nat) : (prsT l ms n).length = 4 * n := by
  induction n with
  | zero => rfl
  | succ n ih => rw [prsT_succ, List.length_append, ih]; simp [prs4]; omega
/-- Bounds of a run's steps. -/
structure StpOk (p : Int) (cd : List In4) (t : Stp) : Prop where
  pc : 0 ≤ t.pc ∧ t.pc < cd.length
  fp : 0 ≤ t.fp ∧ t.fp < p
  ap : 0 ≤ t.ap ∧ t.ap < p
  rv : 0 ≤ t.rv ∧ t.rv < p
theorem runM_stps {p : Int} (hp : 2 ≤ p) {cd : List In4} : ∀ (n : Nat) (L : List Stp) (s : Ms) (l : List Stp) (out : Int) (mem : List (Int × Int)), Okm p s → runM p cd n L s = .done l out mem → (∀ t ∈ L, StpOk p cd t) → ∀ t ∈ l, StpOk p cd t := by
  intro n
  have hh : ∀ (L : List Stp) (s : Ms) (l : List Stp) (out i : Int) (mem : List (Int × Int)), Okm p s → ¬ (cd.length : Int) ≤ s.pc → (match s.blank.look i with
        | .no e => Rw.no e
        | .go v s' => .done (L ++ [s.note s'.acc]) v s'.mem) = .done l out mem → (∀ t ∈ L, StpOk p cd t) → ∀ t ∈ l, StpOk p cd t := by
    intro L s l out i mem h h1 hr hL
    obtain ⟨s', _, rfl, rfl⟩ := halt_done hr
    intro t ht
    rw [List.mem_append, List.mem_singleton] at ht
    rcases ht with ht | rfl
    · exact hL t ht
    · exact ⟨⟨h.pc.1, by simpa [Ms.note] using h1⟩, h.fp, h.ap, h.rv⟩
  induction n with
  | zero =>
    intro L s l out mem h hr hL
    rw [runM_eq] at hr
    by_cases h1 : (cd.length : Int) ≤ s.pc
    · rw [if_pos h1] at hr; cases hr
    rw [if_neg h1] at hr
    by_cases h2 : (nthI cd s.pc.toNat).op = 0
    · rw [if_pos h2] at hr; exact hh _ _ _ _ _ _ h h1 hr hL
    · rw [if_neg h2] at hr; cases hr
  | succ n ih =>
    intro L s l out mem h hr hL
    rw [runM_eq] at hr
    by_cases h1 : (cd.length : Int) ≤ s.pc
    · rw [if_pos h1] at hr; cases hr
    rw [if_neg h1] at hr
    by_cases h2 : (nthI cd s.pc.toNat).op = 0
    · rw [if_pos h2] at hr; exact hh _ _ _ _ _ _ h h1 hr hL
    · rw [if_neg h2] at hr
      dsimp only at hr
      cases ho : s.blank.one p (nthI cd s.pc.toNat) with
      | no e => rw [ho] at hr; cases hr
      | go v s' =>
        rw [ho] at hr
        refine ih _ _ _ _ _ (one_aft hp (blank_ok h) ho).ok hr (fun t ht => ?_)
        rw [List.mem_append, List.mem_singleton] at ht
        rcases ht with ht | rfl
        · exact hL t ht
        · exact ⟨⟨h.pc.1, by simpa [Ms.note] using h1⟩, h.fp, h.ap, h.rv⟩
/-- All that a table needs of a run. -/
structure RunOk (p : Int) (cd : List In4) (l : List Stp) (out lim : Int) : Prop where
  ne : 1 ≤ l.length
  len : (l.length : Int) ≤ lim + 1
  stp : ∀ t ∈ l, StpOk p cd t
  at_ : ∀ t ∈ l, ∀ j, 0 ≤ accA t.acc j ∧ accA t.acc j < p
  is_ : ∀ t ∈ l, ∀ j, 0 ≤ accI t.acc j ∧ accI t.acc j < p
  last : accI (stpAt l (l.length - 1)).acc 0 = out
theorem walkM_ok {p sz lim : Int} {cd : List In4} {l : List Stp} {out : Int} {mem : List (Int × Int)} (hp : 2 ≤ p) (h : walkM p sz cd lim = .done l out mem) : RunOk p cd l out lim := by
  obtain ⟨hen, h0, _⟩ := walkM_ended hp h
  obtain ⟨ht, _⟩ := walkM_told hp h
  obtain ⟨l', t, hl, ho, _, hn⟩ := hen.last
  have hll : l.length = l'.length + 1 := by rw [hl]; simp
  have hbd : ∀ t ∈ l, ∀ j, (0 ≤ accA t.acc j ∧ accA t.acc j < p) ∧ (0 ≤ accI t.acc j ∧ accI t.acc j < p) := fun t hm j => hen.bd _ (lk_mem (ht t hm j))
  refine ⟨by omega, by simp at hn; omega, ?_, fun t hm j => (hbd t hm j).1, fun t hm j => (hbd t hm j).2, ?_⟩
  · unfold walkM at h
    split at h
    · exact runM_stps hp _ _ _ _ _ _ (start_ok hp) h (fun t ht => by simp at ht)
    · cases h
  · unfold stpAt
    rw [Nat.min_self, hl]
    simp [ho]
theorem stpAt_mem {l : List Stp} (h : 1 ≤ l.length) (i : Nat) : stpAt l i ∈ l := by
  unfold stpAt
  have : min i (l.length - 1) < l.length := by omega
  rw [List.getD_eq_getElem?_getD, List.getElem?_eq_getElem this]
  exact List.getElem_mem this
/-- A slice over a whole block. -/
theorem BlkOf.sl {w : World} {b n : Nat} {cs : List Value} {t : TypeId} (h : BlkOf w b cs t) (hl : cs.length = n) (hn : n ≤ maxLen) : Sl w 1 (.slice (some ⟨b, 0, none⟩) n n) n cs :=
  ⟨_, _, rfl, by omega, Nat.le_refl _, hn, fun i hi => ⟨b, 0, rfl, by rw [Nat.zero_add, h.cell i, List.getElem?_eq_getElem hi]⟩⟩
section
variable {P : Program} {ops : Array Oper} {rest : List Oper} {o : Oper} {a : Act} {Q : Exit → Act → World → Prop}
theorem run_ixB {t e bytes : Nat} {z : Value} (ht : SlT P t e 1 bytes z) (b : Nat) {n i : Nat} (hi : i < n) (hn : n ≤ maxLen) (w : World) : (Instr.indexAt t (.slice (some ⟨b, 0, none⟩) n n) (.int .i64 (i : Int))).run P w = .ok (.pointer (some ⟨b, i, none⟩)) w := by
  obtain ⟨W, hW⟩ : ∃ W : World, BlkOf W b (List.replicate n (.int .i64 0)) e := ⟨{ (default : World) with heap := Array.replicate (b + 1) (.cells (List.replicate n (Value.int .i64 0)).toArray e (0, 0)) }, by unfold BlkOf; simp⟩
  have := Sl.run_index (P := P) (hW.sl (by simp) hn) ht (i : Int) (by omega) (by omega) w
  rw [this, Int.toNat_natCast]
  simp only [elt, Addr.add, Nat.mul_one]
  by_cases h0 : i = 0
  · subst h0; rfl
  · rw [if_neg h0]; simp
/-- 'make([]int, n)': a block known whole. -/
theorem wpList_mkRow {W : World} (hgd : o.guard = none) (l c : Operand) (t : TypeId) (hop : o.op = Op.makeSlice t l c) {e : Nat} (ht : SlT P t e 1 8 (.int .i64 0))
    {kl kc : IntKind} {C : Int} {n : Nat} (hl : a.eval l = .int kl C) (hc : a.eval c = .int kc C) (hC : C = (n : Int)) (h1 : n ≤ 4294967296)
    (h : ∀ w', BlkOf w' W.heap.size ((List.replicate n (0 : Int)).map (Value.int .i64)) e → W.grownBy w' none → wpList P ops Q rest (a.put o.dst (.slice (some ⟨W.heap.size, 0, none⟩) n n)) w') : wpList P ops Q (o :: rest) a W := by
  obtain ⟨i, hi, hiz, his, hib⟩ := ht.inf
  have hB : i.bytes * n ≤ 8 * 4294967296 := Nat.mul_le_mul (by omega) h1
  refine wpList_make_full W hgd l c t hop W.heap.size e i (.int .i64 0) 1 ht.und hi hiz his kl kc C C n hl hc hC hC (by omega) (by unfold maxLen; omega) (Nat.le_refl _) ?_
  intro w' h2 h3
  refine h w' ?_ h3
  obtain ⟨g1, g2⟩ := h2
  rcases g2 with ⟨g2, _⟩ | ⟨g, cap, cur, g2, _, g3, _, _, g4, g5⟩
  · cases g2
  · simp only [Value.slice.injEq, Option.some.injEq, Addr.mk.injEq] at g2
    obtain ⟨⟨rfl, -, -⟩, -, rfl⟩ := g2
    rw [List.take_of_length_le (by simp; omega)] at g5
    unfold BlkOf
    have e2 : (madeCells (Value.int .i64 0).cells (n * 1)).toList = (List.replicate n (0 : Int)).map (Value.int .i64) := by
      apply List.ext_getElem?
      intro k
      simp only [madeCells, Value.cells, Nat.mul_one, List.map_replicate, List.getElem?_replicate]
      by_cases hk : k < n
      · simp [hk, Nat.mod_one]
      · simp [hk]
    rw [g3, show cur = cur.toList.toArray by simp, g5, e2]
end
end Go.Att
