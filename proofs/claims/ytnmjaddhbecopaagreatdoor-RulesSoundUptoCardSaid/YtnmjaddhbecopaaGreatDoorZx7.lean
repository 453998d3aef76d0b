/- Tables: their rows, plain; a row as a block. Tables: rows under way, each a block of its own. Tables: how a row comes about, plain; the laws for its blocks. -/
import Derived.Test.YtnmjaddhbecopaaGreatDoorZx2
import Derived.Test.YtnmjaddhbecopaaGreatDoorZx14
import Derived.Test.YtnmjaddhbecopaaGreatDoorZx3
import Derived.Test.YtnmjaddhbecopaaGreatDoorZx4
import Derived.Laws.CopyOwn
section
namespace Go.Att
open Go.RowKit
/-- The first twenty of a row. -/
def head20 (t : Stp) (m h : Int) (q0 q1 q2 q3 : Int × Int) : List Int := [t.fp, t.ap, t.rv, accA t.acc 0, accA t.acc 1, accA t.acc 2, m, accI t.acc 0, accI t.acc 1, accI t.acc 2, 0, h, q0.1, q1.1, q2.1, q3.1, q0.2, q1.2, q2.2, q3.2]
def selM (n : Nat) (pc : Int) : List Int := (List.replicate n 0).set pc.toNat 1
def hintS (p : Int) (cd : List In4) (t : Stp) : Int := hintM p (nthI cd t.pc.toNat).op (accI t.acc 0) (accI t.acc 1)
def prs4 (t : Stp) (m : Int) : List (Int × Int) := [(accA t.acc 0, accI t.acc 0), (accA t.acc 1, accI t.acc 1), (accA t.acc 2, accI t.acc 2), (m, 0)]
def stpAt (l : List Stp) (i : Nat) : Stp := l.getD (min i (l.length - 1)) ⟨0, 0, 0, 0, []⟩
def prsT (l : List Stp) (ms : List Int) (n : Nat) : List (Int × Int) := (List.range n).flatMap fun i => prs4 (stpAt l i) (nth ms i)
def pickS (S : List (Int × Int)) (i j : Nat) : Int × Int := if j < i then nthP S j else (0, 0)
/-- A row, as far as the first i pairs in order go. -/
def rowK (p : Int) (cd : List In4) (t : Stp) (m : Int) (S : List (Int × Int)) (i r : Nat) : List Int :=
  head20 t m (hintS p cd t) (pickS S i (4 * r)) (pickS S i (4 * r + 1)) (pickS S i (4 * r + 2)) (pickS S i (4 * r + 3)) ++ selM cd.length t.pc
theorem rowK_length (p : Int) (cd : List In4) (t : Stp) (m : Int) (S : List (Int × Int)) (i r : Nat) : (rowK p cd t m S i r).length = 20 + cd.length := by simp [rowK, head20, selM]; omega
theorem rowK_other {p : Int} {cd : List In4} {t : Stp} {m : Int} {S : List (Int × Int)} {i r : Nat} (h : r ≠ i / 4) : rowK p cd t m S (i + 1) r = rowK p cd t m S i r := by
  have hp : ∀ k, k < 4 → pickS S (i + 1) (4 * r + k) = pickS S i (4 * r + k) := fun k hk => by
    unfold pickS
    by_cases h1 : 4 * r + k < i
    · rw [if_pos h1, if_pos (by omega)]
    · rw [if_neg h1, if_neg (by omega)]
  unfold rowK
  rw [show 4 * r = 4 * r + 0 by omega, hp 0 (by omega), Nat.add_zero, hp 1 (by omega), hp 2 (by omega), hp 3 (by omega)]
theorem rowK_this {p : Int} {cd : List In4} {t : Stp} {m : Int} {S : List (Int × Int)} {r k : Nat} (hk : k < 4) :
    rowK p cd t m S (4 * r + k + 1) r = ((rowK p cd t m S (4 * r + k) r).set (12 + k) (nthP S (4 * r + k)).1).set (16 + k) (nthP S (4 * r + k)).2 := by
  have hp : ∀ j, j ≠ k → pickS S (4 * r + k + 1) (4 * r + j) = pickS S (4 * r + k) (4 * r + j) := fun j hj => by
    unfold pickS
    by_cases h1 : 4 * r + j < 4 * r + k
    · rw [if_pos h1, if_pos (by omega)]
    · rw [if_neg h1, if_neg (by omega)]
  have hq : pickS S (4 * r + k + 1) (4 * r + k) = nthP S (4 * r + k) := by unfold pickS; rw [if_pos (by omega)]
  have h4 : k = 0 ∨ k = 1 ∨ k = 2 ∨ k = 3 := by omega
  unfold rowK
  have e0 : ∀ i, pickS S i (4 * r) = pickS S i (4 * r + 0) := fun i => by rw [Nat.add_zero]
  rw [e0, e0]
  rcases h4 with rfl | rfl | rfl | rfl
  · rw [hq, hp 1 (by omega), hp 2 (by omega), hp 3 (by omega)]; rfl
  · rw [hq, hp 0 (by omega), hp 2 (by omega), hp 3 (by omega)]; rfl
  · rw [hq, hp 0 (by omega), hp 1 (by omega), hp 3 (by omega)]; rfl
  · rw [hq, hp 0 (by omega), hp 1 (by omega), hp 2 (by omega)]; rfl
/-- A run's table. -/
def tabL (p : Int) (cd : List In4) (l : List Stp) (n : Nat) : List (List Int) := (List.range n).map fun r => rowK p cd (stpAt l r) (nth (missL l) r) (sortP (prsT l (missL l) n)) (4 * n) r
inductive Tr where
  | no (k : Int)
  | ok (T : List (List Int)) (out : Int)
/-- What a table comes to. -/
def tableM (p sz : Int) (cd : List In4) (n : Int) : Tr := if n < 1 ∨ 512 < n ∨ 64 < cd.length then .no 2 else match walkM p sz cd (n - 1) with
  | .no k => .no k
  | .done l out _ => if n < (missL l).length then .no 9 else .ok (tabL p cd l n.toNat) out
theorem prsT_succ (l : List Stp) (ms : List Int) (n : Nat) : prsT l ms (n + 1) = prsT l ms n ++ prs4 (stpAt l n) (nth ms n) := by simp [prsT, List.range_succ]
theorem prsT_length (l : List Stp) (ms : List Int) (n : Nat) : (prsT l ms n).length = 4 * n := by
  induction n with
  | zero => rfl
  | succ n ih => rw [prsT_succ, List.length_append, ih]; simp [prs4]; omega
/-- Bounds of a run's steps. -/
structure StpOk (p : Int) (cd : List In4) (t : Stp) : Prop where
  pc : 0 ≤ t.pc ∧ t.pc < cd.length
  fp : 0 ≤ t.fp ∧ t.fp < p
  ap : 0 ≤ t.ap ∧ t.ap < p
  rv : 0 ≤ t.rv ∧ t.rv < p
theorem runM_stps {p : Int} (hp : 2 ≤ p) {cd : List In4} : ∀ (n : Nat) (L : List Stp) (s : Ms) (l : List Stp) (out : Int) (mem : List (Int × Int)), Okm p s → runM p cd n L s = .done l out mem → (∀ t ∈ L, StpOk p cd t) → ∀ t ∈ l, StpOk p cd t := by
  intro n
  have hh : ∀ (L : List Stp) (s : Ms) (l : List Stp) (out i : Int) (mem : List (Int × Int)), Okm p s → ¬ (cd.length : Int) ≤ s.pc → (match s.blank.look i with
        | .no e => Rw.no e
        | .go v s' => .done (L ++ [s.note s'.acc]) v s'.mem) = .done l out mem → (∀ t ∈ L, StpOk p cd t) → ∀ t ∈ l, StpOk p cd t := by
    intro L s l out i mem h h1 hr hL
    obtain ⟨s', _, rfl, rfl⟩ := halt_done hr
    intro t ht
    rw [List.mem_append, List.mem_singleton] at ht
    rcases ht with ht | rfl
    · exact hL t ht
    · exact ⟨⟨h.pc.1, by simpa [Ms.note] using h1⟩, h.fp, h.ap, h.rv⟩
  induction n with
  | zero =>
    intro L s l out mem h hr hL
    rw [runM_eq] at hr
    by_cases h1 : (cd.length : Int) ≤ s.pc
    · rw [if_pos h1] at hr; cases hr
    rw [if_neg h1] at hr
    by_cases h2 : (nthI cd s.pc.toNat).op = 0
    · rw [if_pos h2] at hr; exact hh _ _ _ _ _ _ h h1 hr hL
    · rw [if_neg h2] at hr; cases hr
  | succ n ih =>
    intro L s l out mem h hr hL
    rw [runM_eq] at hr
    by_cases h1 : (cd.length : Int) ≤ s.pc
    · rw [if_pos h1] at hr; cases hr
    rw [if_neg h1] at hr
    by_cases h2 : (nthI cd s.pc.toNat).op = 0
    · rw [if_pos h2] at hr; exact hh _ _ _ _ _ _ h h1 hr hL
    · rw [if_neg h2] at hr
      dsimp only at hr
      cases ho : s.blank.one p (nthI cd s.pc.toNat) with
      | no e => rw [ho] at hr; cases hr
      | go v s' =>
        rw [ho] at hr
        refine ih _ _ _ _ _ (one_aft hp (blank_ok h) ho).ok hr (fun t ht => ?_)
        rw [List.mem_append, List.mem_singleton] at ht
        rcases ht with ht | rfl
        · exact hL t ht
        · exact ⟨⟨h.pc.1, by simpa [Ms.note] using h1⟩, h.fp, h.ap, h.rv⟩
/-- All that a table needs of a run. -/
structure RunOk (p : Int) (cd : List In4) (l : List Stp) (out lim : Int) : Prop where
  ne : 1 ≤ l.length
  len : (l.length : Int) ≤ lim + 1
  stp : ∀ t ∈ l, StpOk p cd t
  at_ : ∀ t ∈ l, ∀ j, 0 ≤ accA t.acc j ∧ accA t.acc j < p
  is_ : ∀ t ∈ l, ∀ j, 0 ≤ accI t.acc j ∧ accI t.acc j < p
  last : accI (stpAt l (l.length - 1)).acc 0 = out
theorem walkM_ok {p sz lim : Int} {cd : List In4} {l : List Stp} {out : Int} {mem : List (Int × Int)} (hp : 2 ≤ p) (h : walkM p sz cd lim = .done l out mem) : RunOk p cd l out lim := by
  obtain ⟨hen, h0, _⟩ := walkM_ended hp h
  obtain ⟨ht, _⟩ := walkM_told hp h
  obtain ⟨l', t, hl, ho, _, hn⟩ := hen.last
  have hll : l.length = l'.length + 1 := by rw [hl]; simp
  have hbd : ∀ t ∈ l, ∀ j, (0 ≤ accA t.acc j ∧ accA t.acc j < p) ∧ (0 ≤ accI t.acc j ∧ accI t.acc j < p) := fun t hm j => hen.bd _ (lk_mem (ht t hm j))
  refine ⟨by omega, by simp at hn; omega, ?_, fun t hm j => (hbd t hm j).1, fun t hm j => (hbd t hm j).2, ?_⟩
  · unfold walkM at h
    split at h
    · exact runM_stps hp _ _ _ _ _ _ (start_ok hp) h (fun t ht => by simp at ht)
    · cases h
  · unfold stpAt
    rw [Nat.min_self, hl]
    simp [ho]
theorem stpAt_mem {l : List Stp} (h : 1 ≤ l.length) (i : Nat) : stpAt l i ∈ l := by
  unfold stpAt
  have : min i (l.length - 1) < l.length := by omega
  rw [List.getD_eq_getElem?_getD, List.getElem?_eq_getElem this]
  exact List.getElem_mem this
/-- A slice over a whole block. -/
theorem BlkOf.sl {w : World} {b n : Nat} {cs : List Value} {t : TypeId} (h : BlkOf w b cs t) (hl : cs.length = n) (hn : n ≤ maxLen) : Sl w 1 (.slice (some ⟨b, 0, none⟩) n n) n cs :=
  ⟨_, _, rfl, by omega, Nat.le_refl _, hn, fun i hi => ⟨b, 0, rfl, by rw [Nat.zero_add, h.cell i, List.getElem?_eq_getElem hi]⟩⟩
section
variable {P : Program} {ops : Array Oper} {rest : List Oper} {o : Oper} {a : Act} {Q : Exit → Act → World → Prop}
theorem run_ixB {t e bytes : Nat} {z : Value} (ht : SlT P t e 1 bytes z) (b : Nat) {n i : Nat} (hi : i < n) (hn : n ≤ maxLen) (w : World) : (Instr.indexAt t (.slice (some ⟨b, 0, none⟩) n n) (.int .i64 (i : Int))).run P w = .ok (.pointer (some ⟨b, i, none⟩)) w := by
  obtain ⟨W, hW⟩ : ∃ W : World, BlkOf W b (List.replicate n (.int .i64 0)) e := ⟨{ (default : World) with heap := Array.replicate (b + 1) (.cells (List.replicate n (Value.int .i64 0)).toArray e (0, 0)) }, by unfold BlkOf; simp⟩
  have := Sl.run_index (P := P) (hW.sl (by simp) hn) ht (i : Int) (by omega) (by omega) w
  rw [this, Int.toNat_natCast]
  simp only [elt, Addr.add, Nat.mul_one]
  by_cases h0 : i = 0
  · subst h0; rfl
  · rw [if_neg h0]; simp
/-- 'make([]int, n)': a block known whole. -/
theorem wpList_mkRow {W : World} (hgd : o.guard = none) (l c : Operand) (t : TypeId) (hop : o.op = Op.makeSlice t l c) {e : Nat} (ht : SlT P t e 1 8 (.int .i64 0))
    {kl kc : IntKind} {C : Int} {n : Nat} (hl : a.eval l = .int kl C) (hc : a.eval c = .int kc C) (hC : C = (n : Int)) (h1 : n ≤ 4294967296)
    (h : ∀ w', BlkOf w' W.heap.size ((List.replicate n (0 : Int)).map (Value.int .i64)) e → W.grownBy w' none → wpList P ops Q rest (a.put o.dst (.slice (some ⟨W.heap.size, 0, none⟩) n n)) w') : wpList P ops Q (o :: rest) a W := by
  obtain ⟨i, hi, hiz, his, hib⟩ := ht.inf
  have hB : i.bytes * n ≤ 8 * 4294967296 := Nat.mul_le_mul (by omega) h1
  refine wpList_make_full W hgd l c t hop W.heap.size e i (.int .i64 0) 1 ht.und hi hiz his kl kc C C n hl hc hC hC (by omega) (by unfold maxLen; omega) (Nat.le_refl _) ?_
  intro w' h2 h3
  refine h w' ?_ h3
  obtain ⟨g1, g2⟩ := h2
  rcases g2 with ⟨g2, _⟩ | ⟨g, cap, cur, g2, _, g3, _, _, g4, g5⟩
  · cases g2
  · simp only [Value.slice.injEq, Option.some.injEq, Addr.mk.injEq] at g2
    obtain ⟨⟨rfl, -, -⟩, -, rfl⟩ := g2
    rw [List.take_of_length_le (by simp; omega)] at g5
    unfold BlkOf
    have e2 : (madeCells (Value.int .i64 0).cells (n * 1)).toList = (List.replicate n (0 : Int)).map (Value.int .i64) := by
      apply List.ext_getElem?
      intro k
      simp only [madeCells, Value.cells, Nat.mul_one, List.map_replicate, List.getElem?_replicate]
      by_cases hk : k < n
      · simp [hk, Nat.mod_one]
      · simp [hk]
    rw [g3, show cur = cur.toList.toArray by simp, g5, e2]
end
end Go.Att
end
section
namespace Go.Att
open Go.RowKit
/-- The rows of a table under way: each a block of its own. -/
structure RowsAt (w : World) (B : Nat) (e eR : TypeId) (v : Value) (n W : Nat) (bs : Nat → Nat) (L : Nat → List Int) : Prop where
  own : w.ownsRow B eR 1 v n ((List.range n).map fun r => .slice (some ⟨bs r, 0, none⟩) W W)
  row : ∀ r, r < n → BlkOf w (bs r) ((L r).map (Value.int .i64)) e
  base : ∀ r, r < n → B ≤ bs r
  nd : ∀ r s, r < s → s < n → bs r ≠ bs s
  ne : eR ≠ e
section
variable {w w' : World} {B : Nat} {e eR : TypeId} {v : Value} {n W : Nat} {bs : Nat → Nat} {L : Nat → List Int}
theorem RowsAt.out (h : RowsAt w B e eR v n W bs L) {r : Nat} (hr : r < n) : v.ownBlock ≠ some (bs r) := own_not_blk h.own (h.row r hr) h.ne
theorem RowsAt.ext (h : RowsAt w B e eR v n W bs L) (hx : Ext w w') : RowsAt w' B e eR v n W bs L :=
  ⟨own_ext h.own hx, fun r hr => (h.row r hr).ext hx, h.base, h.nd, h.ne⟩
/-- A block that is none of the table's was written. -/
theorem RowsAt.kept (h : RowsAt w B e eR v n W bs L) {q : Nat} (hg : w.grownBy w' (some q)) (h1 : v.ownBlock ≠ some q) (h2 : ∀ r, r < n → bs r ≠ q) : RowsAt w' B e eR v n W bs L :=
  ⟨(Turned.one (c := q) hg).own h.own h1 h1, fun r hr => (h.row r hr).grown hg (fun e => h2 r hr (Option.some.inj e)), h.base, h.nd, h.ne⟩
theorem RowsAt.kept' (h : RowsAt w B e eR v n W bs L) {u : Value} (hg : w.grownBy w' u.ownBlock) (h1 : ∀ q, u.ownBlock = some q → v.ownBlock ≠ some q) (h2 : ∀ r, r < n → u.ownBlock ≠ some (bs r)) : RowsAt w' B e eR v n W bs L := by
  cases hu : u.ownBlock with
  | none =>
    rw [hu] at hg
    exact h.ext ⟨hg.os, hg.tape, hg.output, hg.size, fun i hi => hg.block i hi (by simp)⟩
  | some q =>
    rw [hu] at hg
    exact h.kept hg (h1 q hu) (fun r hr e => h2 r hr (by rw [hu, e]))
/-- One row more. -/
theorem RowsAt.push (h : RowsAt w B e eR v n W bs L) {b : Nat} {v' : Value} (hb : BlkOf w b ((L n).map (Value.int .i64)) e) (hB : B ≤ b) (hne : ∀ r, r < n → bs r ≠ b)
    (ho : w'.ownsRow B eR 1 v' (n + 1) (((List.range n).map fun r => .slice (some ⟨bs r, 0, none⟩) W W) ++ [.slice (some ⟨b, 0, none⟩) W W])) (hg : w.grownBy w' v.ownBlock) :
    RowsAt w' B e eR v' (n + 1) W (fun r => if r = n then b else bs r) L := by
  refine ⟨?_, fun r hr => ?_, fun r hr => ?_, fun r s hrs hs => ?_, h.ne⟩
  · rw [List.range_succ, List.map_append]
    rw [show (List.map (fun r => Value.slice (some ⟨if r = n then b else bs r, 0, none⟩) W W) (List.range n)) = (List.range n).map fun r => .slice (some ⟨bs r, 0, none⟩) W W from List.map_congr_left (fun r hr => by
      have := List.mem_range.1 hr
      rw [if_neg (by omega)])]
    simpa using ho
  · by_cases e : r = n
    · subst e
      simp only [if_true]
      exact hb.grown hg (fun e => own_not_blk h.own hb h.ne e.symm)
    · rw [if_neg e]
      exact (h.row r (by omega)).grown hg (fun e => h.out (show r < n by omega) e.symm)
  · by_cases e : r = n
    · rw [if_pos e]; exact hB
    · rw [if_neg e]; exact h.base r (by omega)
  · by_cases e1 : s = n
    · subst e1
      rw [if_neg (by omega), if_pos rfl]
      exact hne r hrs
    · rw [if_neg (by omega), if_neg e1]
      exact h.nd r s hrs (by omega)
theorem map_set2 (l : List Int) (i : Nat) (x : Int) : (l.map (Value.int .i64)).set i (.int .i64 x) = (l.set i x).map (Value.int .i64) := by rw [List.map_set]
/-- Two cells of one row are written. -/
theorem RowsAt.write (h : RowsAt w B e eR v n W bs L) {r0 i j : Nat} {x y : Int} (hr0 : r0 < n) {L' : Nat → List Int} (h1 : L' r0 = ((L r0).set i x).set j y) (h2 : ∀ r, r ≠ r0 → L' r = L r) :
    RowsAt ((w.setCell ⟨bs r0, i, none⟩ (.int .i64 x)).setCell ⟨bs r0, j, none⟩ (.int .i64 y)) B e eR v n W bs L' := by
  have hg := grown_one (setCell_grown w (bs r0) i (.int .i64 x)) (setCell_grown _ (bs r0) j (.int .i64 y))
  refine ⟨(Turned.one (c := bs r0) hg).own h.own (h.out hr0) (h.out hr0), fun r hr => ?_, h.base, h.nd, h.ne⟩
  by_cases e : r = r0
  · subst e
    rw [h1, ← map_set2, ← map_set2]
    exact ((h.row r hr).set i _).set j _
  · rw [h2 r e]
    refine (h.row r hr).grown hg (fun e2 => ?_)
    have e3 := Option.some.inj e2
    rcases Nat.lt_or_gt_of_ne e with hlt | hlt
    · exact h.nd r r0 hlt hr0 e3
    · exact h.nd r0 r hlt hr e3.symm
theorem RowsAt.rws (h : RowsAt w B e eR v n W bs L) (hl : ∀ r, r < n → (L r).length = W) (hW : W ≤ maxLen) : Rws w v ((List.range n).map L) := by
  refine ⟨fun r => .slice (some ⟨bs r, 0, none⟩) W W, ?_, fun i hi => ?_⟩
  · have := Sl.of_own h.own (by omega)
    simpa using this
  · have hi' : i < n := by simpa using hi
    have e : nthL ((List.range n).map L) i = L i := by rw [nthL_eq hi]; simp
    rw [e]
    unfold Ints
    rw [hl i hi']
    exact (h.row i hi').sl (by simp [hl i hi']) hW
theorem RowsAt.row_at (h : RowsAt w B e eR v n W bs L) {r : Nat} (hr : r < n) : Ext w w → w.cell? (elt v r 1) = some (.slice (some ⟨bs r, 0, none⟩) W W) := fun _ => by
  have hs := Sl.of_own h.own (by omega)
  have := Sl.cell hs r 0 hr (by omega)
  simp only [Addr.add, if_true, Nat.add_zero, Nat.mul_one] at this
  rw [this]
  simp [hr]
end
end Go.Att
end
section
namespace Go.Att
open Go.RowKit
theorem ext_none {w w' : World} (h : w.grownBy w' none) : Ext w w' := ⟨h.os, h.tape, h.output, h.size, fun i hi => h.block i hi (by simp)⟩
/-- A row, cell by cell. -/
def mk1 (W : Nat) (a b c : Int) (q : Nat) : List Value := (((((List.replicate W (0 : Int)).map (Value.int .i64)).set 0 (.int .i64 a)).set 1 (.int .i64 b)).set 2 (.int .i64 c)).set (20 + q) (.int .i64 1)
def mk2 (X : List Value) (x y z : Int) : List Value := X.take 3 ++ [.int .i64 x, .int .i64 y, .int .i64 z] ++ X.drop (3 + 3)
def mk3 (X : List Value) (x y z : Int) : List Value := X.take 7 ++ [.int .i64 x, .int .i64 y, .int .i64 z] ++ X.drop (7 + 3)
theorem row_made {p : Int} {cd : List In4} {t : Stp} {q : Nat} (hq : t.pc = q) (m : Int) (S : List (Int × Int)) (r : Nat) :
    ((mk3 (mk2 (mk1 (20 + cd.length) t.fp t.ap t.rv q) (accA t.acc 0) (accA t.acc 1) (accA t.acc 2)) (accI t.acc 0) (accI t.acc 1) (accI t.acc 2)).set 6 (.int .i64 m)).set 11 (.int .i64 (hintS p cd t)) = (rowK p cd t m S 0 r).map (Value.int .i64) := by
  have hp : ∀ j, pickS S 0 j = (0, 0) := fun j => by unfold pickS; rw [if_neg (by omega)]
  unfold rowK
  rw [hp, hp, hp, hp]
  have e0 : (List.replicate (20 + cd.length) (0 : Int)).map (Value.int .i64) = [.int .i64 0, .int .i64 0, .int .i64 0, .int .i64 0, .int .i64 0, .int .i64 0, .int .i64 0, .int .i64 0, .int .i64 0, .int .i64 0, .int .i64 0, .int .i64 0, .int .i64 0, .int .i64 0, .int .i64 0, .int .i64 0, .int .i64 0, .int .i64 0, .int .i64 0, .int .i64 0] ++ (List.replicate cd.length (0 : Int)).map (Value.int .i64) := by
    rw [← List.replicate_append_replicate, List.map_append]; rfl
  have e1 : mk1 (20 + cd.length) t.fp t.ap t.rv q = [.int .i64 t.fp, .int .i64 t.ap, .int .i64 t.rv, .int .i64 0, .int .i64 0, .int .i64 0, .int .i64 0, .int .i64 0, .int .i64 0, .int .i64 0, .int .i64 0, .int .i64 0, .int .i64 0, .int .i64 0, .int .i64 0, .int .i64 0, .int .i64 0, .int .i64 0, .int .i64 0, .int .i64 0] ++ (selM cd.length t.pc).map (Value.int .i64) := by
    unfold mk1
    rw [e0]
    simp only [List.cons_append, List.nil_append, List.set_cons_zero, List.set_cons_succ]
    have e2 : ∀ (A B : List Value), A.length = 20 → (A ++ B).set (20 + q) (.int .i64 1) = A ++ B.set q (.int .i64 1) := fun A B hA => by
      rw [List.set_append_right _ _ (by omega), show 20 + q - A.length = q by omega]
    have e3 := e2 [.int .i64 t.fp, .int .i64 t.ap, .int .i64 t.rv, .int .i64 0, .int .i64 0, .int .i64 0, .int .i64 0, .int .i64 0, .int .i64 0, .int .i64 0, .int .i64 0, .int .i64 0, .int .i64 0, .int .i64 0, .int .i64 0, .int .i64 0, .int .i64 0, .int .i64 0, .int .i64 0, .int .i64 0] ((List.replicate cd.length (0 : Int)).map (Value.int .i64)) rfl
    simp only [List.cons_append, List.nil_append] at e3
    rw [e3]
    unfold selM
    rw [hq, Int.toNat_natCast, List.map_set]
  rw [e1]
  rfl
theorem mk1_eq (n : Nat) (a b c : Int) (q : Nat) : mk1 (20 + n) a b c q = [.int .i64 a, .int .i64 b, .int .i64 c, .int .i64 0, .int .i64 0, .int .i64 0, .int .i64 0, .int .i64 0, .int .i64 0, .int .i64 0, .int .i64 0, .int .i64 0, .int .i64 0, .int .i64 0, .int .i64 0, .int .i64 0, .int .i64 0, .int .i64 0, .int .i64 0, .int .i64 0] ++ ((List.replicate n (0 : Int)).map (Value.int .i64)).set q (.int .i64 1) := by
  have e0 : (List.replicate (20 + n) (0 : Int)).map (Value.int .i64) = [.int .i64 0, .int .i64 0, .int .i64 0, .int .i64 0, .int .i64 0, .int .i64 0, .int .i64 0, .int .i64 0, .int .i64 0, .int .i64 0, .int .i64 0, .int .i64 0, .int .i64 0, .int .i64 0, .int .i64 0, .int .i64 0, .int .i64 0, .int .i64 0, .int .i64 0, .int .i64 0] ++ (List.replicate n (0 : Int)).map (Value.int .i64) := by
    rw [← List.replicate_append_replicate, List.map_append]; rfl
  unfold mk1
  rw [e0]
  simp only [List.cons_append, List.nil_append, List.set_cons_zero, List.set_cons_succ]
  have e2 : ∀ (A B : List Value), A.length = 20 → (A ++ B).set (20 + q) (.int .i64 1) = A ++ B.set q (.int .i64 1) := fun A B hA => by
    rw [List.set_append_right _ _ (by omega), show 20 + q - A.length = q by omega]
  have e3 := e2 [.int .i64 a, .int .i64 b, .int .i64 c, .int .i64 0, .int .i64 0, .int .i64 0, .int .i64 0, .int .i64 0, .int .i64 0, .int .i64 0, .int .i64 0, .int .i64 0, .int .i64 0, .int .i64 0, .int .i64 0, .int .i64 0, .int .i64 0, .int .i64 0, .int .i64 0, .int .i64 0] ((List.replicate n (0 : Int)).map (Value.int .i64)) rfl
  simp only [List.cons_append, List.nil_append] at e3
  rw [e3]
theorem mk3_six (n : Nat) (a b c : Int) (q : Nat) (x y z u v w : Int) : (mk3 (mk2 (mk1 (20 + n) a b c q) x y z) u v w).set 6 (.int .i64 0) = mk3 (mk2 (mk1 (20 + n) a b c q) x y z) u v w := by
  rw [mk1_eq]; rfl
theorem mk1_length (W : Nat) (a b c : Int) (q : Nat) : (mk1 W a b c q).length = W := by simp [mk1]
theorem mk2_length {X : List Value} {W : Nat} (h : X.length = W) (hW : 20 ≤ W) (x y z : Int) : (mk2 X x y z).length = W := by simp [mk2]; omega
theorem mk3_length {X : List Value} {W : Nat} (h : X.length = W) (hW : 20 ≤ W) (x y z : Int) : (mk3 X x y z).length = W := by simp [mk3]; omega
/-- A row behind a copy. -/
theorem BlkOf.row {w : World} {b : Nat} {cs ds : List Value} {t : TypeId} (h : BlkOf w b cs t) : BlkOf (w.setRow b ds.toArray) b ds t := setRow_heap w b _ _ t _ h
theorem setRow_grown (w : World) (b : Nat) (cs : Array Value) : w.grownBy (w.setRow b cs) (some b) := ⟨rfl, rfl, rfl, by simp [World.setRow], fun k _ hne => setRow_other w b k cs (fun e => hne (by rw [e]))⟩
section
variable {P : Program}
/-- 'r[k:]' of a slice over a whole block. -/
theorem run_from {t e bytes : Nat} {z : Value} (ht : SlT P t e 1 bytes z) (b : Nat) {n k : Nat} (hk : k < n) (h0 : 0 < k) (w : World) : (Instr.sliceAt t (.slice (some ⟨b, 0, none⟩) n n) (some (.int .i64 (k : Int))) none none).run P w = .ok (.slice (some ⟨b, k, none⟩) (n - k) (n - k)) w := by
  have hu : P.underlying t = some (.slice (P.elem t)) := by rw [ht.und, elem_of ht.und]
  rw [run_sliceAt_slice (h := hu), run_slice_l (ht := hu) (h0 := by omega) (h1 := by omega), elem_of ht.und, ht.run_size]
  have hne : ¬ n = k := by omega
  simp [Result.andThen, sliced, hne, Addr.add_lit]
end
/-- The cells of the step that a row shows. -/
theorem stp_cells {w : World} {v : Value} {l : List Stp} (h : Sl w 10 v l.length (flatS l)) (hne : 1 ≤ l.length) (i : Nat) {k : Nat} (hk : k = min i (l.length - 1)) :
    w.cell? (elt v k 10) = some (.int .i64 (stpAt l i).pc) ∧ w.cell? ⟨(elt v k 10).block, (elt v k 10).off + 1, none⟩ = some (.int .i64 (stpAt l i).fp) ∧ w.cell? ⟨(elt v k 10).block, (elt v k 10).off + 2, none⟩ = some (.int .i64 (stpAt l i).ap) ∧ w.cell? ⟨(elt v k 10).block, (elt v k 10).off + 3, none⟩ = some (.int .i64 (stpAt l i).rv) ∧
    w.cell? ⟨(elt v k 10).block, (elt v k 10).off + 4, none⟩ = some (.int .i64 (accA (stpAt l i).acc 0)) ∧ w.cell? ⟨(elt v k 10).block, (elt v k 10).off + 5, none⟩ = some (.int .i64 (accA (stpAt l i).acc 1)) ∧ w.cell? ⟨(elt v k 10).block, (elt v k 10).off + 6, none⟩ = some (.int .i64 (accA (stpAt l i).acc 2)) ∧
    w.cell? ⟨(elt v k 10).block, (elt v k 10).off + 7, none⟩ = some (.int .i64 (accI (stpAt l i).acc 0)) ∧ w.cell? ⟨(elt v k 10).block, (elt v k 10).off + 8, none⟩ = some (.int .i64 (accI (stpAt l i).acc 1)) ∧ w.cell? ⟨(elt v k 10).block, (elt v k 10).off + 9, none⟩ = some (.int .i64 (accI (stpAt l i).acc 2)) := by
  subst hk
  have hlt : min i (l.length - 1) < l.length := by omega
  have e : stpAt l i = l[min i (l.length - 1)] := by
    unfold stpAt
    rw [List.getD_eq_getElem?_getD, List.getElem?_eq_getElem hlt]; rfl
  rw [e]
  exact stp_all h _ hlt
theorem own_ne_own2 {w : World} {B B' e e' sz sz' n n' : Nat} {v v' : Value} {xs ys : List Value} (h : w.ownsRow B e sz v n xs) (h' : w.ownsRow B' e' sz' v' n' ys) (hne : e ≠ e') : ∀ q, v'.ownBlock = some q → v.ownBlock ≠ some q := by
  intro q hq hq2
  rcases h.2 with ⟨rfl, _⟩ | ⟨g, cap, cur, rfl, _, hg, _⟩
  · simp [Value.ownBlock] at hq2
  · rcases h'.2 with ⟨rfl, _⟩ | ⟨g', cap', cur', rfl, _, hg', _⟩
    · simp [Value.ownBlock] at hq
    · simp [Value.ownBlock] at hq hq2
      subst hq hq2
      rw [hg] at hg'
      simp only [Option.some.injEq, Obj.cells.injEq] at hg'
      exact hne hg'.2.1
theorem row_grown2 {w w' : World} {B B' e e' sz sz' n n' : Nat} {v v' : Value} {xs ys : List Value} (h : w.ownsRow B e sz v n xs) (h' : w.ownsRow B' e' sz' v' n' ys) (hne : e ≠ e') (hg : w.grownBy w' v'.ownBlock) : w'.ownsRow B e sz v n xs := by
  have hq := own_ne_own2 h h' hne
  cases hu : v'.ownBlock with
  | none => rw [hu] at hg; exact own_ext h (ext_none hg)
  | some q => rw [hu] at hg; exact (Turned.one (c := q) hg).own h (hq q hu) (hq q hu)
theorem row_read {p : Int} {cd : List In4} {t : Stp} {m : Int} {S : List (Int × Int)} {r k : Nat} (hk : k < 4) :
    ((rowK p cd t m S 0 r).map (Value.int .i64))[3 + k]? = some (.int .i64 (nthP (prs4 t m) k).1) ∧ ((rowK p cd t m S 0 r).map (Value.int .i64))[7 + k]? = some (.int .i64 (nthP (prs4 t m) k).2) := by
  have h4 : k = 0 ∨ k = 1 ∨ k = 2 ∨ k = 3 := by omega
  rcases h4 with rfl | rfl | rfl | rfl <;> exact ⟨rfl, rfl⟩
theorem prs4_take {t : Stp} {m : Int} {k : Nat} (hk : k < 4) : (prs4 t m).take (k + 1) = (prs4 t m).take k ++ [nthP (prs4 t m) k] := by
  have h4 : k = 0 ∨ k = 1 ∨ k = 2 ∨ k = 3 := by omega
  rcases h4 with rfl | rfl | rfl | rfl <;> rfl
theorem flatP_snoct (L : List (Int × Int)) (x : Int × Int) : flatP (L ++ [x]) = flatP L ++ #[Value.int .i64 x.1, Value.int .i64 x.2].toList := by simp [flatP]
end Go.Att
end
