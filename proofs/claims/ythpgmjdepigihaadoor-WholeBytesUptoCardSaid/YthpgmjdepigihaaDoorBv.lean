/- How a voucher that came in reads; how long its bytes are. -/
import Derived.Test.YthpgmjdepigihaaDoorBk
import Derived.Test.YthpgmjdepigihaaDoorBy
import Derived.Test.YthpgmjdepigihaaDoorY5
namespace Go.Proofs.YthpgmjdepigihaaDoor
open Go.RowKit Go.Att Go.ChangeShapes Go.WideShapes Go.Deep
theorem encIs_le (l : List Int) : (encIs l).length ≤ 10 * (l.length + 1) := by
  rw [show encIs l = encL encI l from rfl, encL_len]
  have h0 : (encI l.length).length ≤ 10 := encU_ten _ (u64_lt _)
  have h1 : ∀ l : List Int, (l.flatMap encI).length ≤ 10 * l.length := by
    intro l
    induction l with
    | nil => simp
    | cons x l ih =>
      have : (encI x).length ≤ 10 := encU_ten _ (u64_lt _)
      simp only [List.flatMap_cons, List.length_append, List.length_cons]; omega
  have := h1 l
  omega
theorem flat_le {α H : Type} (e : α → List Int) (f : Nat → α) (D : Nat → DataW H) : ∀ n : Nat, (∀ i, i < n → (e (f i)).length ≤ 10 * Rows.uptoBulk (D i)) → (((List.range n).map f).flatMap e).length ≤ 10 * Rows.uptoBulkAll ((List.range n).map D)
  | 0, _ => by simp
  | n + 1, h => by
    have h1 := flat_le e f D n (fun i hi => h i (by omega))
    have h2 := h n (by omega)
    rw [List.range_succ, List.map_append, List.map_append, List.flatMap_append, List.length_append, bulks.append]
    simp only [List.map_cons, List.map_nil, List.flatMap_cons, List.flatMap_nil, List.append_nil, Rows.uptoBulkAll]
    omega
theorem encL_le {α : Type} (e : α → List Int) (l : List α) : (encL e l).length ≤ 10 + (l.flatMap e).length := by
  rw [encL_len]
  have h0 : (encI l.length).length ≤ 10 := encU_ten _ (u64_lt _)
  omega
section
variable {H : Type} {enc : TypeId × Value → H} {P : Program} {w : World} {base : Nat} {spare : Nat → Bool} {held : Bool}
theorem open_IsF {fuel : Nat} {t e : TypeId} {v : Value} {d : DataW H} {p : List MemPlace} (ht : P.underlying t = some (.slice e)) (he : P.underlying e = some (.int .i64)) (hc : P.cellsOf e = 1)
    (hf : DataW.trod enc P w base spare held fuel t [v] = some (d, p)) : ∃ l : List Int, Ints w v l ∧ IsV l ∧ (encIs l).length ≤ 10 * Rows.uptoBulk d := by
  rcases open_ints ht he hc hf with ⟨h1, h2⟩ | ⟨a, len, cap, zs, h1, h2, h3, h4, h5, h6, h7, h8⟩
  · simp at h1 h2
    obtain ⟨rfl, rfl⟩ := h2
    subst h1
    refine ⟨[], Ints.nil _, ⟨by simp, fun x hx => by cases hx⟩, ?_⟩
    have := encIs_le []
    simp only [Rows.uptoBulk]
    simpa using this
  · simp at h1 h6
    subst h1
    have hlz : len ≤ zs.length := by rw [h5]; split <;> omega
    refine ⟨zs.take len, ⟨some a, cap, ?_, ?_, ?_, h4, fun i hi => ?_⟩, ⟨?_, fun c hc => ?_⟩, ?_⟩
    · simp; omega
    · simp
    · simp; omega
    · simp at hi
      have hi' : i < zs.length := by omega
      have hsp : a.spot = none := by
        have h0 := h7 0 (by omega)
        rw [Addr.add, if_pos rfl] at h0
        exact spot_none h0
      refine ⟨a.block, a.off, ?_, ?_⟩
      · rcases a with ⟨b, o, s⟩; simp at hsp; subst hsp; rfl
      · have hci := h7 i hi'
        have : a.add i = ⟨a.block, a.off + i, none⟩ := by
          rcases a with ⟨b, o, s⟩; simp at hsp; subst hsp; exact Addr.add_lit _ _ _
        rw [this] at hci
        rw [hci]
        simp [hi']
    · have hl : (zs.take len).length ≤ len := List.length_take_le _ _
      unfold maxLen at h4
      omega
    · have : (decide ((-9223372036854775808 : Int) ≤ c) && decide (c ≤ (9223372036854775807 : Int))) = true := h8 c (List.mem_of_mem_take hc)
      simp at this
      exact this
    · have h9 := encIs_le (zs.take len)
      obtain ⟨rfl, -⟩ := h6
      have h10 := bulks.slice_le (lits (H := H) .i64 (zs.take len)) (lits (H := H) .i64 (zs.drop len))
      have h11 : (lits (H := H) .i64 (zs.take len)).length = (zs.take len).length := by simp [lits]
      omega
theorem open_RsF {fuel : Nat} {t e q : TypeId} {v : Value} {d : DataW H} {p : List MemPlace} (ht : P.underlying t = some (.slice e)) (he : P.underlying e = some (.slice q)) (hq : P.underlying q = some (.int .i64)) (ce : P.cellsOf e = 1) (cq : P.cellsOf q = 1)
    (hf : DataW.trod enc P w base spare held fuel t [v] = some (d, p)) : ∃ L : List (List Int), Rws w v L ∧ RsV L ∧ (encRs L).length ≤ 10 * Rows.uptoBulk d := by
  rcases open_slice1 ht ce hf with ⟨h1, h2⟩ | ⟨a, len, cap, m, n, V, D, Pl, h1, h2, h3, h4, h5, h6, h7⟩
  · simp at h1 h2
    obtain ⟨rfl, rfl⟩ := h2
    subst h1
    refine ⟨[], Rws.nil w, ⟨by simp, fun x hx => by cases hx⟩, ?_⟩
    have := encL_le encIs []
    simp only [Rows.uptoBulk]
    simpa [encRs] using this
  · simp at h1 h6
    subst h1
    have hlm : len ≤ m := by rw [h5]; split <;> omega
    have each : ∀ i, i < m → ∃ l : List Int, Ints w (V i) l ∧ IsV l ∧ (encIs l).length ≤ 10 * Rows.uptoBulk (D i) := fun i hi => open_IsF he hq cq (h7 i hi).2
    have choose : ∃ f : Nat → List Int, ∀ i, i < m → Ints w (V i) (f i) ∧ IsV (f i) ∧ (encIs (f i)).length ≤ 10 * Rows.uptoBulk (D i) := by
      refine ⟨fun i => if h : i < m then Classical.choose (each i h) else [], fun i hi => ?_⟩
      have e : (if h : i < m then Classical.choose (each i h) else []) = Classical.choose (each i hi) := dif_pos hi
      simp only [e]; exact Classical.choose_spec (each i hi)
    obtain ⟨f, hf2⟩ := choose
    refine ⟨(List.range len).map f, ⟨V, ⟨some a, cap, ?_, ?_, ?_, h4, fun i hi => ?_⟩, fun i hi => ?_⟩, ⟨?_, fun x hx => ?_⟩, ?_⟩
    · simp
    · simp
    · simpa using h3
    · simp at hi
      have hsp : a.spot = none := spot_none (by have := (h7 0 (by omega)).1; rw [Addr.add, if_pos rfl] at this; exact this)
      refine ⟨a.block, a.off, by rcases a with ⟨b, o, s⟩; simp at hsp; subst hsp; rfl, ?_⟩
      have := (h7 i (by omega)).1
      rw [addr_lit hsp] at this
      rw [this]; simp
    · simp at hi
      rw [nthL_eq (by simpa using hi)]; simpa using (hf2 i (by omega)).1
    · unfold maxLen at h4
      simp; omega
    · simp at hx
      obtain ⟨i, hi, rfl⟩ := hx
      exact (hf2 i (by omega)).2.1
    · have h9 := encL_le encIs ((List.range len).map f)
      have h10 := flat_le encIs f D len (fun i hi => (hf2 i (by omega)).2.2)
      obtain ⟨rfl, -⟩ := h6
      have h11 := bulks.slice_elems ((List.range len).map D) ((List.range (m - len)).map fun i => D (len + i))
      show (encL encIs _).length ≤ _
      omega
/-- An opening's three cells. -/
theorem open_OF {fuel : Nat} {t e q : TypeId} {f0 f1 f2 : Field} {a b c : Value} {d : DataW H} {p : List MemPlace} (ht : P.underlying t = some (.struct #[f0, f1, f2])) (o0 : f0.offset = 0) (o1 : f1.offset = 1) (o2 : f2.offset = 2) (c0 : P.cellsOf f0.type = 1) (c1 : P.cellsOf f1.type = 1) (c2 : P.cellsOf f2.type = 1)
    (u0 : P.underlying f0.type = some (.slice q)) (u1 : P.underlying f1.type = some (.slice e)) (u2 : P.underlying f2.type = some (.slice e)) (he : P.underlying e = some (.slice q)) (hq : P.underlying q = some (.int .i64)) (ce : P.cellsOf e = 1) (cq : P.cellsOf q = 1)
    (hf : DataW.trod enc P w base spare held fuel t [a, b, c] = some (d, p)) : ∃ o : Opn, OpnAt w a b c o ∧ OpV o ∧ (encO o).length ≤ 10 * Rows.uptoBulk d := by
  obtain ⟨xs, k, hk, hxy, _, hxl, hff⟩ := DataW.trod_struct ht hf
  match xs, hxl with
  | [y0, y1, y2], _ =>
    have g0 := hff 0 f0 rfl
    have g1 := hff 1 f1 rfl
    have g2 := hff 2 f2 rfl
    simp [o0, o1, o2, c0, c1, c2] at g0 g1 g2
    obtain ⟨l0, i0, v0, n0⟩ := open_IsF u0 hq cq g0
    obtain ⟨l1, i1, v1, n1⟩ := open_RsF u1 he hq ce cq g1
    obtain ⟨l2, i2, v2, n2⟩ := open_RsF u2 he hq ce cq g2
    refine ⟨(l0, l1, l2), ⟨i0, i1, i2⟩, ⟨v0, v1, v2⟩, ?_⟩
    simp only [Prod.mk.injEq] at hxy
    obtain ⟨rfl, -⟩ := hxy
    rw [show encO (l0, l1, l2) = encIs l0 ++ encRs l1 ++ encRs l2 from rfl, List.length_append, List.length_append]
    simp only [Rows.uptoBulk, List.map_cons, List.map_nil, Rows.uptoBulkAll]
    omega
theorem open_OsF {fuel : Nat} {tt t e q : TypeId} {f0 f1 f2 : Field} {v : Value} {d : DataW H} {p : List MemPlace} (htt : P.underlying tt = some (.slice t)) (ht : P.underlying t = some (.struct #[f0, f1, f2])) (ct : P.cellsOf t = 3) (o0 : f0.offset = 0) (o1 : f1.offset = 1) (o2 : f2.offset = 2) (c0 : P.cellsOf f0.type = 1) (c1 : P.cellsOf f1.type = 1) (c2 : P.cellsOf f2.type = 1)
    (u0 : P.underlying f0.type = some (.slice q)) (u1 : P.underlying f1.type = some (.slice e)) (u2 : P.underlying f2.type = some (.slice e)) (he : P.underlying e = some (.slice q)) (hq : P.underlying q = some (.int .i64)) (ce : P.cellsOf e = 1) (cq : P.cellsOf q = 1)
    (hf : DataW.trod enc P w base spare held fuel tt [v] = some (d, p)) : ∃ l : List Opn, Opns w v l ∧ OsV l ∧ (encOs l).length ≤ 10 * Rows.uptoBulk d := by
  rcases open_slice htt hf with ⟨h1, h2⟩ | ⟨a, len, cap, m, n, D, Pl, h1, hb, hl, hm, hmm, h6, hx⟩
  · simp at h1 h2
    obtain ⟨rfl, rfl⟩ := h2
    subst h1
    refine ⟨[], Opns.nil _, ⟨by simp, fun x hx => by cases hx⟩, ?_⟩
    have := encL_le encO []
    simp only [Rows.uptoBulk]
    simpa [encOs] using this
  · simp at h1 h6
    subst h1
    have hlm : len ≤ m := by rw [hmm]; split <;> omega
    have each : ∀ i, i < m → ∃ q : (Value × Value × Value) × Opn, (w.cell? (a.add (i * 3)) = some q.1.1 ∧ w.cell? (a.add (i * 3 + 1)) = some q.1.2.1 ∧ w.cell? (a.add (i * 3 + 2)) = some q.1.2.2) ∧ OpnAt w q.1.1 q.1.2.1 q.1.2.2 q.2 ∧ OpV q.2 ∧ (encO q.2).length ≤ 10 * Rows.uptoBulk (D i) := by
      intro i hi
      obtain ⟨cs', g1, g2⟩ := hx i hi
      rw [ct] at g1
      obtain ⟨_, hlen, hcell⟩ := World.cells?_some g1
      match cs', hlen with
      | [v0, v1, v2], _ =>
        have e0 := hcell 0 (by omega)
        have e1 := hcell 1 (by omega)
        have e2 := hcell 2 (by omega)
        rw [add_add] at e0 e1 e2
        obtain ⟨o, k1, k2, k3⟩ := open_OF ht o0 o1 o2 c0 c1 c2 u0 u1 u2 he hq ce cq g2
        exact ⟨((v0, v1, v2), o), ⟨by simpa using e0, by simpa using e1, by simpa using e2⟩, k1, k2, k3⟩
    have choose : ∃ f : Nat → (Value × Value × Value) × Opn, ∀ i, i < m → (w.cell? (a.add (i * 3)) = some (f i).1.1 ∧ w.cell? (a.add (i * 3 + 1)) = some (f i).1.2.1 ∧ w.cell? (a.add (i * 3 + 2)) = some (f i).1.2.2) ∧ OpnAt w (f i).1.1 (f i).1.2.1 (f i).1.2.2 (f i).2 ∧ OpV (f i).2 ∧ (encO (f i).2).length ≤ 10 * Rows.uptoBulk (D i) := by
      refine ⟨fun i => if h : i < m then Classical.choose (each i h) else ((.bool false, .bool false, .bool false), ([], [], [])), fun i hi => ?_⟩
      have e : (if h : i < m then Classical.choose (each i h) else ((.bool false, .bool false, .bool false), ([], [], []))) = Classical.choose (each i hi) := dif_pos hi
      simp only [e]; exact Classical.choose_spec (each i hi)
    obtain ⟨f, hf2⟩ := choose
    have hlenf : ((List.range len).map fun i => (f i).2).length = len := by simp
    refine ⟨(List.range len).map fun i => (f i).2, ⟨fun i => (f i).1.1, fun i => (f i).1.2.1, fun i => (f i).1.2.2, ⟨⟨some a, cap, by simp, by rw [flatO_length], by simpa using hl, hm, fun i hi => ?_⟩, fun i hi => ?_⟩⟩, ⟨?_, fun x hx => ?_⟩, ?_⟩
    · rw [flatO_length, hlenf] at hi
      have hk : i / 3 < len := by omega
      obtain ⟨k0, k1, k2⟩ := (hf2 (i / 3) (by omega)).1
      have hsp : a.spot = none := by
        have h0 := (hf2 0 (by omega)).1.1
        rw [Nat.zero_mul, Addr.add, if_pos rfl] at h0
        exact spot_none h0
      have hg := flatO_get len (fun i => (f i).1.1) (fun i => (f i).1.2.1) (fun i => (f i).1.2.2) (i / 3) hk
      refine ⟨a.block, a.off, by rcases a with ⟨b, o, s⟩; simp at hsp; subst hsp; rfl, ?_⟩
      rw [addr_lit hsp] at k0 k1 k2
      simp only [hlenf]
      have h3 : i % 3 = 0 ∨ i % 3 = 1 ∨ i % 3 = 2 := by omega
      rcases h3 with h3 | h3 | h3
      · have e2 : i / 3 * 3 = i := by omega
        rw [e2] at k0 hg
        rw [k0, ← List.getElem?_eq_getElem, hg.1]
      · have e2 : i / 3 * 3 + 1 = i := by omega
        rw [e2] at k1 hg
        rw [k1, ← List.getElem?_eq_getElem, hg.2.1]
      · have e2 : i / 3 * 3 + 2 = i := by omega
        rw [e2] at k2 hg
        rw [k2, ← List.getElem?_eq_getElem, hg.2.2]
    · simp at hi
      rw [nthO_eq (by simpa using hi)]; simpa using (hf2 i (by omega)).2.1
    · unfold maxLen at hm
      simp; omega
    · simp at hx
      obtain ⟨i, hi, rfl⟩ := hx
      exact (hf2 i (by omega)).2.2.1
    · have h9 := encL_le encO ((List.range len).map fun i => (f i).2)
      have h10 := flat_le encO (fun i => (f i).2) D len (fun i hi => (hf2 i (by omega)).2.2.2)
      obtain ⟨rfl, -⟩ := h6
      have h11 := bulks.slice_elems ((List.range len).map D) ((List.range (m - len)).map fun i => D (len + i))
      show (encL encO _).length ≤ _
      omega
/-- A voucher. -/
theorem open_V {t tf to_ too e q ti : TypeId} {f0 f1 f2 f3 f4 f5 g0 g1 g2 h0 h1 h2 : Field} {cs : Array Value} {d : DataW H} {p : List MemPlace} (ht : P.underlying t = some (.struct #[f0, f1, f2, f3, f4, f5]))
    (o0 : f0.offset = 0) (o1 : f1.offset = 1) (o2 : f2.offset = 2) (o3 : f3.offset = 3) (o4 : f4.offset = 6) (o5 : f5.offset = 9) (c0 : P.cellsOf f0.type = 1) (c1 : P.cellsOf f1.type = 1) (c2 : P.cellsOf f2.type = 1) (c3 : P.cellsOf f3.type = 3) (c4 : P.cellsOf f4.type = 3) (c5 : P.cellsOf f5.type = 3)
    (t0 : f0.type = e) (t1 : f1.type = e) (t2 : f2.type = ti) (t3 : f3.type = tf) (t4 : f4.type = to_) (t5 : f5.type = to_)
    (hi : P.underlying ti = some (.int .i64)) (he : P.underlying e = some (.slice ti)) (hq : P.underlying q = some (.slice e)) (ci : P.cellsOf ti = 1) (ce : P.cellsOf e = 1)
    (htf : P.underlying tf = some (.struct #[g0, g1, g2])) (go0 : g0.offset = 0) (go1 : g1.offset = 1) (go2 : g2.offset = 2) (gc0 : P.cellsOf g0.type = 1) (gc1 : P.cellsOf g1.type = 1) (gc2 : P.cellsOf g2.type = 1) (gt0 : g0.type = q) (gt1 : g1.type = e) (gt2 : g2.type = too)
    (htoo : P.underlying too = some (.slice to_)) (hto : P.underlying to_ = some (.struct #[h0, h1, h2])) (ct : P.cellsOf to_ = 3) (ho0 : h0.offset = 0) (ho1 : h1.offset = 1) (ho2 : h2.offset = 2) (hc0 : P.cellsOf h0.type = 1) (hc1 : P.cellsOf h1.type = 1) (hc2 : P.cellsOf h2.type = 1)
    (hu0 : P.underlying h0.type = some (.slice ti)) (hu1 : P.underlying h1.type = some (.slice e)) (hu2 : P.underlying h2.type = some (.slice e))
    (hs : cs.size = 12) (hv : (Value.agg cs).cells.toList = cs.toList) (h : DataW.Trod enc P w base spare held t (.agg cs) d p) :
    ∃ (v : Vch) (m a r l o ra rb rc la lb lc : Value), cs = #[m, a, .int .i64 v.tries, r, l, o, ra, rb, rc, la, lb, lc] ∧ VchAt w m a r l o ra rb rc la lb lc v ∧ VcV v ∧ (encV v).length ≤ 10 * Rows.uptoBulk d := by
  obtain ⟨fuel, hf⟩ := h
  rw [hv] at hf
  obtain ⟨xs, k, hk, hxy, _, hxl, hff⟩ := DataW.trod_struct ht hf
  obtain ⟨m, a, tr, r, l, o, ra, rb, rc, la, lb, lc, rfl⟩ : ∃ m a tr r l o ra rb rc la lb lc, cs = #[m, a, tr, r, l, o, ra, rb, rc, la, lb, lc] := by
    rcases cs with ⟨L⟩
    match L, hs with
    | [m, a, tr, r, l, o, ra, rb, rc, la, lb, lc], _ => exact ⟨m, a, tr, r, l, o, ra, rb, rc, la, lb, lc, rfl⟩
  match xs, hxl with
  | [y0, y1, y2, y3, y4, y5], _ =>
    have e0 := hff 0 f0 rfl
    have e1 := hff 1 f1 rfl
    have e2 := hff 2 f2 rfl
    have e3 := hff 3 f3 rfl
    have e4 := hff 4 f4 rfl
    have e5 := hff 5 f5 rfl
    simp [o0, o1, o2, o3, o4, o5, c0, c1, c2, c3, c4, c5] at e0 e1 e2 e3 e4 e5
    rw [t0] at e0; rw [t1] at e1; rw [t2] at e2; rw [t3] at e3; rw [t4] at e4; rw [t5] at e5
    obtain ⟨l0, i0, v0, n0⟩ := open_IsF he hi ci e0
    obtain ⟨l1, i1, v1, n1⟩ := open_IsF he hi ci e1
    obtain ⟨x2, z2, y2e, w2⟩ := DataW.trod_int hi e2
    obtain rfl : tr = .int .i64 x2 := by simpa using z2
    have w2' : (decide ((-9223372036854775808 : Int) ≤ x2) && decide (x2 ≤ (9223372036854775807 : Int))) = true := w2
    have I2 : I64 x2 := by simp at w2'; exact w2'
    obtain ⟨zs, k3, hk3, hz3, _, hzl, hgg⟩ := DataW.trod_struct htf e3
    match zs, hzl with
    | [z0, z1, z2'], _ =>
      have q0 := hgg 0 g0 rfl
      have q1 := hgg 1 g1 rfl
      have q2 := hgg 2 g2 rfl
      simp [go0, go1, go2, gc0, gc1, gc2] at q0 q1 q2
      rw [gt0] at q0; rw [gt1] at q1; rw [gt2] at q2
      obtain ⟨l3, i3, v3, n3⟩ := open_RsF hq he hi ce ci q0
      obtain ⟨l4, i4, v4, n4⟩ := open_IsF he hi ci q1
      obtain ⟨l5, i5, v5, n5⟩ := open_OsF htoo hto ct ho0 ho1 ho2 hc0 hc1 hc2 hu0 hu1 hu2 he hi ce ci q2
      obtain ⟨l6, i6, v6, n6⟩ := open_OF hto ho0 ho1 ho2 hc0 hc1 hc2 hu0 hu1 hu2 he hi ce ci e4
      obtain ⟨l7, i7, v7, n7⟩ := open_OF hto ho0 ho1 ho2 hc0 hc1 hc2 hu0 hu1 hu2 he hi ce ci e5
      refine ⟨⟨l0, l1, x2, l3, l4, l5, l6, l7⟩, m, a, r, l, o, ra, rb, rc, la, lb, lc, rfl, ⟨i0, i1, i3, i4, i5, i6, i7⟩, ⟨v0, v1, I2, v3, v4, v5, v6, v7⟩, ?_⟩
      simp only [Prod.mk.injEq] at hxy
      obtain ⟨rfl, -⟩ := hxy
      have hb3 : y3.1 = .agg [z0.1, z1.1, z2'.1] := congrArg Prod.fst hz3
      have ht2 : (encI x2).length ≤ 10 := encU_ten _ (u64_lt _)
      have h1 := bulks.one_le y2.1
      simp only [encV, List.length_append, Rows.uptoBulk, List.map_cons, List.map_nil, Rows.uptoBulkAll, hb3]
      omega
end
end Go.Proofs.YthpgmjdepigihaaDoor
