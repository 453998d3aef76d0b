/- What the bound on the bulk gives for lists of lists. -/
import Derived.Test.YtnkcldhjbhdejaaDoorBulk
import Derived.Test.YtnkcldhjbhdejaaDoorWr
import Derived.Test.YtnkcldhjbhdejaaDoorCa
/-! What the bound on the bulk gives for lists of lists. -/
namespace Go.Proofs.YtnkcldhjbhdejaaDoor.bulks
open Go.Att
theorem row_le {H : Type} {l : List Int} {d : DataW H} (h : RowD l d) : l.length ≤ Rows.uptoBulk d := by
  rcases h with rfl | ⟨es, sp, rfl, e⟩
  · exact Nat.zero_le _
  · have := slice_le es sp; omega
theorem rows_le {H : Type} {L : List (List Int)} {d : DataW H} (h : RowsD L d) : L.length ≤ Rows.uptoBulk d := by
  rcases h with rfl | ⟨es, sp, rfl, e, _⟩
  · exact Nat.zero_le _
  · have := slice_le es sp; omega
theorem rows_row_le {H : Type} {L : List (List Int)} {d : DataW H} (h : RowsD L d) {i : Nat} (hi : i < L.length) : (nthL L i).length ≤ Rows.uptoBulk d := by
  rcases h with rfl | ⟨es, sp, rfl, e, h2⟩
  · simp at hi
  · have h3 := row_le (h2 i (by omega))
    have h4 : Rows.uptoBulk es[i] ≤ Rows.uptoBulkAll es := part_le (List.getElem_mem _)
    have := slice_elems es sp
    omega
end Go.Proofs.YtnkcldhjbhdejaaDoor.bulks
/-! How arguments read: circuits (a struct of a number and slices of slices of triples). -/
namespace Go.Att
open Go.RowKit Go.ChangeShapes Go.WideShapes Go.Deep
section
variable {H : Type} {enc : TypeId × Value → H} {P : Program} {w : World} {base : Nat} {spare : Nat → Bool} {held : Bool}
def TrD {H : Type} (l : List Tri) (d : DataW H) : Prop := l = [] ∨ ∃ es sp, d = .slice es sp ∧ es.length = l.length
def LysD {H : Type} (L : List (List Tri)) (d : DataW H) : Prop := L = [] ∨ ∃ es sp, d = .slice es sp ∧ es.length = L.length ∧ ∀ i (h : i < es.length), TrD (nthY L i) es[i]
theorem open_TrsF {fuel : Nat} {t e : TypeId} {f0 f1 f2 : Field} {v : Value} {d : DataW H} {p : List MemPlace} (ht : P.underlying t = some (.slice e)) (he : P.underlying e = some (.struct #[f0, f1, f2])) (ce : P.cellsOf e = 3)
    (o0 : f0.offset = 0) (o1 : f1.offset = 1) (o2 : f2.offset = 2) (c0 : P.cellsOf f0.type = 1) (c1 : P.cellsOf f1.type = 1) (c2 : P.cellsOf f2.type = 1)
    (u0 : P.underlying f0.type = some (.int .i64)) (u1 : P.underlying f1.type = some (.int .i64)) (u2 : P.underlying f2.type = some (.int .i64))
    (hf : DataW.trod enc P w base spare held fuel t [v] = some (d, p)) : ∃ l : List Tri, Trs w v l ∧ TrD l d := by
  rcases open_slice ht hf with ⟨h1, h2⟩ | ⟨a, len, cap, m, n, D, Pl, h1, hb, hl, hm, hmm, h6, hx⟩
  · simp at h1
    subst h1
    exact ⟨[], ⟨none, 0, rfl, by simp [flatT], Nat.le_refl _, Nat.zero_le _, fun i hi => by simp [flatT] at hi⟩, .inl rfl⟩
  · simp at h1 h6
    subst h1
    have hlm : len ≤ m := by rw [hmm]; split <;> omega
    have each : ∀ i, i < m → ∃ q : Tri, w.cell? (a.add (i * 3)) = some (.int .i64 q.1) ∧ w.cell? (a.add (i * 3 + 1)) = some (.int .i64 q.2.1) ∧ w.cell? (a.add (i * 3 + 2)) = some (.int .i64 q.2.2) := by
      intro i hi
      obtain ⟨cs', g1, g2⟩ := hx i hi
      rw [ce] at g1
      obtain ⟨_, hlen, hcell⟩ := World.cells?_some g1
      obtain ⟨xs, k, hk, hxy, _, hxl, hff⟩ := DataW.trod_struct he g2
      match xs, hxl, cs', hlen with
      | [y0, y1, y2], _, [v0, v1, v2], _ =>
        have g0 := hff 0 f0 rfl
        have g1 := hff 1 f1 rfl
        have g2 := hff 2 f2 rfl
        simp [o0, o1, o2, c0, c1, c2] at g0 g1 g2
        have e0 := hcell 0 (by omega)
        have e1 := hcell 1 (by omega)
        have e2 := hcell 2 (by omega)
        rw [add_add] at e0 e1 e2
        obtain ⟨x, hx0, _⟩ := DataW.trod_int u0 g0
        obtain ⟨y, hy0, _⟩ := DataW.trod_int u1 g1
        obtain ⟨z, hz0, _⟩ := DataW.trod_int u2 g2
        simp at hx0 hy0 hz0
        subst hx0 hy0 hz0
        exact ⟨(x, y, z), by simpa using e0, by simpa using e1, by simpa using e2⟩
    have choose : ∃ f : Nat → Tri, ∀ i, i < m → w.cell? (a.add (i * 3)) = some (.int .i64 (f i).1) ∧ w.cell? (a.add (i * 3 + 1)) = some (.int .i64 (f i).2.1) ∧ w.cell? (a.add (i * 3 + 2)) = some (.int .i64 (f i).2.2) := by
      refine ⟨fun i => if h : i < m then Classical.choose (each i h) else (0, 0, 0), fun i hi => ?_⟩
      have e : (if h : i < m then Classical.choose (each i h) else (0, 0, 0)) = Classical.choose (each i hi) := dif_pos hi
      simp only [e]; exact Classical.choose_spec (each i hi)
    obtain ⟨f, hf2⟩ := choose
    have hlenf : ((List.range len).map f).length = len := by simp
    refine ⟨(List.range len).map f, ⟨some a, cap, by simp, by rw [flatT_length], by simpa using hl, hm, fun i hi => ?_⟩, .inr ⟨_, _, h6.1, by simp⟩⟩
    rw [flatT_length, hlenf] at hi
    have hk : i / 3 < len := by omega
    obtain ⟨k0, k1, k2⟩ := hf2 (i / 3) (by omega)
    have hsp : a.spot = none := by
      have h0 := (hf2 0 (by omega)).1
      rw [Nat.zero_mul, Addr.add, if_pos rfl] at h0
      exact spot_none h0
    have hg := flatT_get ((List.range len).map f) (i / 3) (by simpa using hk)
    refine ⟨a.block, a.off, by rcases a with ⟨b, o, s⟩; simp at hsp; subst hsp; rfl, ?_⟩
    rw [addr_lit hsp] at k0 k1 k2
    have h3 : i % 3 = 0 ∨ i % 3 = 1 ∨ i % 3 = 2 := by omega
    rcases h3 with h3 | h3 | h3
    · have e2 : i / 3 * 3 = i := by omega
      rw [e2] at k0 hg
      rw [k0, ← List.getElem?_eq_getElem, hg.1]; simp
    · have e2 : i / 3 * 3 + 1 = i := by omega
      rw [e2] at k1 hg
      rw [k1, ← List.getElem?_eq_getElem, hg.2.1]; simp
    · have e2 : i / 3 * 3 + 2 = i := by omega
      rw [e2] at k2 hg
      rw [k2, ← List.getElem?_eq_getElem, hg.2.2]; simp
theorem open_LysF {fuel : Nat} {t e q : TypeId} {f0 f1 f2 : Field} {v : Value} {d : DataW H} {p : List MemPlace} (ht : P.underlying t = some (.slice e)) (he : P.underlying e = some (.slice q)) (hq : P.underlying q = some (.struct #[f0, f1, f2])) (ce : P.cellsOf e = 1) (cq : P.cellsOf q = 3)
    (o0 : f0.offset = 0) (o1 : f1.offset = 1) (o2 : f2.offset = 2) (c0 : P.cellsOf f0.type = 1) (c1 : P.cellsOf f1.type = 1) (c2 : P.cellsOf f2.type = 1)
    (u0 : P.underlying f0.type = some (.int .i64)) (u1 : P.underlying f1.type = some (.int .i64)) (u2 : P.underlying f2.type = some (.int .i64))
    (hf : DataW.trod enc P w base spare held fuel t [v] = some (d, p)) : ∃ (L : List (List Tri)) (R : Nat → Value), LysAt w v L R ∧ LysD L d := by
  rcases open_slice1 ht ce hf with ⟨h1, h2⟩ | ⟨a, len, cap, m, n, V, D, Pl, h1, h2, h3, h4, h5, h6, h7⟩
  · simp at h1
    subst h1
    exact ⟨[], fun _ => .bool false, ⟨⟨none, 0, rfl, by simp, Nat.le_refl _, Nat.zero_le _, fun i hi => by simp at hi⟩, fun i hi => by simp at hi⟩, .inl rfl⟩
  · simp at h1 h6
    subst h1
    have hlm : len ≤ m := by rw [h5]; split <;> omega
    have each : ∀ i, i < m → ∃ l : List Tri, Trs w (V i) l ∧ TrD l (D i) := fun i hi => open_TrsF he hq cq o0 o1 o2 c0 c1 c2 u0 u1 u2 (h7 i hi).2
    have choose : ∃ f : Nat → List Tri, ∀ i, i < m → Trs w (V i) (f i) ∧ TrD (f i) (D i) := by
      refine ⟨fun i => if h : i < m then Classical.choose (each i h) else [], fun i hi => ?_⟩
      have e : (if h : i < m then Classical.choose (each i h) else []) = Classical.choose (each i hi) := dif_pos hi
      simp only [e]; exact Classical.choose_spec (each i hi)
    obtain ⟨f, hf2⟩ := choose
    refine ⟨(List.range len).map f, V, ⟨⟨some a, cap, ?_, ?_, ?_, h4, fun i hi => ?_⟩, fun i hi => ?_⟩, .inr ⟨_, _, h6.1, by simp, fun i hi => ?_⟩⟩
    · simp
    · simp
    · simpa using h3
    · simp at hi
      have hsp : a.spot = none := spot_none (by have := (h7 0 (by omega)).1; rw [Addr.add, if_pos rfl] at this; exact this)
      refine ⟨a.block, a.off, by rcases a with ⟨b, o, s⟩; simp at hsp; subst hsp; rfl, ?_⟩
      have := (h7 i (by omega)).1
      rw [addr_lit hsp] at this
      rw [this]; simp
    · simp at hi
      rw [nthY_eq (by simpa using hi)]; simpa using (hf2 i (by omega)).1
    · simp at hi
      rw [nthY_eq (by simpa using hi)]; simpa using (hf2 i (by omega)).2
/-- A struct of a number and a slice. -/
theorem open_pair {t : TypeId} {g0 g1 : Field} {cs : Array Value} {d : DataW H} {p : List MemPlace} (ht : P.underlying t = some (.struct #[g0, g1])) (o0 : g0.offset = 0) (o1 : g1.offset = 1) (c0 : P.cellsOf g0.type = 1) (c1 : P.cellsOf g1.type = 1)
    (u0 : P.underlying g0.type = some (.int .i64)) (hs : cs.size = 2) (hv : (Value.agg cs).cells.toList = cs.toList) (h : DataW.Trod enc P w base spare held t (.agg cs) d p) :
    ∃ (n : Int) (sv : Value) (d0 d1 : DataW H) (p1 : List MemPlace) (fuel : Nat), cs = #[.int .i64 n, sv] ∧ d = .agg [d0, d1] ∧ DataW.trod enc P w base spare held fuel g1.type [sv] = some (d1, p1) := by
  obtain ⟨fuel, hf⟩ := h
  rw [hv] at hf
  obtain ⟨xs, k, hk, hxy, _, hxl, hff⟩ := DataW.trod_struct ht hf
  obtain ⟨a, b, rfl⟩ : ∃ a b, cs = #[a, b] := by
    rcases cs with ⟨l⟩
    match l, hs with
    | [a, b], _ => exact ⟨a, b, rfl⟩
  match xs, hxl with
  | [y0, y1], _ =>
    have e0 := hff 0 g0 rfl
    have e1 := hff 1 g1 rfl
    simp [o0, o1, c0, c1] at e0 e1
    obtain ⟨x, hx0, _⟩ := DataW.trod_int u0 e0
    simp at hx0
    subst hx0
    simp only [Prod.mk.injEq] at hxy
    exact ⟨x, b, y0.1, y1.1, y1.2, k, rfl, by simpa using hxy.1, e1⟩
theorem okWide_agg {t : TypeId} {fs : Array Field} {v : Value} {r : Reach} (ht : P.underlying t = some (.struct fs)) (h : Value.okWide P w r base t v) : ∃ cs, v = .agg cs ∧ cs.size = P.cellsOf t := by
  simp only [Value.okWide, ht] at h
  obtain ⟨cs, rfl, h2, _⟩ := h
  exact ⟨cs, rfl, h2⟩
end
end Go.Att
namespace Go.Proofs.YtnkcldhjbhdejaaDoor.bulks
open Go.Att
theorem tr_le {H : Type} {l : List Tri} {d : DataW H} (h : TrD l d) : l.length ≤ Rows.uptoBulk d := by
  rcases h with rfl | ⟨es, sp, rfl, e⟩
  · exact Nat.zero_le _
  · have := slice_le es sp; omega
theorem lys_le {H : Type} {L : List (List Tri)} {d : DataW H} (h : LysD L d) : L.length ≤ Rows.uptoBulk d := by
  rcases h with rfl | ⟨es, sp, rfl, e, _⟩
  · exact Nat.zero_le _
  · have := slice_le es sp; omega
end Go.Proofs.YtnkcldhjbhdejaaDoor.bulks
