/- How an argument reads that is a code: a struct of a number and a slice of four numbers each. -/
import Derived.Test.YtnkcldhjbhdejaaDoorBulk
import Derived.Test.YtnkcldhjbhdejaaDoorBk
import Derived.Test.YtnkcldhjbhdejaaDoorIq
/-! How an argument reads that is a code. -/
namespace Go.Att
open Go.RowKit Go.ChangeShapes Go.WideShapes Go.Deep
section
variable {H : Type} {enc : TypeId × Value → H} {P : Program} {w : World} {base : Nat} {spare : Nat → Bool} {held : Bool}
def InD {H : Type} (l : List In4) (d : DataW H) : Prop := l = [] ∨ ∃ es sp, d = .slice es sp ∧ es.length = l.length
theorem open_InqF {fuel : Nat} {t e : TypeId} {f0 f1 f2 f3 : Field} {v : Value} {d : DataW H} {p : List MemPlace} (ht : P.underlying t = some (.slice e)) (he : P.underlying e = some (.struct #[f0, f1, f2, f3])) (ce : P.cellsOf e = 4)
    (o0 : f0.offset = 0) (o1 : f1.offset = 1) (o2 : f2.offset = 2) (o3 : f3.offset = 3) (c0 : P.cellsOf f0.type = 1) (c1 : P.cellsOf f1.type = 1) (c2 : P.cellsOf f2.type = 1) (c3 : P.cellsOf f3.type = 1)
    (u0 : P.underlying f0.type = some (.int .i64)) (u1 : P.underlying f1.type = some (.int .i64)) (u2 : P.underlying f2.type = some (.int .i64)) (u3 : P.underlying f3.type = some (.int .i64))
    (hf : DataW.trod enc P w base spare held fuel t [v] = some (d, p)) : ∃ l : List In4, Inqs w v l ∧ InD l d := by
  rcases open_slice ht hf with ⟨h1, h2⟩ | ⟨a, len, cap, m, n, D, Pl, h1, hb, hl, hm, hmm, h6, hx⟩
  · simp at h1
    subst h1
    exact ⟨[], ⟨none, 0, rfl, by simp [flatQ], Nat.le_refl _, Nat.zero_le _, fun i hi => by simp [flatQ] at hi⟩, .inl rfl⟩
  · simp at h1 h6
    subst h1
    have hlm : len ≤ m := by rw [hmm]; split <;> omega
    have each : ∀ i, i < m → ∃ q : In4, w.cell? (a.add (i * 4)) = some (.int .i64 q.op) ∧ w.cell? (a.add (i * 4 + 1)) = some (.int .i64 q.a) ∧ w.cell? (a.add (i * 4 + 2)) = some (.int .i64 q.b) ∧ w.cell? (a.add (i * 4 + 3)) = some (.int .i64 q.c) := by
      intro i hi
      obtain ⟨cs', g1, g2⟩ := hx i hi
      rw [ce] at g1
      obtain ⟨_, hlen, hcell⟩ := World.cells?_some g1
      obtain ⟨xs, k, hk, hxy, _, hxl, hff⟩ := DataW.trod_struct he g2
      match xs, hxl, cs', hlen with
      | [y0, y1, y2, y3], _, [v0, v1, v2, v3], _ =>
        have g0 := hff 0 f0 rfl
        have g1 := hff 1 f1 rfl
        have g2 := hff 2 f2 rfl
        have g3 := hff 3 f3 rfl
        simp [o0, o1, o2, o3, c0, c1, c2, c3] at g0 g1 g2 g3
        have e0 := hcell 0 (by omega)
        have e1 := hcell 1 (by omega)
        have e2 := hcell 2 (by omega)
        have e3 := hcell 3 (by omega)
        rw [add_add] at e0 e1 e2 e3
        obtain ⟨x, hx0, _⟩ := DataW.trod_int u0 g0
        obtain ⟨y, hy0, _⟩ := DataW.trod_int u1 g1
        obtain ⟨z, hz0, _⟩ := DataW.trod_int u2 g2
        obtain ⟨u, hu0, _⟩ := DataW.trod_int u3 g3
        simp at hx0 hy0 hz0 hu0
        subst hx0 hy0 hz0 hu0
        exact ⟨⟨x, y, z, u⟩, by simpa using e0, by simpa using e1, by simpa using e2, by simpa using e3⟩
    have choose : ∃ f : Nat → In4, ∀ i, i < m → w.cell? (a.add (i * 4)) = some (.int .i64 (f i).op) ∧ w.cell? (a.add (i * 4 + 1)) = some (.int .i64 (f i).a) ∧ w.cell? (a.add (i * 4 + 2)) = some (.int .i64 (f i).b) ∧ w.cell? (a.add (i * 4 + 3)) = some (.int .i64 (f i).c) := by
      refine ⟨fun i => if h : i < m then Classical.choose (each i h) else ⟨0, 0, 0, 0⟩, fun i hi => ?_⟩
      have e : (if h : i < m then Classical.choose (each i h) else (⟨0, 0, 0, 0⟩ : In4)) = Classical.choose (each i hi) := dif_pos hi
      simp only [e]; exact Classical.choose_spec (each i hi)
    obtain ⟨f, hf2⟩ := choose
    have hlenf : ((List.range len).map f).length = len := by simp
    refine ⟨(List.range len).map f, ⟨some a, cap, by simp, by rw [flatQ_length], by simpa using hl, hm, fun i hi => ?_⟩, .inr ⟨_, _, h6.1, by simp⟩⟩
    rw [flatQ_length, hlenf] at hi
    have hk : i / 4 < len := by omega
    obtain ⟨k0, k1, k2, k3⟩ := hf2 (i / 4) (by omega)
    have hsp : a.spot = none := by
      have h0 := (hf2 0 (by omega)).1
      rw [Nat.zero_mul, Addr.add, if_pos rfl] at h0
      exact spot_none h0
    have hg := flatQ_get ((List.range len).map f) (i / 4) (by simpa using hk)
    refine ⟨a.block, a.off, by rcases a with ⟨b, o, s⟩; simp at hsp; subst hsp; rfl, ?_⟩
    rw [addr_lit hsp] at k0 k1 k2 k3
    have h3 : i % 4 = 0 ∨ i % 4 = 1 ∨ i % 4 = 2 ∨ i % 4 = 3 := by omega
    rcases h3 with h3 | h3 | h3 | h3
    · have e2 : i / 4 * 4 = i := by omega
      rw [e2] at k0 hg
      rw [k0, ← List.getElem?_eq_getElem, hg.1]; simp
    · have e2 : i / 4 * 4 + 1 = i := by omega
      rw [e2] at k1 hg
      rw [k1, ← List.getElem?_eq_getElem, hg.2.1]; simp
    · have e2 : i / 4 * 4 + 2 = i := by omega
      rw [e2] at k2 hg
      rw [k2, ← List.getElem?_eq_getElem, hg.2.2.1]; simp
    · have e2 : i / 4 * 4 + 3 = i := by omega
      rw [e2] at k3 hg
      rw [k3, ← List.getElem?_eq_getElem, hg.2.2.2]; simp
end
end Go.Att
namespace Go.Proofs.YtnkcldhjbhdejaaDoor.bulks
open Go.Att
theorem code_le {H : Type} {l : List In4} {d0 d1 : DataW H} (h : InD l d1) : l.length ≤ Rows.uptoBulk (.agg [d0, d1]) := by
  rcases h with rfl | ⟨es, sp, rfl, e⟩
  · exact Nat.zero_le _
  · have h1 := slice_le es sp
    simp only [Rows.uptoBulk, Rows.uptoBulkAll] at *
    omega
end Go.Proofs.YtnkcldhjbhdejaaDoor.bulks
