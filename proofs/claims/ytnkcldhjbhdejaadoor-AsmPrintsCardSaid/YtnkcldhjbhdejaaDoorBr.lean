/- How an argument reads that is a code, with the range of its numbers. -/
import Derived.Test.YtnkcldhjbhdejaaDoorBq
import Derived.Test.YtnkcldhjbhdejaaDoorAz
namespace Go.Att
open Go.RowKit Go.ChangeShapes Go.WideShapes Go.Deep
theorem inR_wf {n : Int} (h : (Lit.int .i64 n).wf = true) : InR n := by
  have : (decide ((-9223372036854775808 : Int) ≤ n) && decide (n ≤ (9223372036854775807 : Int))) = true := h
  simp at this
  exact this
section
variable {H : Type} {enc : TypeId × Value → H} {P : Program} {w : World} {base : Nat} {spare : Nat → Bool} {held : Bool}
theorem open_InqW {fuel : Nat} {t e : TypeId} {f0 f1 f2 f3 : Field} {v : Value} {d : DataW H} {p : List MemPlace} (ht : P.underlying t = some (.slice e)) (he : P.underlying e = some (.struct #[f0, f1, f2, f3])) (ce : P.cellsOf e = 4)
    (o0 : f0.offset = 0) (o1 : f1.offset = 1) (o2 : f2.offset = 2) (o3 : f3.offset = 3) (c0 : P.cellsOf f0.type = 1) (c1 : P.cellsOf f1.type = 1) (c2 : P.cellsOf f2.type = 1) (c3 : P.cellsOf f3.type = 1)
    (u0 : P.underlying f0.type = some (.int .i64)) (u1 : P.underlying f1.type = some (.int .i64)) (u2 : P.underlying f2.type = some (.int .i64)) (u3 : P.underlying f3.type = some (.int .i64))
    (hf : DataW.trod enc P w base spare held fuel t [v] = some (d, p)) : ∃ l : List In4, Inqs w v l ∧ InD l d ∧ ∀ q ∈ l, Wid q := by
  rcases open_slice ht hf with ⟨h1, h2⟩ | ⟨a, len, cap, m, n, D, Pl, h1, hb, hl, hm, hmm, h6, hx⟩
  · simp at h1
    subst h1
    exact ⟨[], ⟨none, 0, rfl, by simp [flatQ], Nat.le_refl _, Nat.zero_le _, fun i hi => by simp [flatQ] at hi⟩, .inl rfl, fun q hq => by cases hq⟩
  · simp at h1 h6
    subst h1
    have hlm : len ≤ m := by rw [hmm]; split <;> omega
    have each : ∀ i, i < m → ∃ q : In4, w.cell? (a.add (i * 4)) = some (.int .i64 q.op) ∧ w.cell? (a.add (i * 4 + 1)) = some (.int .i64 q.a) ∧ w.cell? (a.add (i * 4 + 2)) = some (.int .i64 q.b) ∧ w.cell? (a.add (i * 4 + 3)) = some (.int .i64 q.c) ∧ Wid q := by
      intro i hi
      obtain ⟨cs', g1, g2⟩ := hx i hi
      rw [ce] at g1
      obtain ⟨_, hlen, hcell⟩ := World.cells?_some g1
      obtain ⟨xs, k, hk, hxy, _, hxl, hff⟩ := DataW.trod_struct he g2
      match xs, hxl, cs', hlen with
      | [y0, y1, y2, y3], _, [v0, v1, v2, v3], _ =>
        have g0 := hff 0 f0 rfl
        have g1 := hff 1 f1 rfl
        have g2 := hff 2 f2 rfl
        have g3 := hff 3 f3 rfl
        simp [o0, o1, o2, o3, c0, c1, c2, c3] at g0 g1 g2 g3
        have e0 := hcell 0 (by omega)
        have e1 := hcell 1 (by omega)
        have e2 := hcell 2 (by omega)
        have e3 := hcell 3 (by omega)
        rw [add_add] at e0 e1 e2 e3
        obtain ⟨x, hx0, _⟩ := DataW.trod_int u0 g0
        obtain ⟨y, hy0, _, wy⟩ := DataW.trod_int u1 g1
        obtain ⟨z, hz0, _, wz⟩ := DataW.trod_int u2 g2
        obtain ⟨u, hu0, _, wu⟩ := DataW.trod_int u3 g3
        simp at hx0 hy0 hz0 hu0
        subst hx0 hy0 hz0 hu0
        exact ⟨⟨x, y, z, u⟩, by simpa using e0, by simpa using e1, by simpa using e2, by simpa using e3, inR_wf wy, inR_wf wz, inR_wf wu⟩
    have choose : ∃ f : Nat → In4, ∀ i, i < m → w.cell? (a.add (i * 4)) = some (.int .i64 (f i).op) ∧ w.cell? (a.add (i * 4 + 1)) = some (.int .i64 (f i).a) ∧ w.cell? (a.add (i * 4 + 2)) = some (.int .i64 (f i).b) ∧ w.cell? (a.add (i * 4 + 3)) = some (.int .i64 (f i).c) ∧ Wid (f i) := by
      refine ⟨fun i => if h : i < m then Classical.choose (each i h) else ⟨0, 0, 0, 0⟩, fun i hi => ?_⟩
      have e : (if h : i < m then Classical.choose (each i h) else (⟨0, 0, 0, 0⟩ : In4)) = Classical.choose (each i hi) := dif_pos hi
      simp only [e]; exact Classical.choose_spec (each i hi)
    obtain ⟨f, hf2⟩ := choose
    have hlenf : ((List.range len).map f).length = len := by simp
    refine ⟨(List.range len).map f, ⟨some a, cap, by simp, by rw [flatQ_length], by simpa using hl, hm, fun i hi => ?_⟩, .inr ⟨_, _, h6.1, by simp⟩, fun q hq => by
      obtain ⟨i, hi, rfl⟩ := List.mem_map.1 hq
      exact (hf2 i (by have := List.mem_range.1 hi; omega)).2.2.2.2⟩
    rw [flatQ_length, hlenf] at hi
    have hk : i / 4 < len := by omega
    obtain ⟨k0, k1, k2, k3, _⟩ := hf2 (i / 4) (by omega)
    have hsp : a.spot = none := by
      have h0 := (hf2 0 (by omega)).1
      rw [Nat.zero_mul, Addr.add, if_pos rfl] at h0
      exact spot_none h0
    have hg := flatQ_get ((List.range len).map f) (i / 4) (by simpa using hk)
    refine ⟨a.block, a.off, by rcases a with ⟨b, o, s⟩; simp at hsp; subst hsp; rfl, ?_⟩
    rw [addr_lit hsp] at k0 k1 k2 k3
    have h3 : i % 4 = 0 ∨ i % 4 = 1 ∨ i % 4 = 2 ∨ i % 4 = 3 := by omega
    rcases h3 with h3 | h3 | h3 | h3
    · have e2 : i / 4 * 4 = i := by omega
      rw [e2] at k0 hg
      rw [k0, ← List.getElem?_eq_getElem, hg.1]; simp
    · have e2 : i / 4 * 4 + 1 = i := by omega
      rw [e2] at k1 hg
      rw [k1, ← List.getElem?_eq_getElem, hg.2.1]; simp
    · have e2 : i / 4 * 4 + 2 = i := by omega
      rw [e2] at k2 hg
      rw [k2, ← List.getElem?_eq_getElem, hg.2.2.1]; simp
    · have e2 : i / 4 * 4 + 3 = i := by omega
      rw [e2] at k3 hg
      rw [k3, ← List.getElem?_eq_getElem, hg.2.2.2]; simp
theorem open_pairW {t : TypeId} {g0 g1 : Field} {cs : Array Value} {d : DataW H} {p : List MemPlace} (ht : P.underlying t = some (.struct #[g0, g1])) (o0 : g0.offset = 0) (o1 : g1.offset = 1) (c0 : P.cellsOf g0.type = 1) (c1 : P.cellsOf g1.type = 1)
    (u0 : P.underlying g0.type = some (.int .i64)) (hs : cs.size = 2) (hv : (Value.agg cs).cells.toList = cs.toList) (h : DataW.Trod enc P w base spare held t (.agg cs) d p) :
    ∃ (n : Int) (sv : Value) (d0 d1 : DataW H) (p1 : List MemPlace) (fuel : Nat), cs = #[.int .i64 n, sv] ∧ d = .agg [d0, d1] ∧ DataW.trod enc P w base spare held fuel g1.type [sv] = some (d1, p1) ∧ InR n := by
  obtain ⟨fuel, hf⟩ := h
  rw [hv] at hf
  obtain ⟨xs, k, hk, hxy, _, hxl, hff⟩ := DataW.trod_struct ht hf
  obtain ⟨a, b, rfl⟩ : ∃ a b, cs = #[a, b] := by
    rcases cs with ⟨l⟩
    match l, hs with
    | [a, b], _ => exact ⟨a, b, rfl⟩
  match xs, hxl with
  | [y0, y1], _ =>
    have e0 := hff 0 g0 rfl
    have e1 := hff 1 g1 rfl
    simp [o0, o1, c0, c1] at e0 e1
    obtain ⟨x, hx0, _, wx⟩ := DataW.trod_int u0 e0
    simp at hx0
    subst hx0
    simp only [Prod.mk.injEq] at hxy
    exact ⟨x, b, y0.1, y1.1, y1.2, k, rfl, by simpa using hxy.1, e1, inR_wf wx⟩
end
end Go.Att
