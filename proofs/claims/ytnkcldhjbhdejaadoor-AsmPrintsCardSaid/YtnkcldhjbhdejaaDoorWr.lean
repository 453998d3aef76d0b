/- From a law's walk to its row: what a law leaves behind; how arguments read. No function in sight. -/
import Derived.Test.YtnkcldhjbhdejaaDoorVc
import Derived.ProofKit
import Derived.OpenShut
import Derived.Deep.SlicePairs
import Derived.Carry
import Derived.Deep.Slices
/-! From a law's walk to its row: what a law leaves behind; how arguments read. No function in sight. -/
namespace Go.Att
open Go.RowKit Go.ChangeShapes Go.WideShapes Go.Deep

section
variable {H : Type} {enc : TypeId × Value → H} {P : Program}
/-- All arguments read behind the call as they did. -/
theorem trodAll_below (hl : laidOutB P = true) {W W' : World} (hb : Ext W W') : ∀ {ts : List TypeId} {vs : List Value} {ds : List (DataW H)} {ps : List MemPlace},
    (∀ t ∈ ts, P.readableRec t = true ∧ t < P.types.size) → DataW.TrodAll enc P W 0 (fun _ => true) true ts vs ds ps → (∀ x ∈ ps, x.block < W.heap.size) →
    DataW.TrodAll enc P W' 0 (fun b => decide (b < W.heap.size)) true ts vs ds ps
  | [], vs, ds, ps, _, h, _ => by
    obtain ⟨rfl, rfl, rfl⟩ := trodAll_nil h
    exact trodAll_mk0
  | t :: ts, vs, ds, ps, hr, h, hlt => by
    obtain ⟨v, vs', d, ds', p, q, rfl, rfl, rfl, h1, h2⟩ := trodAll_cons h
    obtain ⟨r1, r2⟩ := hr t (by simp)
    exact trodAll_cons_mk (Below.trod hl r1 r2 h1 hb (fun x hx => hlt x (by simp [hx]))) (trodAll_below hl hb (fun t ht => hr t (by simp [ht])) h2 (fun x hx => hlt x (by simp [hx])))

/-- What a law that returns true, and leaves all that was there as it was, leaves behind. -/
theorem law_post {f : Func} {s : ChangeSpec} {W W' : World} {args : Array Value} {ds gs : List (DataW H)} {before : List MemPlace} {tb : TypeId} (hl : laidOutB P = true)
    (hpar : f.params.toList.all (fun t => P.readableRec t && decide (t < P.types.size)) = true) (hres : f.resultTypes = #[tb]) (htb : P.underlying tb = some .bool) (hsv : s.vars = [])
    (hW : DataW.Whole enc P f.params.toList s.vars false W args.toList ds gs before) (hfn : s.fn H ds = { results := [.lit (.bool true)], args := ds }) (hx : Ext W W') :
    s.post enc P f false true false false W args (.bool true) W' := by
  have hW' := hW
  obtain ⟨p, q, hA, hV, rfl, hfz, hnd⟩ := hW
  rw [hsv] at hV
  obtain ⟨rfl, rfl⟩ : gs = [] ∧ q = [] := by
    cases gs with
    | nil => exact ⟨rfl, hV⟩
    | cons g r => exact absurd hV (by intro h; cases h)
  have hlt : ∀ x ∈ p, x.block < W.heap.size := fun x hx => hW'.lt x (by simpa using hx)
  have hpar' : ∀ t ∈ f.params.toList, P.readableRec t = true ∧ t < P.types.size := fun t ht => by
    have := List.all_eq_true.1 hpar t ht
    simpa using this
  refine ⟨ds, [], _, [], p, [], hW', ?_, ?_, ?_, World.keptBut_mono (fun x hx => ?_) (Below.frame hx (fun _ => False)), fun h => by cases h⟩
  · rw [List.append_nil, hfn, hres]
    exact trodAll_mk1 (shut_bool htb true)
  · rw [List.append_nil, hfn]
    exact trodAll_below hl hx hpar' hA hlt
  · rw [List.append_nil, hfn, hsv]; rfl
  · exact hx.elim
end

section
variable {H : Type} {enc : TypeId × Value → H} {P : Program} {w : World} {base : Nat} {spare : Nat → Bool} {held : Bool}
/-- A slice of ints that came in. -/
theorem open_IntsF {fuel : Nat} {t e : TypeId} {v : Value} {d : DataW H} {p : List MemPlace} (ht : P.underlying t = some (.slice e)) (he : P.underlying e = some (.int .i64)) (hc : P.cellsOf e = 1)
    (hf : DataW.trod enc P w base spare held fuel t [v] = some (d, p)) : ∃ l : List Int, Ints w v l ∧ (l = [] ∨ ∃ es sp, d = .slice es sp ∧ es.length = l.length) := by
  rcases open_ints ht he hc hf with ⟨h1, h2⟩ | ⟨a, len, cap, zs, h1, h2, h3, h4, h5, h6, h7, h8⟩
  · simp at h1 h2
    subst h1
    exact ⟨[], Ints.nil _, .inl rfl⟩
  · simp at h1 h6
    subst h1
    have hlz : len ≤ zs.length := by rw [h5]; split <;> omega
    refine ⟨zs.take len, ⟨some a, cap, ?_, ?_, ?_, h4, fun i hi => ?_⟩, .inr ⟨_, _, h6.1, by simp [lits]⟩⟩
    · simp; omega
    · simp
    · simp; omega
    · simp at hi
      have hi' : i < zs.length := by omega
      have hsp : a.spot = none := by
        have h0 := h7 0 (by omega)
        rw [Addr.add, if_pos rfl] at h0
        rcases ha : a.spot with _ | n
        · rfl
        · unfold World.cell? at h0
          rw [ha] at h0
          split at h0
          · simp at h0
          · cases h0
      refine ⟨a.block, a.off, ?_, ?_⟩
      · rcases a with ⟨b, o, s⟩; simp at hsp; subst hsp; rfl
      · have hci := h7 i hi'
        have : a.add i = ⟨a.block, a.off + i, none⟩ := by
          rcases a with ⟨b, o, s⟩; simp at hsp; subst hsp; exact Addr.add_lit _ _ _
        rw [this] at hci
        rw [hci]
        simp [hi']
theorem open_Ints {t e : TypeId} {v : Value} {d : DataW H} {p : List MemPlace} (ht : P.underlying t = some (.slice e)) (he : P.underlying e = some (.int .i64)) (hc : P.cellsOf e = 1)
    (hv : v.cells.toList = [v]) (h : DataW.Trod enc P w base spare held t v d p) : ∃ l : List Int, Ints w v l ∧ (l = [] ∨ ∃ es sp, d = .slice es sp ∧ es.length = l.length) := by
  obtain ⟨fuel, hf⟩ := h
  rw [hv] at hf
  exact open_IntsF ht he hc hf

theorem spot_none {a : Addr} {x : Value} (h0 : w.cell? a = some x) : a.spot = none := by
  rcases ha : a.spot with _ | n
  · rfl
  · unfold World.cell? at h0
    rw [ha] at h0
    split at h0
    · simp at h0
    · cases h0
/-- A slice of pairs of ints that came in. -/
theorem open_Prs {t e : TypeId} {f0 f1 : Field} {v : Value} {d : DataW H} {p : List MemPlace} (ht : P.underlying t = some (.slice e)) (he : P.underlying e = some (.struct #[f0, f1])) (ce : P.cellsOf e = 2) (o0 : f0.offset = 0) (o1 : f1.offset = 1)
    (c0 : P.cellsOf f0.type = 1) (c1 : P.cellsOf f1.type = 1) (u0 : P.underlying f0.type = some (.int .i64)) (u1 : P.underlying f1.type = some (.int .i64))
    (hv : v.cells.toList = [v]) (h : DataW.Trod enc P w base spare held t v d p) : ∃ l : List (Int × Int), Prs w v l ∧ (l = [] ∨ ∃ es sp, d = .slice es sp ∧ es.length = l.length) := by
  obtain ⟨fuel, hf⟩ := h
  rw [hv] at hf
  rcases open_slice_pairs ht he ce o0 o1 c0 c1 hf with ⟨h1, h2⟩ | ⟨a, len, cap, m, n, V0, V1, D0, D1, P0, P1, h1, h2, h3, h4, h5, h6, h7⟩
  · simp at h1
    subst h1
    exact ⟨[], ⟨none, 0, rfl, by simp [flatP], Nat.le_refl _, Nat.zero_le _, fun i hi => by simp [flatP] at hi⟩, .inl rfl⟩
  · simp at h1 h6
    subst h1
    have hlm : len ≤ m := by rw [h5]; split <;> omega
    have hint : ∀ i, i < m → ∃ x y : Int, V0 i = .int .i64 x ∧ V1 i = .int .i64 y := by
      intro i hi
      obtain ⟨_, _, t0, t1⟩ := h7 i hi
      obtain ⟨x, hx, _⟩ := DataW.trod_int u0 t0
      obtain ⟨y, hy, _⟩ := DataW.trod_int u1 t1
      exact ⟨x, y, by simpa using hx, by simpa using hy⟩
    refine ⟨(List.range len).map fun i => (intOf (V0 i), intOf (V1 i)), ⟨some a, cap, by simp, by rw [flatP_length], by simpa using h3, h4, fun i hi => ?_⟩, .inr ⟨_, _, h6.1, by simp⟩⟩
    rw [flatP_length] at hi
    simp at hi
    have hk : i / 2 < len := by omega
    obtain ⟨k0, k1, _, _⟩ := h7 (i / 2) (by omega)
    obtain ⟨x, y, ex, ey⟩ := hint (i / 2) (by omega)
    have hsp : a.spot = none := by
      have h0 := (h7 0 (by omega)).1
      rw [Nat.zero_mul, Addr.add, if_pos rfl] at h0
      exact spot_none h0
    have hadd : ∀ j, a.add j = ⟨a.block, a.off + j, none⟩ := fun j => by
      rcases a with ⟨b, o, s⟩; simp at hsp; subst hsp; exact Addr.add_lit _ _ _
    have hg := flatP_get ((List.range len).map fun i => (intOf (V0 i), intOf (V1 i))) (i / 2) (by simpa using hk)
    refine ⟨a.block, a.off, by rcases a with ⟨b, o, s⟩; simp at hsp; subst hsp; rfl, ?_⟩
    rw [hadd] at k0 k1
    rcases Nat.mod_two_eq_zero_or_one i with h8 | h8
    · have e2 : i / 2 * 2 = i := by omega
      rw [e2] at k0 hg
      rw [k0, ex, ← List.getElem?_eq_getElem, hg.1]
      simp [ex, intOf]
    · have e2 : i / 2 * 2 + 1 = i := by omega
      rw [e2] at k1 hg
      rw [k1, ey, ← List.getElem?_eq_getElem, hg.2]
      simp [ey, intOf]
end
end Go.Att
/-! How arguments read: slices of slices. No function in sight. -/
namespace Go.Att
open Go.RowKit Go.ChangeShapes Go.WideShapes Go.Deep
section
variable {H : Type} {enc : TypeId × Value → H} {P : Program} {w : World} {base : Nat} {spare : Nat → Bool} {held : Bool}
theorem addr_lit {a : Addr} (h : a.spot = none) (j : Nat) : a.add j = ⟨a.block, a.off + j, none⟩ := by
  rcases a with ⟨b, o, s⟩; simp at h; subst h; exact Addr.add_lit _ _ _
/-- What the slices in a list of lists read as. -/
def RowD {H : Type} (l : List Int) (d : DataW H) : Prop := l = [] ∨ ∃ es sp, d = .slice es sp ∧ es.length = l.length
def RowsD {H : Type} (L : List (List Int)) (d : DataW H) : Prop := L = [] ∨ ∃ es sp, d = .slice es sp ∧ es.length = L.length ∧ ∀ i (h : i < es.length), RowD (nthL L i) es[i]
theorem open_RwsF {fuel : Nat} {t e q : TypeId} {v : Value} {d : DataW H} {p : List MemPlace} (ht : P.underlying t = some (.slice e)) (he : P.underlying e = some (.slice q)) (hq : P.underlying q = some (.int .i64)) (ce : P.cellsOf e = 1) (cq : P.cellsOf q = 1)
    (hf : DataW.trod enc P w base spare held fuel t [v] = some (d, p)) : ∃ L : List (List Int), Rws w v L ∧ RowsD L d := by
  rcases open_slice1 ht ce hf with ⟨h1, h2⟩ | ⟨a, len, cap, m, n, V, D, Pl, h1, h2, h3, h4, h5, h6, h7⟩
  · simp at h1
    subst h1
    exact ⟨[], Rws.nil w, .inl rfl⟩
  · simp at h1 h6
    subst h1
    have hlm : len ≤ m := by rw [h5]; split <;> omega
    have each : ∀ i, i < m → ∃ l : List Int, Ints w (V i) l ∧ RowD l (D i) := fun i hi => open_IntsF he hq cq (h7 i hi).2
    have choose : ∃ f : Nat → List Int, ∀ i, i < m → Ints w (V i) (f i) ∧ RowD (f i) (D i) := by
      refine ⟨fun i => if h : i < m then Classical.choose (each i h) else [], fun i hi => ?_⟩
      have e : (if h : i < m then Classical.choose (each i h) else []) = Classical.choose (each i hi) := dif_pos hi
      simp only [e]; exact Classical.choose_spec (each i hi)
    obtain ⟨f, hf2⟩ := choose
    refine ⟨(List.range len).map f, ⟨V, ⟨some a, cap, ?_, ?_, ?_, h4, fun i hi => ?_⟩, fun i hi => ?_⟩, .inr ⟨_, _, h6.1, by simp, fun i hi => ?_⟩⟩
    · simp
    · simp
    · simpa using h3
    · simp at hi
      have hsp : a.spot = none := spot_none (by have := (h7 0 (by omega)).1; rw [Addr.add, if_pos rfl] at this; exact this)
      refine ⟨a.block, a.off, by rcases a with ⟨b, o, s⟩; simp at hsp; subst hsp; rfl, ?_⟩
      have := (h7 i (by omega)).1
      rw [addr_lit hsp] at this
      rw [this]; simp
    · simp at hi
      rw [nthL_eq (by simpa using hi)]; simpa using (hf2 i (by omega)).1
    · simp at hi
      rw [nthL_eq (by simpa using hi)]; simpa using (hf2 i (by omega)).2
theorem open_Rws {t e q : TypeId} {v : Value} {d : DataW H} {p : List MemPlace} (ht : P.underlying t = some (.slice e)) (he : P.underlying e = some (.slice q)) (hq : P.underlying q = some (.int .i64)) (ce : P.cellsOf e = 1) (cq : P.cellsOf q = 1)
    (hv : v.cells.toList = [v]) (h : DataW.Trod enc P w base spare held t v d p) : ∃ L : List (List Int), Rws w v L ∧ RowsD L d := by
  obtain ⟨fuel, hf⟩ := h
  rw [hv] at hf
  exact open_RwsF ht he hq ce cq hf
end
end Go.Att
