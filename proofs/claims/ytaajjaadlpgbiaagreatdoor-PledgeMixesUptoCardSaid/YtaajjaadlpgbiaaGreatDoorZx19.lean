/- Words for worlds: a slice that the call grows, whose elements may hold slices made meanwhile. No program in sight. From a law's walk to its row: what a law leaves behind; how arguments read. No function in sight. -/
import Derived.Test.YtaajjaadlpgbiaaGreatDoorVc
import Derived.ProofKit
import Derived.OpenShut
import Derived.Deep.SlicePairs
import Derived.Carry
import Derived.Deep.Slices
section
namespace Go.Att
open Go.RowKit
/-- In blocks from X on, below Y. -/
def InB (X Y : Nat) (v : Value) : Prop := ∀ k, v.ownBlock = some k → X ≤ k ∧ k < Y
theorem InB.mono {X Y X' Y' : Nat} {v : Value} (h : InB X Y v) (h1 : X' ≤ X) (h2 : Y ≤ Y') : InB X' Y' v := fun k hk => by have := h k hk; omega
/-- What reads its elements: it may be carried over a change elsewhere. -/
structure Rdg (α : Type) where
  sat : Nat → Nat → World → α → List Value → Prop
  keep : ∀ {X Y : Nat} {w w' : World} {x : α} {cs : List Value} {b : Option Nat}, sat X Y w x cs → w.grownBy w' b → (∀ k, b = some k → k < X ∨ Y ≤ k) → sat X Y w' x cs
  wide : ∀ {X Y X' Y' : Nat} {w : World} {x : α} {cs : List Value}, sat X Y w x cs → X' ≤ X → Y ≤ Y' → sat X' Y' w x cs
/-- A slice of its own (from block B on) that reads as l. -/
structure Lst {α : Type} (ρ : Rdg α) (B : Nat) (w : World) (e sz : Nat) (v : Value) (l : List α) (E : Nat → List Value) : Prop where
  own : w.ownsRow B e sz v l.length ((List.range l.length).flatMap E)
  each : ∀ i (h : i < l.length), ∃ X Y, B ≤ X ∧ Y ≤ w.heap.size ∧ (∀ k, v.ownBlock = some k → k < X ∨ Y ≤ k) ∧ ρ.sat X Y w l[i] (E i)
section
variable {α : Type} {ρ : Rdg α} {B : Nat} {w w' : World} {e sz : Nat} {v : Value} {l : List α} {E : Nat → List Value}
theorem Lst.nil (B : Nat) (w : World) (e sz : Nat) (h : w.ownsRow B e sz v 0 []) : Lst ρ B w e sz v [] E := ⟨h, fun i hi => by simp at hi⟩
theorem Lst.low (h : Lst ρ B w e sz v l E) {q : Nat} (hg : w.grownBy w' (some q)) (hq : q < B) : Lst ρ B w' e sz v l E :=
  ⟨own_low h.own hg hq, fun i hi => by
    obtain ⟨X, Y, h1, h2, h3, h4⟩ := h.each i hi
    exact ⟨X, Y, h1, Nat.le_trans h2 hg.size, h3, ρ.keep h4 hg (fun k hk => by have := Option.some.inj hk; omega)⟩⟩
theorem Lst.ext (h : Lst ρ B w e sz v l E) (hx : Ext w w') : Lst ρ B w' e sz v l E :=
  ⟨own_ext h.own hx, fun i hi => by
    obtain ⟨X, Y, h1, h2, h3, h4⟩ := h.each i hi
    exact ⟨X, Y, h1, Nat.le_trans h2 hx.size, h3, ρ.keep h4 (hx.grownBy none) (fun k hk => by cases hk)⟩⟩
theorem flatMap_if (n : Nat) (E : Nat → List Value) (cs : List Value) : (List.range (n + 1)).flatMap (fun i => if i < n then E i else cs) = (List.range n).flatMap E ++ cs := by
  rw [List.range_succ, List.flatMap_append]
  have h1 : (List.range n).flatMap (fun i => if i < n then E i else cs) = (List.range n).flatMap E := by
    rw [List.flatMap_def, List.flatMap_def]
    congr 1
    exact List.map_congr_left fun i hi => by rw [if_pos (List.mem_range.1 hi)]
  rw [h1]; simp
theorem Lst.push (h : Lst ρ B w e sz v l E) {v' : Value} {x : α} {cs : List Value} {X Y : Nat} (hX : B ≤ X) (hY : Y ≤ w.heap.size) (hv : ∀ k, v.ownBlock = some k → k < X ∨ Y ≤ k) (hs : ρ.sat X Y w x cs)
    (ho : w'.ownsRow B e sz v' (l.length + 1) ((List.range l.length).flatMap E ++ cs)) (hg : w.grownBy w' v.ownBlock) (hm : Moved w v v') : Lst ρ B w' e sz v' (l ++ [x]) (fun i => if i < l.length then E i else cs) := by
  have far : ∀ X Y, Y ≤ w.heap.size → (∀ k, v.ownBlock = some k → k < X ∨ Y ≤ k) → ∀ k, v'.ownBlock = some k → k < X ∨ Y ≤ k := by
    intro X Y hY hv k hk
    rcases hm with hm | hm
    · exact hv k (by rw [← hm]; exact hk)
    · exact .inr (Nat.le_trans hY (hm k hk))
  refine ⟨by rw [List.length_append, List.length_singleton, flatMap_if]; exact ho, fun i hi => ?_⟩
  by_cases h1 : i < l.length
  · obtain ⟨X', Y', g1, g2, g3, g4⟩ := h.each i h1
    refine ⟨X', Y', g1, Nat.le_trans g2 hg.size, far X' Y' g2 g3, ?_⟩
    rw [if_pos h1, List.getElem_append_left h1]
    exact ρ.keep g4 hg g3
  · refine ⟨X, Y, hX, Nat.le_trans hY hg.size, far X Y hY hv, ?_⟩
    rw [if_neg h1]
    have : (l ++ [x])[i] = x := by rw [List.getElem_append_right (by omega)]; simp
    rw [this]
    exact ρ.keep hs hg hv
/-- What is grown beside it. -/
theorem grown_own {W : World} {q : Nat} {n : Nat} {xs : List Value} (h : W.grownBy w (some q)) (ho : w.ownsRow W.heap.size e sz v n xs) (k : w.grownBy w' v.ownBlock) : W.grownBy w' (some q) :=
  ⟨k.os.trans h.os, k.tape.trans h.tape, k.output.trans h.output, Nat.le_trans h.size k.size, fun p hp hne => by
    rw [k.block p (Nat.lt_of_lt_of_le hp h.size) (fun hc => by have := (ho.lt p hc.symm).1; omega)]; exact h.block p hp hne⟩
end
/-- Numbers, as elements. -/
def rgInt : Rdg Int where
  sat := fun _ _ _ x cs => cs = [.int .i64 x]
  keep := fun h _ _ => h
  wide := fun h _ _ => h
/-- Slices of numbers, as elements. -/
def rgInts : Rdg (List Int) where
  sat := fun X Y w l cs => ∃ u, cs = [u] ∧ Ints w u l ∧ InB X Y u
  keep := by
    rintro X Y w w' x cs b ⟨u, rfl, hu, hb⟩ hg hf
    exact ⟨u, rfl, hu.grown hg (fun k hk hc => by have := hb k hk; have := hf k hc.symm; omega), hb⟩
  wide := by
    rintro X Y X' Y' w x cs ⟨u, rfl, hu, hb⟩ h1 h2
    exact ⟨u, rfl, hu, hb.mono h1 h2⟩
theorem Lst.ints {B : Nat} {w : World} {e : Nat} {v : Value} {l : List Int} {E : Nat → List Value} (h : Lst rgInt B w e 1 v l E) : w.ownsRow B e 1 v l.length (l.map (Value.int .i64)) := by
  have : (List.range l.length).flatMap E = l.map (Value.int .i64) := by
    have h1 : (List.range l.length).flatMap E = (List.range l.length).flatMap fun i => [.int .i64 (nth l i)] := by
      rw [List.flatMap_def, List.flatMap_def]
      congr 1
      refine List.map_congr_left fun i hi => ?_
      have hi' := List.mem_range.1 hi
      obtain ⟨X, Y, _, _, _, h4⟩ := h.each i hi'
      rw [nth_eq hi']; exact h4
    rw [h1]
    apply List.ext_getElem?
    intro i
    have h2 : (List.range l.length).flatMap (fun i => [Value.int .i64 (nth l i)]) = (List.range l.length).map fun i => Value.int .i64 (nth l i) := by
      rw [List.flatMap_def]; induction (List.range l.length) <;> simp_all
    rw [h2]
    by_cases hi : i < l.length
    · simp [hi, nth_eq hi]
    · rw [List.getElem?_eq_none (by simp; omega), List.getElem?_eq_none (by simp; omega)]
  rw [← this]; exact h.own
theorem Lst.rws {B : Nat} {w : World} {e : Nat} {v : Value} {l : List (List Int)} {E : Nat → List Value} (h : Lst rgInts B w e 1 v l E) : ∃ R, RwsAt w v l R ∧ ∀ i, i < l.length → InB B w.heap.size (R i) := by
  have hex : ∀ i, ∃ u, i < l.length → E i = [u] ∧ Ints w u (nthL l i) ∧ InB B w.heap.size u := by
    intro i
    by_cases hi : i < l.length
    · obtain ⟨X, Y, h1, h2, _, u, hu, hI, hb⟩ := h.each i hi
      exact ⟨u, fun _ => ⟨hu, by rw [nthL_eq hi]; exact hI, hb.mono h1 h2⟩⟩
    · exact ⟨.bool false, fun hc => absurd hc hi⟩
  refine ⟨fun i => Classical.choose (hex i), ⟨?_, fun i hi => ((Classical.choose_spec (hex i)) hi).2.1⟩, fun i hi => ((Classical.choose_spec (hex i)) hi).2.2⟩
  have h2 : (List.range l.length).flatMap E = (List.range l.length).map fun i => Classical.choose (hex i) := by
    have h1 : (List.range l.length).flatMap E = (List.range l.length).flatMap fun i => [Classical.choose (hex i)] := by
      rw [List.flatMap_def, List.flatMap_def]
      congr 1
      exact List.map_congr_left fun i hi => ((Classical.choose_spec (hex i)) (List.mem_range.1 hi)).1
    rw [h1, List.flatMap_def]; induction (List.range l.length) <;> simp_all
  have := Sl.of_own h.own (by omega)
  rw [h2] at this
  exact this
end Go.Att
namespace Go.Att
theorem own_lower {w : World} {B B' e sz n : Nat} {v : Value} {xs : List Value} (h : w.ownsRow B e sz v n xs) (hb : B' ≤ B) : w.ownsRow B' e sz v n xs := by
  refine ⟨h.1, ?_⟩
  rcases h.2 with h2 | ⟨g, cap, cur, hv, hbg, hr⟩
  · exact .inl h2
  · exact .inr ⟨g, cap, cur, hv, Nat.le_trans hb hbg, hr⟩
theorem own_shape3 {w : World} {B e sz n : Nat} {v : Value} {xs : List Value} (h : w.ownsRow B e sz v n xs) : ∃ ao cap, v = .slice ao n cap := by
  obtain ⟨h1, h2⟩ := h
  rcases h2 with ⟨rfl, rfl⟩ | ⟨g, cap, cur, rfl, _⟩
  · exact ⟨_, _, rfl⟩
  · exact ⟨_, _, rfl⟩
/-- Openings' slices, as elements. -/
def rgOpn : Rdg (List Int × List (List Int) × List (List Int)) where
  sat := fun X Y w o cs => ∃ a b c R S, cs = [a, b, c] ∧ Ints w a o.1 ∧ InB X Y a ∧ RwsAt w b o.2.1 R ∧ InB X Y b ∧ (∀ i, i < o.2.1.length → InB X Y (R i)) ∧ RwsAt w c o.2.2 S ∧ InB X Y c ∧ (∀ i, i < o.2.2.length → InB X Y (S i))
  keep := by
    rintro X Y w w' x cs bb ⟨a, b, c, R, S, rfl, h1, h2, h3, h4, h5, h6, h7, h8⟩ hg hf
    have far : ∀ v, InB X Y v → ∀ k, v.ownBlock = some k → some k ≠ bb := fun v hv k hk hc => by have := hv k hk; have := hf k hc.symm; omega
    exact ⟨a, b, c, R, S, rfl, h1.grown hg (far a h2), h2, ⟨h3.sl.grown hg (far b h4), fun i hi => (h3.row i hi).grown hg (far _ (h5 i hi))⟩, h4, h5, ⟨h6.sl.grown hg (far c h7), fun i hi => (h6.row i hi).grown hg (far _ (h8 i hi))⟩, h7, h8⟩
  wide := by
    rintro X Y X' Y' w x cs ⟨a, b, c, R, S, rfl, h1, h2, h3, h4, h5, h6, h7, h8⟩ g1 g2
    exact ⟨a, b, c, R, S, rfl, h1, h2.mono g1 g2, h3, h4.mono g1 g2, fun i hi => (h5 i hi).mono g1 g2, h6, h7.mono g1 g2, fun i hi => (h8 i hi).mono g1 g2⟩
end Go.Att
end
section
/-! From a law's walk to its row: what a law leaves behind; how arguments read. No function in sight. -/
namespace Go.Att
open Go.RowKit Go.ChangeShapes Go.WideShapes Go.Deep

section
variable {H : Type} {enc : TypeId × Value → H} {P : Program}
/-- All arguments read behind the call as they did. -/
theorem trodAll_below (hl : laidOutB P = true) {W W' : World} (hb : Ext W W') : ∀ {ts : List TypeId} {vs : List Value} {ds : List (DataW H)} {ps : List MemPlace},
    (∀ t ∈ ts, P.readableRec t = true ∧ t < P.types.size) → DataW.TrodAll enc P W 0 (fun _ => true) true ts vs ds ps → (∀ x ∈ ps, x.block < W.heap.size) →
    DataW.TrodAll enc P W' 0 (fun b => decide (b < W.heap.size)) true ts vs ds ps
  | [], vs, ds, ps, _, h, _ => by
    obtain ⟨rfl, rfl, rfl⟩ := trodAll_nil h
    exact trodAll_mk0
  | t :: ts, vs, ds, ps, hr, h, hlt => by
    obtain ⟨v, vs', d, ds', p, q, rfl, rfl, rfl, h1, h2⟩ := trodAll_cons h
    obtain ⟨r1, r2⟩ := hr t (by simp)
    exact trodAll_cons_mk (Below.trod hl r1 r2 h1 hb (fun x hx => hlt x (by simp [hx]))) (trodAll_below hl hb (fun t ht => hr t (by simp [ht])) h2 (fun x hx => hlt x (by simp [hx])))

/-- What a law that returns true, and leaves all that was there as it was, leaves behind. -/
theorem law_post {f : Func} {s : ChangeSpec} {W W' : World} {args : Array Value} {ds gs : List (DataW H)} {before : List MemPlace} {tb : TypeId} (hl : laidOutB P = true)
    (hpar : f.params.toList.all (fun t => P.readableRec t && decide (t < P.types.size)) = true) (hres : f.resultTypes = #[tb]) (htb : P.underlying tb = some .bool) (hsv : s.vars = [])
    (hW : DataW.Whole enc P f.params.toList s.vars false W args.toList ds gs before) (hfn : s.fn H ds = { results := [.lit (.bool true)], args := ds }) (hx : Ext W W') :
    s.post enc P f false true false false W args (.bool true) W' := by
  have hW' := hW
  obtain ⟨p, q, hA, hV, rfl, hfz, hnd⟩ := hW
  rw [hsv] at hV
  obtain ⟨rfl, rfl⟩ : gs = [] ∧ q = [] := by
    cases gs with
    | nil => exact ⟨rfl, hV⟩
    | cons g r => exact absurd hV (by intro h; cases h)
  have hlt : ∀ x ∈ p, x.block < W.heap.size := fun x hx => hW'.lt x (by simpa using hx)
  have hpar' : ∀ t ∈ f.params.toList, P.readableRec t = true ∧ t < P.types.size := fun t ht => by
    have := List.all_eq_true.1 hpar t ht
    simpa using this
  refine ⟨ds, [], _, [], p, [], hW', ?_, ?_, ?_, World.keptBut_mono (fun x hx => ?_) (Below.frame hx (fun _ => False)), fun h => by cases h⟩
  · rw [List.append_nil, hfn, hres]
    exact trodAll_mk1 (shut_bool htb true)
  · rw [List.append_nil, hfn]
    exact trodAll_below hl hx hpar' hA hlt
  · rw [List.append_nil, hfn, hsv]; rfl
  · exact hx.elim
end

section
variable {H : Type} {enc : TypeId × Value → H} {P : Program} {w : World} {base : Nat} {spare : Nat → Bool} {held : Bool}
/-- A slice of ints that came in. -/
theorem open_IntsF {fuel : Nat} {t e : TypeId} {v : Value} {d : DataW H} {p : List MemPlace} (ht : P.underlying t = some (.slice e)) (he : P.underlying e = some (.int .i64)) (hc : P.cellsOf e = 1)
    (hf : DataW.trod enc P w base spare held fuel t [v] = some (d, p)) : ∃ l : List Int, Ints w v l ∧ (l = [] ∨ ∃ es sp, d = .slice es sp ∧ es.length = l.length) := by
  rcases open_ints ht he hc hf with ⟨h1, h2⟩ | ⟨a, len, cap, zs, h1, h2, h3, h4, h5, h6, h7, h8⟩
  · simp at h1 h2
    subst h1
    exact ⟨[], Ints.nil _, .inl rfl⟩
  · simp at h1 h6
    subst h1
    have hlz : len ≤ zs.length := by rw [h5]; split <;> omega
    refine ⟨zs.take len, ⟨some a, cap, ?_, ?_, ?_, h4, fun i hi => ?_⟩, .inr ⟨_, _, h6.1, by simp [lits]⟩⟩
    · simp; omega
    · simp
    · simp; omega
    · simp at hi
      have hi' : i < zs.length := by omega
      have hsp : a.spot = none := by
        have h0 := h7 0 (by omega)
        rw [Addr.add, if_pos rfl] at h0
        rcases ha : a.spot with _ | n
        · rfl
        · unfold World.cell? at h0
          rw [ha] at h0
          split at h0
          · simp at h0
          · cases h0
      refine ⟨a.block, a.off, ?_, ?_⟩
      · rcases a with ⟨b, o, s⟩; simp at hsp; subst hsp; rfl
      · have hci := h7 i hi'
        have : a.add i = ⟨a.block, a.off + i, none⟩ := by
          rcases a with ⟨b, o, s⟩; simp at hsp; subst hsp; exact Addr.add_lit _ _ _
        rw [this] at hci
        rw [hci]
        simp [hi']
theorem open_Ints {t e : TypeId} {v : Value} {d : DataW H} {p : List MemPlace} (ht : P.underlying t = some (.slice e)) (he : P.underlying e = some (.int .i64)) (hc : P.cellsOf e = 1)
    (hv : v.cells.toList = [v]) (h : DataW.Trod enc P w base spare held t v d p) : ∃ l : List Int, Ints w v l ∧ (l = [] ∨ ∃ es sp, d = .slice es sp ∧ es.length = l.length) := by
  obtain ⟨fuel, hf⟩ := h
  rw [hv] at hf
  exact open_IntsF ht he hc hf

theorem spot_none {a : Addr} {x : Value} (h0 : w.cell? a = some x) : a.spot = none := by
  rcases ha : a.spot with _ | n
  · rfl
  · unfold World.cell? at h0
    rw [ha] at h0
    split at h0
    · simp at h0
    · cases h0
/-- A slice of pairs of ints that came in. -/
theorem open_Prs {t e : TypeId} {f0 f1 : Field} {v : Value} {d : DataW H} {p : List MemPlace} (ht : P.underlying t = some (.slice e)) (he : P.underlying e = some (.struct #[f0, f1])) (ce : P.cellsOf e = 2) (o0 : f0.offset = 0) (o1 : f1.offset = 1)
    (c0 : P.cellsOf f0.type = 1) (c1 : P.cellsOf f1.type = 1) (u0 : P.underlying f0.type = some (.int .i64)) (u1 : P.underlying f1.type = some (.int .i64))
    (hv : v.cells.toList = [v]) (h : DataW.Trod enc P w base spare held t v d p) : ∃ l : List (Int × Int), Prs w v l ∧ (l = [] ∨ ∃ es sp, d = .slice es sp ∧ es.length = l.length) := by
  obtain ⟨fuel, hf⟩ := h
  rw [hv] at hf
  rcases open_slice_pairs ht he ce o0 o1 c0 c1 hf with ⟨h1, h2⟩ | ⟨a, len, cap, m, n, V0, V1, D0, D1, P0, P1, h1, h2, h3, h4, h5, h6, h7⟩
  · simp at h1
    subst h1
    exact ⟨[], ⟨none, 0, rfl, by simp [flatP], Nat.le_refl _, Nat.zero_le _, fun i hi => by simp [flatP] at hi⟩, .inl rfl⟩
  · simp at h1 h6
    subst h1
    have hlm : len ≤ m := by rw [h5]; split <;> omega
    have hint : ∀ i, i < m → ∃ x y : Int, V0 i = .int .i64 x ∧ V1 i = .int .i64 y := by
      intro i hi
      obtain ⟨_, _, t0, t1⟩ := h7 i hi
      obtain ⟨x, hx, _⟩ := DataW.trod_int u0 t0
      obtain ⟨y, hy, _⟩ := DataW.trod_int u1 t1
      exact ⟨x, y, by simpa using hx, by simpa using hy⟩
    refine ⟨(List.range len).map fun i => (intOf (V0 i), intOf (V1 i)), ⟨some a, cap, by simp, by rw [flatP_length], by simpa using h3, h4, fun i hi => ?_⟩, .inr ⟨_, _, h6.1, by simp⟩⟩
    rw [flatP_length] at hi
    simp at hi
    have hk : i / 2 < len := by omega
    obtain ⟨k0, k1, _, _⟩ := h7 (i / 2) (by omega)
    obtain ⟨x, y, ex, ey⟩ := hint (i / 2) (by omega)
    have hsp : a.spot = none := by
      have h0 := (h7 0 (by omega)).1
      rw [Nat.zero_mul, Addr.add, if_pos rfl] at h0
      exact spot_none h0
    have hadd : ∀ j, a.add j = ⟨a.block, a.off + j, none⟩ := fun j => by
      rcases a with ⟨b, o, s⟩; simp at hsp; subst hsp; exact Addr.add_lit _ _ _
    have hg := flatP_get ((List.range len).map fun i => (intOf (V0 i), intOf (V1 i))) (i / 2) (by simpa using hk)
    refine ⟨a.block, a.off, by rcases a with ⟨b, o, s⟩; simp at hsp; subst hsp; rfl, ?_⟩
    rw [hadd] at k0 k1
    rcases Nat.mod_two_eq_zero_or_one i with h8 | h8
    · have e2 : i / 2 * 2 = i := by omega
      rw [e2] at k0 hg
      rw [k0, ex, ← List.getElem?_eq_getElem, hg.1]
      simp [ex, intOf]
    · have e2 : i / 2 * 2 + 1 = i := by omega
      rw [e2] at k1 hg
      rw [k1, ey, ← List.getElem?_eq_getElem, hg.2]
      simp [ey, intOf]
end
end Go.Att
/-! How arguments read: slices of slices. No function in sight. -/
namespace Go.Att
open Go.RowKit Go.ChangeShapes Go.WideShapes Go.Deep
section
variable {H : Type} {enc : TypeId × Value → H} {P : Program} {w : World} {base : Nat} {spare : Nat → Bool} {held : Bool}
theorem addr_lit {a : Addr} (h : a.spot = none) (j : Nat) : a.add j = ⟨a.block, a.off + j, none⟩ := by
  rcases a with ⟨b, o, s⟩; simp at h; subst h; exact Addr.add_lit _ _ _
/-- What the slices in a list of lists read as. -/
def RowD {H : Type} (l : List Int) (d : DataW H) : Prop := l = [] ∨ ∃ es sp, d = .slice es sp ∧ es.length = l.length
def RowsD {H : Type} (L : List (List Int)) (d : DataW H) : Prop := L = [] ∨ ∃ es sp, d = .slice es sp ∧ es.length = L.length ∧ ∀ i (h : i < es.length), RowD (nthL L i) es[i]
theorem open_RwsF {fuel : Nat} {t e q : TypeId} {v : Value} {d : DataW H} {p : List MemPlace} (ht : P.underlying t = some (.slice e)) (he : P.underlying e = some (.slice q)) (hq : P.underlying q = some (.int .i64)) (ce : P.cellsOf e = 1) (cq : P.cellsOf q = 1)
    (hf : DataW.trod enc P w base spare held fuel t [v] = some (d, p)) : ∃ L : List (List Int), Rws w v L ∧ RowsD L d := by
  rcases open_slice1 ht ce hf with ⟨h1, h2⟩ | ⟨a, len, cap, m, n, V, D, Pl, h1, h2, h3, h4, h5, h6, h7⟩
  · simp at h1
    subst h1
    exact ⟨[], Rws.nil w, .inl rfl⟩
  · simp at h1 h6
    subst h1
    have hlm : len ≤ m := by rw [h5]; split <;> omega
    have each : ∀ i, i < m → ∃ l : List Int, Ints w (V i) l ∧ RowD l (D i) := fun i hi => open_IntsF he hq cq (h7 i hi).2
    have choose : ∃ f : Nat → List Int, ∀ i, i < m → Ints w (V i) (f i) ∧ RowD (f i) (D i) := by
      refine ⟨fun i => if h : i < m then Classical.choose (each i h) else [], fun i hi => ?_⟩
      have e : (if h : i < m then Classical.choose (each i h) else []) = Classical.choose (each i hi) := dif_pos hi
      simp only [e]; exact Classical.choose_spec (each i hi)
    obtain ⟨f, hf2⟩ := choose
    refine ⟨(List.range len).map f, ⟨V, ⟨some a, cap, ?_, ?_, ?_, h4, fun i hi => ?_⟩, fun i hi => ?_⟩, .inr ⟨_, _, h6.1, by simp, fun i hi => ?_⟩⟩
    · simp
    · simp
    · simpa using h3
    · simp at hi
      have hsp : a.spot = none := spot_none (by have := (h7 0 (by omega)).1; rw [Addr.add, if_pos rfl] at this; exact this)
      refine ⟨a.block, a.off, by rcases a with ⟨b, o, s⟩; simp at hsp; subst hsp; rfl, ?_⟩
      have := (h7 i (by omega)).1
      rw [addr_lit hsp] at this
      rw [this]; simp
    · simp at hi
      rw [nthL_eq (by simpa using hi)]; simpa using (hf2 i (by omega)).1
    · simp at hi
      rw [nthL_eq (by simpa using hi)]; simpa using (hf2 i (by omega)).2
theorem open_Rws {t e q : TypeId} {v : Value} {d : DataW H} {p : List MemPlace} (ht : P.underlying t = some (.slice e)) (he : P.underlying e = some (.slice q)) (hq : P.underlying q = some (.int .i64)) (ce : P.cellsOf e = 1) (cq : P.cellsOf q = 1)
    (hv : v.cells.toList = [v]) (h : DataW.Trod enc P w base spare held t v d p) : ∃ L : List (List Int), Rws w v L ∧ RowsD L d := by
  obtain ⟨fuel, hf⟩ := h
  rw [hv] at hf
  exact open_RwsF ht he hq ce cq hf
end
end Go.Att
end
