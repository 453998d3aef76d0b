/- Words for worlds: a slice that the call grows, whose elements may hold slices made meanwhile. No program in sight. -/
import Derived.Test.YtionlicgaifblaaDoorVc
namespace Go.Att
open Go.RowKit
/-- In blocks from X on, below Y. -/
def InB (X Y : Nat) (v : Value) : Prop := ∀ k, v.ownBlock = some k → X ≤ k ∧ k < Y
theorem InB.mono {X Y X' Y' : Nat} {v : Value} (h : InB X Y v) (h1 : X' ≤ X) (h2 : Y ≤ Y') : InB X' Y' v := fun k hk => by have := h k hk; omega
/-- What reads its elements: it may be carried over a change elsewhere. -/
structure Rdg (α : Type) where
  sat : Nat → Nat → World → α → List Value → Prop
  keep : ∀ {X Y : Nat} {w w' : World} {x : α} {cs : List Value} {b : Option Nat}, sat X Y w x cs → w.grownBy w' b → (∀ k, b = some k → k < X ∨ Y ≤ k) → sat X Y w' x cs
  wide : ∀ {X Y X' Y' : Nat} {w : World} {x : α} {cs : List Value}, sat X Y w x cs → X' ≤ X → Y ≤ Y' → sat X' Y' w x cs
/-- A slice of its own (from block B on) that reads as l. -/
structure Lst {α : Type} (ρ : Rdg α) (B : Nat) (w : World) (e sz : Nat) (v : Value) (l : List α) (E : Nat → List Value) : Prop where
  own : w.ownsRow B e sz v l.length ((List.range l.length).flatMap E)
  each : ∀ i (h : i < l.length), ∃ X Y, B ≤ X ∧ Y ≤ w.heap.size ∧ (∀ k, v.ownBlock = some k → k < X ∨ Y ≤ k) ∧ ρ.sat X Y w l[i] (E i)
section
variable {α : Type} {ρ : Rdg α} {B : Nat} {w w' : World} {e sz : Nat} {v : Value} {l : List α} {E : Nat → List Value}
theorem Lst.nil (B : Nat) (w : World) (e sz : Nat) (h : w.ownsRow B e sz v 0 []) : Lst ρ B w e sz v [] E := ⟨h, fun i hi => by simp at hi⟩
theorem Lst.low (h : Lst ρ B w e sz v l E) {q : Nat} (hg : w.grownBy w' (some q)) (hq : q < B) : Lst ρ B w' e sz v l E :=
  ⟨own_low h.own hg hq, fun i hi => by
    obtain ⟨X, Y, h1, h2, h3, h4⟩ := h.each i hi
    exact ⟨X, Y, h1, Nat.le_trans h2 hg.size, h3, ρ.keep h4 hg (fun k hk => by have := Option.some.inj hk; omega)⟩⟩
theorem Lst.ext (h : Lst ρ B w e sz v l E) (hx : Ext w w') : Lst ρ B w' e sz v l E :=
  ⟨own_ext h.own hx, fun i hi => by
    obtain ⟨X, Y, h1, h2, h3, h4⟩ := h.each i hi
    exact ⟨X, Y, h1, Nat.le_trans h2 hx.size, h3, ρ.keep h4 (hx.grownBy none) (fun k hk => by cases hk)⟩⟩
theorem flatMap_if (n : Nat) (E : Nat → List Value) (cs : List Value) : (List.range (n + 1)).flatMap (fun i => if i < n then E i else cs) = (List.range n).flatMap E ++ cs := by
  rw [List.range_succ, List.flatMap_append]
  have h1 : (List.range n).flatMap (fun i => if i < n then E i else cs) = (List.range n).flatMap E := by
    rw [List.flatMap_def, List.flatMap_def]
    congr 1
    exact List.map_congr_left fun i hi => by rw [if_pos (List.mem_range.1 hi)]
  rw [h1]; simp
theorem Lst.push (h : Lst ρ B w e sz v l E) {v' : Value} {x : α} {cs : List Value} {X Y : Nat} (hX : B ≤ X) (hY : Y ≤ w.heap.size) (hv : ∀ k, v.ownBlock = some k → k < X ∨ Y ≤ k) (hs : ρ.sat X Y w x cs)
    (ho : w'.ownsRow B e sz v' (l.length + 1) ((List.range l.length).flatMap E ++ cs)) (hg : w.grownBy w' v.ownBlock) (hm : Moved w v v') : Lst ρ B w' e sz v' (l ++ [x]) (fun i => if i < l.length then E i else cs) := by
  have far : ∀ X Y, Y ≤ w.heap.size → (∀ k, v.ownBlock = some k → k < X ∨ Y ≤ k) → ∀ k, v'.ownBlock = some k → k < X ∨ Y ≤ k := by
    intro X Y hY hv k hk
    rcases hm with hm | hm
    · exact hv k (by rw [← hm]; exact hk)
    · exact .inr (Nat.le_trans hY (hm k hk))
  refine ⟨by rw [List.length_append, List.length_singleton, flatMap_if]; exact ho, fun i hi => ?_⟩
  by_cases h1 : i < l.length
  · obtain ⟨X', Y', g1, g2, g3, g4⟩ := h.each i h1
    refine ⟨X', Y', g1, Nat.le_trans g2 hg.size, far X' Y' g2 g3, ?_⟩
    rw [if_pos h1, List.getElem_append_left h1]
    exact ρ.keep g4 hg g3
  · refine ⟨X, Y, hX, Nat.le_trans hY hg.size, far X Y hY hv, ?_⟩
    rw [if_neg h1]
    have : (l ++ [x])[i] = x := by rw [List.getElem_append_right (by omega)]; simp
    rw [this]
    exact ρ.keep hs hg hv
/-- What is grown beside it. -/
theorem grown_own {W : World} {q : Nat} {n : Nat} {xs : List Value} (h : W.grownBy w (some q)) (ho : w.ownsRow W.heap.size e sz v n xs) (k : w.grownBy w' v.ownBlock) : W.grownBy w' (some q) :=
  ⟨k.os.trans h.os, k.tape.trans h.tape, k.output.trans h.output, Nat.le_trans h.size k.size, fun p hp hne => by
    rw [k.block p (Nat.lt_of_lt_of_le hp h.size) (fun hc => by have := (ho.lt p hc.symm).1; omega)]; exact h.block p hp hne⟩
end
/-- Numbers, as elements. -/
def rgInt : Rdg Int where
  sat := fun _ _ _ x cs => cs = [.int .i64 x]
  keep := fun h _ _ => h
  wide := fun h _ _ => h
/-- Slices of numbers, as elements. -/
def rgInts : Rdg (List Int) where
  sat := fun X Y w l cs => ∃ u, cs = [u] ∧ Ints w u l ∧ InB X Y u
  keep := by
    rintro X Y w w' x cs b ⟨u, rfl, hu, hb⟩ hg hf
    exact ⟨u, rfl, hu.grown hg (fun k hk hc => by have := hb k hk; have := hf k hc.symm; omega), hb⟩
  wide := by
    rintro X Y X' Y' w x cs ⟨u, rfl, hu, hb⟩ h1 h2
    exact ⟨u, rfl, hu, hb.mono h1 h2⟩
theorem Lst.ints {B : Nat} {w : World} {e : Nat} {v : Value} {l : List Int} {E : Nat → List Value} (h : Lst rgInt B w e 1 v l E) : w.ownsRow B e 1 v l.length (l.map (Value.int .i64)) := by
  have : (List.range l.length).flatMap E = l.map (Value.int .i64) := by
    have h1 : (List.range l.length).flatMap E = (List.range l.length).flatMap fun i => [.int .i64 (nth l i)] := by
      rw [List.flatMap_def, List.flatMap_def]
      congr 1
      refine List.map_congr_left fun i hi => ?_
      have hi' := List.mem_range.1 hi
      obtain ⟨X, Y, _, _, _, h4⟩ := h.each i hi'
      rw [nth_eq hi']; exact h4
    rw [h1]
    apply List.ext_getElem?
    intro i
    have h2 : (List.range l.length).flatMap (fun i => [Value.int .i64 (nth l i)]) = (List.range l.length).map fun i => Value.int .i64 (nth l i) := by
      rw [List.flatMap_def]; induction (List.range l.length) <;> simp_all
    rw [h2]
    by_cases hi : i < l.length
    · simp [hi, nth_eq hi]
    · rw [List.getElem?_eq_none (by simp; omega), List.getElem?_eq_none (by simp; omega)]
  rw [← this]; exact h.own
theorem Lst.rws {B : Nat} {w : World} {e : Nat} {v : Value} {l : List (List Int)} {E : Nat → List Value} (h : Lst rgInts B w e 1 v l E) : ∃ R, RwsAt w v l R ∧ ∀ i, i < l.length → InB B w.heap.size (R i) := by
  have hex : ∀ i, ∃ u, i < l.length → E i = [u] ∧ Ints w u (nthL l i) ∧ InB B w.heap.size u := by
    intro i
    by_cases hi : i < l.length
    · obtain ⟨X, Y, h1, h2, _, u, hu, hI, hb⟩ := h.each i hi
      exact ⟨u, fun _ => ⟨hu, by rw [nthL_eq hi]; exact hI, hb.mono h1 h2⟩⟩
    · exact ⟨.bool false, fun hc => absurd hc hi⟩
  refine ⟨fun i => Classical.choose (hex i), ⟨?_, fun i hi => ((Classical.choose_spec (hex i)) hi).2.1⟩, fun i hi => ((Classical.choose_spec (hex i)) hi).2.2⟩
  have h2 : (List.range l.length).flatMap E = (List.range l.length).map fun i => Classical.choose (hex i) := by
    have h1 : (List.range l.length).flatMap E = (List.range l.length).flatMap fun i => [Classical.choose (hex i)] := by
      rw [List.flatMap_def, List.flatMap_def]
      congr 1
      exact List.map_congr_left fun i hi => ((Classical.choose_spec (hex i)) (List.mem_range.1 hi)).1
    rw [h1, List.flatMap_def]; induction (List.range l.length) <;> simp_all
  have := Sl.of_own h.own (by omega)
  rw [h2] at this
  exact this
end Go.Att
namespace Go.Att
theorem own_lower {w : World} {B B' e sz n : Nat} {v : Value} {xs : List Value} (h : w.ownsRow B e sz v n xs) (hb : B' ≤ B) : w.ownsRow B' e sz v n xs := by
  refine ⟨h.1, ?_⟩
  rcases h.2 with h2 | ⟨g, cap, cur, hv, hbg, hr⟩
  · exact .inl h2
  · exact .inr ⟨g, cap, cur, hv, Nat.le_trans hb hbg, hr⟩
theorem own_shape3 {w : World} {B e sz n : Nat} {v : Value} {xs : List Value} (h : w.ownsRow B e sz v n xs) : ∃ ao cap, v = .slice ao n cap := by
  obtain ⟨h1, h2⟩ := h
  rcases h2 with ⟨rfl, rfl⟩ | ⟨g, cap, cur, rfl, _⟩
  · exact ⟨_, _, rfl⟩
  · exact ⟨_, _, rfl⟩
/-- Openings' slices, as elements. -/
def rgOpn : Rdg (List Int × List (List Int) × List (List Int)) where
  sat := fun X Y w o cs => ∃ a b c R S, cs = [a, b, c] ∧ Ints w a o.1 ∧ InB X Y a ∧ RwsAt w b o.2.1 R ∧ InB X Y b ∧ (∀ i, i < o.2.1.length → InB X Y (R i)) ∧ RwsAt w c o.2.2 S ∧ InB X Y c ∧ (∀ i, i < o.2.2.length → InB X Y (S i))
  keep := by
    rintro X Y w w' x cs bb ⟨a, b, c, R, S, rfl, h1, h2, h3, h4, h5, h6, h7, h8⟩ hg hf
    have far : ∀ v, InB X Y v → ∀ k, v.ownBlock = some k → some k ≠ bb := fun v hv k hk hc => by have := hv k hk; have := hf k hc.symm; omega
    exact ⟨a, b, c, R, S, rfl, h1.grown hg (far a h2), h2, ⟨h3.sl.grown hg (far b h4), fun i hi => (h3.row i hi).grown hg (far _ (h5 i hi))⟩, h4, h5, ⟨h6.sl.grown hg (far c h7), fun i hi => (h6.row i hi).grown hg (far _ (h8 i hi))⟩, h7, h8⟩
  wide := by
    rintro X Y X' Y' w x cs ⟨a, b, c, R, S, rfl, h1, h2, h3, h4, h5, h6, h7, h8⟩ g1 g2
    exact ⟨a, b, c, R, S, rfl, h1, h2.mono g1 g2, h3, h4.mono g1 g2, fun i hi => (h5 i hi).mono g1 g2, h6, h7.mono g1 g2, fun i hi => (h8 i hi).mono g1 g2⟩
end Go.Att
