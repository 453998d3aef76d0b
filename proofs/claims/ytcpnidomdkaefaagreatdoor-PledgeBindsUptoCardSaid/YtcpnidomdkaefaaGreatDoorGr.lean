/- Words for worlds: rows of the call's own that grow, within a slice of the call's own. No program in sight. -/
import Derived.Test.YtcpnidomdkaefaaGreatDoorVc
import Derived.Deep.RegionLaw
namespace Go.Att
open Go.RowKit
/-- Two rows of the call's own of other elements' types lie apart. -/
theorem row_apart {w : World} {B B' e e' sz sz' n n' : Nat} {v v' : Value} {xs xs' : List Value} (h : w.ownsRow B e sz v n xs) (h' : w.ownsRow B' e' sz' v' n' xs') (hne : e ≠ e') : ∀ k, v.ownBlock = some k → v'.ownBlock ≠ some k := by
  intro k hk hk'
  rcases h.2 with ⟨rfl, _⟩ | ⟨g, cap, cur, rfl, _, hg, _⟩
  · cases hk
  · rcases h'.2 with ⟨rfl, _⟩ | ⟨g', cap', cur', rfl, _, hg', _⟩
    · cases hk'
    · obtain rfl : g = k := Option.some.inj hk
      obtain rfl : g' = g := Option.some.inj hk'
      rw [hg] at hg'
      simp at hg'
      exact hne hg'.2
theorem row_grown {w w' : World} {B e sz n : Nat} {v : Value} {xs : List Value} (h : w.ownsRow B e sz v n xs) {b : Option Nat} (hg : w.grownBy w' b) (hb : ∀ k, v.ownBlock = some k → some k ≠ b) : w'.ownsRow B e sz v n xs := by
  refine ⟨h.1, ?_⟩
  rcases h.2 with h2 | ⟨g, cap, cur, hv, hbg, hgg, hr⟩
  · exact .inl h2
  · exact .inr ⟨g, cap, cur, hv, hbg, by rw [hg.block g (Array.getElem?_eq_some_iff.1 hgg).1 (hb g (by rw [hv]; rfl))]; exact hgg, hr⟩
def updN {α : Type} (f : Nat → α) (i : Nat) (x : α) : Nat → α := fun j => if j = i then x else f j
theorem updN_same {α : Type} (f : Nat → α) (i : Nat) (x : α) : updN f i x i = x := if_pos rfl
theorem updN_other {α : Type} (f : Nat → α) (x : α) {i j : Nat} (h : j ≠ i) : updN f i x j = f j := if_neg h
theorem range_set {n i : Nat} (R : Nat → Value) (u : Value) (hi : i < n) : ((List.range n).map R).take (i * 1) ++ [u] ++ ((List.range n).map R).drop (i * 1 + 1) = (List.range n).map (updN R i u) := by
  apply List.ext_getElem?
  intro j
  rw [Nat.mul_one]
  by_cases hj : j < n
  · by_cases h1 : j < i
    · rw [List.append_assoc, List.getElem?_append_left (by simp; omega), List.getElem?_take, if_pos h1]
      simp [hj, updN, show ¬ j = i by omega]
    · by_cases h2 : j = i
      · subst h2
        rw [List.append_assoc, List.getElem?_append_right (by simp; omega)]
        simp [hj, updN, show min j n = j by omega]
      · rw [List.getElem?_append_right (by simp; omega)]
        simp only [List.length_append, List.length_take, List.length_map, List.length_range, List.length_singleton, List.getElem?_drop]
        rw [show i + 1 + (j - (min i n + 1)) = j by omega]
        simp [hj, updN, h2]
  · rw [List.getElem?_eq_none (by simp; omega), List.getElem?_eq_none (by simp; omega)]
/-- Rows of the call's own within a slice of the call's own, each in a block of its own. -/
structure GrowAt (B : Nat) (w : World) (eR e : TypeId) (v : Value) (n : Nat) (R : Nat → Value) (L : Nat → List Int) : Prop where
  own : w.ownsRow B eR 1 v n ((List.range n).map R)
  row : ∀ i, i < n → w.ownsRow B e 1 (R i) (L i).length ((L i).map (Value.int .i64))
  nd : ∀ i j, i < n → j < n → i ≠ j → ∀ k, (R i).ownBlock = some k → (R j).ownBlock ≠ some k
  ne : eR ≠ e
section
variable {B : Nat} {w w1 w2 : World} {eR e : TypeId} {v : Value} {n : Nat} {R : Nat → Value} {L : Nat → List Int}
theorem GrowAt.ext (h : GrowAt B w eR e v n R L) (hx : Ext w w1) : GrowAt B w1 eR e v n R L := ⟨own_ext h.own hx, fun i hi => own_ext (h.row i hi) hx, h.nd, h.ne⟩
theorem GrowAt.congr {L' : Nat → List Int} (h : GrowAt B w eR e v n R L) (he : ∀ i, i < n → L i = L' i) : GrowAt B w eR e v n R L' := ⟨h.own, fun i hi => by rw [← he i hi]; exact h.row i hi, h.nd, h.ne⟩
theorem GrowAt.made (ho : w.ownsRow B eR 1 v n (madeCells (Value.slice none 0 0).cells (n * 1)).toList) (hne : eR ≠ e) : GrowAt B w eR e v n (fun _ => .slice none 0 0) (fun _ => []) := by
  refine ⟨?_, fun i _ => World.ownsRow_nil _ _ _ _, fun i j _ _ _ k hk => (by cases hk), hne⟩
  have e1 : (madeCells (Value.slice none 0 0).cells (n * 1)).toList = (List.range n).map fun _ => Value.slice none 0 0 := by
    simp [madeCells, Value.cells, Nat.mod_one, List.map_const']
  rw [← e1]; exact ho
theorem GrowAt.cell (h : GrowAt B w eR e v n R L) {i : Nat} (hi : i < n) : w.cell? (elt v i 1) = some (R i) := by
  have := Sl.cell (Sl.of_own h.own (by omega)) i 0 hi (by omega)
  simp only [Addr.add, if_true, Nat.add_zero, Nat.mul_one] at this
  rw [this]; simp [hi]
theorem GrowAt.mid (h : GrowAt B w eR e v n R L) {i : Nat} (hi : i < n) (hg : w.grownBy w1 (R i).ownBlock) : w1.ownsRow B eR 1 v n ((List.range n).map R) :=
  row_grown h.own hg fun k hk hc => row_apart h.own (h.row i hi) h.ne k hk hc.symm
/-- One row has grown by a number, and lies in its place again. -/
theorem GrowAt.put (h : GrowAt B w eR e v n R L) {i : Nat} (hi : i < n) {v' : Value} {x : Int} (ho : w1.ownsRow B e 1 v' ((L i).length + 1) ((L i).map (Value.int .i64) ++ [.int .i64 x])) (hg : w.grownBy w1 (R i).ownBlock) (hm : Moved w (R i) v')
    (hs : w2.ownsRow B eR 1 v n (((List.range n).map R).take (i * 1) ++ [v'] ++ ((List.range n).map R).drop (i * 1 + 1))) (hg2 : w1.grownBy w2 v.ownBlock) : GrowAt B w2 eR e v n (updN R i v') (updN L i (L i ++ [x])) := by
  have hmid := h.mid hi hg
  have far : ∀ j, j < n → j ≠ i → ∀ k, (R j).ownBlock = some k → v'.ownBlock ≠ some k := by
    intro j hj hne k hk hc
    rcases hm with hm | hm
    · exact h.nd j i hj hi hne k hk (by rw [← hm]; exact hc)
    · have := hm k hc
      have := ((h.row j hj).lt k hk).2
      omega
  refine ⟨by rw [← range_set R v' hi]; exact hs, fun j hj => ?_, fun j1 j2 h1 h2 hne k hk => ?_, h.ne⟩
  · by_cases hji : j = i
    · subst hji
      rw [updN_same, updN_same, List.length_append, List.length_singleton, List.map_append]
      exact row_grown ho hg2 fun k hk hc => row_apart ho hmid (fun e1 => h.ne e1.symm) k hk hc.symm
    · rw [updN_other _ _ hji, updN_other _ _ hji]
      have h1 : w1.ownsRow B e 1 (R j) (L j).length ((L j).map (Value.int .i64)) := row_grown (h.row j hj) hg fun k hk hc => h.nd j i hj hi hji k hk hc.symm
      exact row_grown h1 hg2 fun k hk hc => row_apart h1 hmid (fun e1 => h.ne e1.symm) k hk hc.symm
  · by_cases e1 : j1 = i
    · subst e1
      rw [updN_same] at hk
      rw [updN_other _ _ (fun e2 => hne e2.symm)]
      exact fun hc => far j2 h2 (fun e2 => hne e2.symm) k hc hk
    · rw [updN_other _ _ e1] at hk
      by_cases e2 : j2 = i
      · subst e2
        rw [updN_same]
        exact far j1 h1 e1 k hk
      · rw [updN_other _ _ e2]
        exact h.nd j1 j2 h1 h2 hne k hk
end
section
variable {P : Program} {ops : Array Oper} {o : Oper} {a : Act} {Q : Exit → Act → World → Prop}
end
/-- Q, but no panic. -/
def Calm (Q : Exit → Act → World → Prop) : Exit → Act → World → Prop
  | .panic _, a, _ => a.defers = [] ∧ False
  | e, a, w => Q e a w
theorem Calm.normal {Q : Exit → Act → World → Prop} {a : Act} {w : World} (h : Q .normal a w) : Calm Q .normal a w := h
end Go.Att
