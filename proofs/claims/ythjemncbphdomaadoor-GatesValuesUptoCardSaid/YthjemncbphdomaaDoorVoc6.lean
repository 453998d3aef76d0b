/- A slice of slices that the call owns, grown one slice at a time. -/
import Derived.Test.YthjemncbphdomaaDoorVoc5
namespace Go.Att
open Go.RowKit
/-- v is owned and holds the slices R 0, R 1, ..; these read as L and lie elsewhere. -/
structure Grid (B : Nat) (w : World) (e : TypeId) (v : Value) (L : List (List Int)) (R : Nat → Value) : Prop where
  own : w.ownsRow B e 1 v L.length ((List.range L.length).map R)
  row : ∀ i, i < L.length → Ints w (R i) (nthL L i)
  lt : ∀ i, i < L.length → ∀ k, (R i).ownBlock = some k → B ≤ k ∧ k < w.heap.size ∧ some k ≠ v.ownBlock
section
variable {B : Nat} {w w' : World} {e : TypeId} {v : Value} {L : List (List Int)} {R : Nat → Value}
theorem Grid.ext (h : Grid B w e v L R) (hx : Ext w w') : Grid B w' e v L R :=
  ⟨own_ext h.own hx, fun i hi => (h.row i hi).ext hx, fun i hi k hk => ⟨(h.lt i hi k hk).1, Nat.lt_of_lt_of_le (h.lt i hi k hk).2.1 hx.size, (h.lt i hi k hk).2.2⟩⟩
theorem Grid.rws (h : Grid B w e v L R) : RwsAt w v L R := ⟨Sl.of_own h.own (by omega), h.row⟩
theorem Grid.nil (B : Nat) (w : World) (e : TypeId) (R : Nat → Value) : Grid B w e (.slice none 0 0) [] R := ⟨World.ownsRow_nil _ _ _ _, fun i hi => by simp at hi, fun i hi => by simp at hi⟩
/-- A slice that came later than v lies elsewhere. -/
theorem later_ne {W : World} {n : Nat} {xs : List Value} (h : W.ownsRow B e 1 v n xs) {u : Value} (hu : NewIn W u) : ∀ k, u.ownBlock = some k → some k ≠ v.ownBlock := fun k hk hc => by
  have := hu k hk
  have := (h.lt k hc.symm).2
  omega
theorem nthL_snoc (L : List (List Int)) (l : List Int) (i : Nat) (h : i < L.length + 1) : nthL (L ++ [l]) i = if i < L.length then nthL L i else l := by
  unfold nthL
  simp only [List.getD_eq_getElem?_getD]
  by_cases h1 : i < L.length
  · rw [List.getElem?_append_left h1, if_pos h1]
  · rw [List.getElem?_append_right (by omega), if_neg h1, show i - L.length = 0 by omega]; rfl
theorem Grid.push (h : Grid B w e v L R) {u v' : Value} {l : List Int} (hu : Ints w u l) (hlt : ∀ k, u.ownBlock = some k → B ≤ k ∧ k < w.heap.size ∧ some k ≠ v.ownBlock)
    (ho : w'.ownsRow B e 1 v' (L.length + 1) ((List.range L.length).map R ++ [u])) (hg : w.grownBy w' v.ownBlock) (hm : Moved w v v') : Grid B w' e v' (L ++ [l]) (fun i => if i < L.length then R i else u) := by
  have hr : (List.range (L ++ [l]).length).map (fun i => if i < L.length then R i else u) = (List.range L.length).map R ++ [u] := by
    rw [List.length_append, List.length_singleton, List.range_succ, List.map_append]
    congr 1
    · exact List.map_congr_left fun i hi => by rw [if_pos (List.mem_range.1 hi)]
    · simp
  have far : ∀ x : Value, (∀ k, x.ownBlock = some k → B ≤ k ∧ k < w.heap.size ∧ some k ≠ v.ownBlock) → ∀ k, x.ownBlock = some k → B ≤ k ∧ k < w'.heap.size ∧ some k ≠ v'.ownBlock := by
    intro x hx k hk
    obtain ⟨h0, h1, h2⟩ := hx k hk
    refine ⟨h0, Nat.lt_of_lt_of_le h1 hg.size, fun hc => ?_⟩
    rcases hm with hm | hm
    · exact h2 (by rw [← hm]; exact hc)
    · have := hm k hc.symm; omega
  refine ⟨?_, fun i hi => ?_, fun i hi => ?_⟩
  · rw [hr, List.length_append, List.length_singleton]; exact ho
  · simp at hi
    rw [nthL_snoc _ _ _ hi]
    by_cases h1 : i < L.length
    · rw [if_pos h1, if_pos h1]
      exact (h.row i h1).grown hg fun k hk => (h.lt i h1 k hk).2.2
    · rw [if_neg h1, if_neg h1]
      exact hu.grown hg fun k hk => (hlt k hk).2.2
  · simp at hi
    by_cases h1 : i < L.length
    · simp only [if_pos h1]; exact far _ (h.lt i h1)
    · simp only [if_neg h1]; exact far _ hlt
/-- A slice within is put in another's place that reads the same. -/
theorem Grid.set (h : Grid B w e v L R) {i : Nat} (hi : i < L.length) {u : Value} (hu : Ints w u (nthL L i)) (hlt : ∀ k, u.ownBlock = some k → B ≤ k ∧ k < w.heap.size ∧ some k ≠ v.ownBlock)
    (ho : w'.ownsRow B e 1 v L.length (((List.range L.length).map R).take (i * 1) ++ [u] ++ ((List.range L.length).map R).drop (i * 1 + 1))) (hg : w.grownBy w' v.ownBlock) : Grid B w' e v L (fun j => if j = i then u else R j) := by
  have hr : (List.range L.length).map (fun j => if j = i then u else R j) = ((List.range L.length).map R).take (i * 1) ++ [u] ++ ((List.range L.length).map R).drop (i * 1 + 1) := by
    apply List.ext_getElem?
    intro j
    rw [Nat.mul_one]
    by_cases hj : j < L.length
    · by_cases h1 : j < i
      · rw [List.append_assoc, List.getElem?_append_left (by simp; omega), List.getElem?_take, if_pos h1]
        simp [hj, show ¬ j = i by omega]
      · by_cases h2 : j = i
        · subst h2
          rw [List.append_assoc, List.getElem?_append_right (by simp; omega)]
          simp [hj, show min j L.length = j by omega]
        · rw [List.getElem?_append_right (by simp; omega)]
          simp only [List.length_append, List.length_take, List.length_map, List.length_range, List.length_singleton, List.getElem?_drop]
          rw [show i + 1 + (j - (min i L.length + 1)) = j by omega]
          simp [hj, h2]
    · rw [List.getElem?_eq_none (by simpa using hj), List.getElem?_eq_none (by simp; omega)]
  have far : ∀ x : Value, (∀ k, x.ownBlock = some k → B ≤ k ∧ k < w.heap.size ∧ some k ≠ v.ownBlock) → ∀ k, x.ownBlock = some k → B ≤ k ∧ k < w'.heap.size ∧ some k ≠ v.ownBlock := fun x hx k hk => ⟨(hx k hk).1, Nat.lt_of_lt_of_le (hx k hk).2.1 hg.size, (hx k hk).2.2⟩
  refine ⟨by rw [hr]; exact ho, fun j hj => ?_, fun j hj => ?_⟩
  · by_cases h2 : j = i
    · subst h2; rw [if_pos rfl]; exact hu.grown hg fun k hk => (hlt k hk).2.2
    · rw [if_neg h2]; exact (h.row j hj).grown hg fun k hk => (h.lt j hj k hk).2.2
  · by_cases h2 : j = i
    · subst h2; simp only [if_true]; exact far _ hlt
    · simp only [if_neg h2]; exact far _ (h.lt j hj)
/-- A change to older memory leaves it as it was. -/
theorem Grid.low (h : Grid B w e v L R) {b : Nat} (hg : w.grownBy w' (some b)) (hb : b < B) : Grid B w' e v L R := by
  refine ⟨?_, fun i hi => (h.row i hi).grown hg fun k hk hc => ?_, fun i hi k hk => ⟨(h.lt i hi k hk).1, Nat.lt_of_lt_of_le (h.lt i hi k hk).2.1 hg.size, (h.lt i hi k hk).2.2⟩⟩
  · refine ⟨h.own.1, ?_⟩
    rcases h.own.2 with h2 | ⟨g, cap, cur, hv, hbg, hgg, hr⟩
    · exact .inl h2
    · exact .inr ⟨g, cap, cur, hv, hbg, by rw [hg.block g (Array.getElem?_eq_some_iff.1 hgg).1 (fun e => by have := Option.some.inj e; omega)]; exact hgg, hr⟩
  · have := (h.lt i hi k hk).1
    have := Option.some.inj hc
    omega
end
theorem own_low {w w' : World} {B e sz n : Nat} {v : Value} {xs : List Value} (h : w.ownsRow B e sz v n xs) {b : Nat} (hg : w.grownBy w' (some b)) (hb : b < B) : w'.ownsRow B e sz v n xs := by
  refine ⟨h.1, ?_⟩
  rcases h.2 with h2 | ⟨g, cap, cur, hv, hbg, hgg, hr⟩
  · exact .inl h2
  · exact .inr ⟨g, cap, cur, hv, hbg, by rw [hg.block g (Array.getElem?_eq_some_iff.1 hgg).1 (fun e => by have := Option.some.inj e; omega)]; exact hgg, hr⟩
theorem setCell_grown (w : World) (b o : Nat) (x : Value) : w.grownBy (w.setCell ⟨b, o, none⟩ x) (some b) :=
  ⟨rfl, rfl, rfl, by simp [World.setCell], fun k hk hne => by
    have : b ≠ k := fun e => hne (by rw [e])
    simp [World.setCell, Array.getElem?_modify, this]⟩
end Go.Att
