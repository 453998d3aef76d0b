/- A region that draws its order, whose first n operations leave all that was as it was (they may make memory of their own) and whose others stand in one order. No program in sight. -/
import Derived.Test.YtgnomhbbbcfehaaGreatDoorQt
import Derived.Test.YtgnomhbbbcfehaaGreatDoorVc
namespace Go.Att
open Go.RowKit
structure SP where
  p : Value → World → Prop
  st : ∀ v W W', p v W → Ext W W' → p v W'
def SP.top : SP := ⟨fun _ _ => True, fun _ _ _ _ _ => trivial⟩
def SP.eq (x : Value) : SP := ⟨fun v _ => v = x, fun _ _ _ h _ => h⟩
def SP.own (B e sz n : Nat) (xs : List Value) : SP := ⟨fun v W => W.ownsRow B e sz v n xs, fun _ _ _ h hx => own_ext h hx⟩
def SP.is (φ : Value → Prop) : SP := ⟨fun v _ => φ v, fun _ _ _ h _ => h⟩
def SP.lit (e : TypeId) (xs : List Value) : SP := ⟨fun v W => ∃ g, v = .slice (some ⟨g, 0, none⟩) xs.length xs.length ∧ W.heap[g]? = some (.cells xs.toArray e (0, 0)), fun v W W' h hx => by
  obtain ⟨g, h1, h2⟩ := h
  exact ⟨g, h1, by rw [hx.below.block g (Array.getElem?_eq_some_iff.1 h2).1]; exact h2⟩⟩
def fillL (D : List Nat) (vs : Nat → Value) : Nat → List Value → List Value
  | _, [] => []
  | d, x :: t => (if D.contains d then vs d else x) :: fillL D vs (d + 1) t
def fillA (D : List Nat) (vs : Nat → Value) (a : Act) : Act := { tmps := (fillL D vs 0 a.tmps.toList).toArray, defers := a.defers }
def upV (vs : Nat → Value) (d : Nat) (v : Value) : Nat → Value := fun i => if i = d then v else vs i
theorem fillL_get (D : List Nat) (vs : Nat → Value) : ∀ (k : Nat) (t : List Value) (i : Nat), (fillL D vs k t)[i]? = t[i]?.map fun x => if D.contains (k + i) then vs (k + i) else x
  | k, [], i => by simp [fillL]
  | k, x :: t, 0 => by simp [fillL]
  | k, x :: t, i + 1 => by
    simp only [fillL, List.getElem?_cons_succ]
    rw [fillL_get D vs (k + 1) t i, show k + 1 + i = k + (i + 1) by omega]
theorem fillA_self (D : List Nat) (a : Act) : fillA D (fun d => a.tmps.getD d undef) a = a := by
  have h : (fillL D (fun d => a.tmps.getD d undef) 0 a.tmps.toList).toArray = a.tmps := by
    apply Array.ext_getElem?
    intro i
    rw [List.getElem?_toArray, fillL_get, Nat.zero_add, Array.getElem?_toList]
    cases h : a.tmps[i]? with
    | none => rfl
    | some x =>
      simp only [Option.map_some]
      split
      · rw [Array.getD_eq_getD_getElem?, h]; rfl
      · rfl
  unfold fillA
  rw [h]
theorem fillA_put (D : List Nat) (vs : Nat → Value) (a : Act) {d : Nat} (hd : D.contains d = true) (v : Value) : (fillA D vs a).put (some d) v = fillA D (upV vs d v) a := by
  have h : (fillL D vs 0 a.tmps.toList).toArray.setIfInBounds d v = (fillL D (upV vs d v) 0 a.tmps.toList).toArray := by
    apply Array.ext_getElem?
    intro i
    rw [Array.getElem?_setIfInBounds, List.getElem?_toArray, List.getElem?_toArray, fillL_get, fillL_get, Nat.zero_add]
    by_cases e : d = i
    · subst e
      rw [if_pos rfl]
      have hs : (fillL D vs 0 a.tmps.toList).toArray.size = (fillL D vs 0 a.tmps.toList).length := rfl
      cases h : a.tmps.toList[d]? with
      | none =>
        have : ¬ d < (fillL D vs 0 a.tmps.toList).toArray.size := fun hlt => by
          rw [hs] at hlt
          have := fillL_get D vs 0 a.tmps.toList d
          rw [h, List.getElem?_eq_getElem hlt] at this
          cases this
        rw [if_neg this]; rfl
      | some x =>
        have : d < (fillL D vs 0 a.tmps.toList).toArray.size := by
          rw [hs]
          apply Classical.byContradiction
          intro hn
          have := fillL_get D vs 0 a.tmps.toList d
          rw [h, List.getElem?_eq_none (by omega)] at this
          cases this
        rw [if_pos this]
        simp [upV]
        intro hc
        rw [List.contains_iff_mem] at hd
        exact absurd hd hc
    · rw [if_neg e]
      unfold upV
      simp only [if_neg (fun h : i = d => e h.symm)]
  show ({ tmps := _, defers := _ } : Act) = _
  unfold fillA
  rw [← h]
def dstN (l : List Oper) (j : Nat) : Nat := ((l[j]?).bind (·.dst)).getD 0
def dstL (l : List Oper) (n : Nat) : List Nat := (l.take n).filterMap (·.dst)
def apartB (l : List Oper) (n : Nat) : Bool := (List.range n).all fun i => match l[i]? with
  | none => false
  | some o => o.guard.isNone && (List.range n).all fun j => i == j || o.dst.isNone || ((l[j]?).bind (·.dst)) != o.dst
def hasDep (l : List Oper) (i j : Nat) : Bool := match l[i]? with
  | none => false
  | some o => o.after.any fun e => Region.binds .any e && e.on == j
def slotV (a : Act) : Option Nat → Value
  | none => undef
  | some d => a.tmps.getD d undef
def ExtStep (P : Program) (l : List Oper) (n : Nat) (φ : List SP) (Q : Exit → Act → World → Prop) (w : World) (a0 : Act) (i : Nat) : Prop :=
  match l[i]? with
  | none => True
  | some o => ∀ (vs : Nat → Value) (W : World), Ext w W → (∀ j, hasDep l i j = true → (φ.getD j SP.top).p (vs (dstN l j)) W) →
      wpList P l.toArray (Exit.then (fun a' W' => a'.defers = a0.defers ∧ Ext W W' ∧ (φ.getD i SP.top).p (slotV a' o.dst) W') Q) [o] (fillA (dstL l n) vs a0) W
theorem ExtStep.mk {P : Program} {l : List Oper} {n : Nat} {φ : List SP} {Q : Exit → Act → World → Prop} {w : World} {a0 : Act} {i : Nat} {o : Oper} (ho : l[i]? = some o)
    (h : ∀ (vs : Nat → Value) (W : World), Ext w W → (∀ j, hasDep l i j = true → (φ.getD j SP.top).p (vs (dstN l j)) W) →
      wpList P l.toArray (Exit.then (fun a' W' => a'.defers = a0.defers ∧ Ext W W' ∧ (φ.getD i SP.top).p (slotV a' o.dst) W') Q) [o] (fillA (dstL l n) vs a0) W) : ExtStep P l n φ Q w a0 i := by
  unfold ExtStep; rw [ho]; exact h
def ExtSteps (P : Program) (l : List Oper) (n : Nat) (φ : List SP) (Q : Exit → Act → World → Prop) (w : World) (a0 : Act) : Nat → Nat → Prop
  | 0, _ => True
  | m + 1, k => ExtStep P l n φ Q w a0 k ∧ ExtSteps P l n φ Q w a0 m (k + 1)
theorem ExtSteps.at {P : Program} {l : List Oper} {n : Nat} {φ : List SP} {Q : Exit → Act → World → Prop} {w : World} {a0 : Act} : ∀ {m k : Nat}, ExtSteps P l n φ Q w a0 m k → ∀ i, k ≤ i → i < k + m → ExtStep P l n φ Q w a0 i
  | 0, k, _, i, h1, h2 => by omega
  | m + 1, k, h, i, h1, h2 => by
    rcases Nat.lt_or_eq_of_le h1 with h3 | rfl
    · exact h.2.at i h3 (by omega)
    · exact h.1
section
variable {P : Program} {l : List Oper} {n : Nat}
theorem wp_put {o : Oper} {a : Act} {W : World} {K : Act → World → Prop} {Q : Exit → Act → World → Prop} (h : o.wp P a W (fun a' W' => a'.defers = a.defers ∧ K a' W') Q) : o.wp P a W (fun a' W' => (∃ v, a' = a.put o.dst v) ∧ K a' W') Q := by
  unfold Oper.wp at *
  generalize (execOp a.eval o).run P W = r at *
  have hdf : ∀ (d : Deferred), ({ a with defers := d :: a.defers }.put o.dst undef).defers ≠ a.defers := fun d h => by
    have : ({ a with defers := d :: a.defers }.put o.dst undef).defers = d :: a.defers := by unfold Act.put; cases o.dst <;> rfl
    rw [this] at h
    have := congrArg List.length h
    simp at this
  cases r with
  | ok x w' =>
    cases x <;> simp only [Oper.upon] at h ⊢ <;>
      first
        | exact ⟨⟨_, rfl⟩, h.2⟩
        | exact absurd h.1 (hdf _)
        | (refine Calls.mono h (fun e w'' he => ?_)
           cases e with
           | returned u => exact ⟨⟨_, rfl⟩, he.2⟩
           | panicked c => exact he
           | outgrown => exact he)
        | exact Rows.mono h (fun _ _ he => ⟨⟨_, rfl⟩, he.2⟩)
  | halt x w' => cases x <;> simp only [Oper.upon] at h ⊢ <;> exact h
theorem wp_unthen {o : Oper} {a : Act} {W : World} {K K' : Act → World → Prop} {Q : Exit → Act → World → Prop} (hK : ∀ a w, K a w → K' a w) (h : o.wp P a W K (Exit.then K' Q)) : o.wp P a W K' Q := by
  unfold Oper.wp at *
  generalize (execOp a.eval o).run P W = r at *
  cases r with
  | ok x w' =>
    cases x <;> simp only [Oper.upon] at h ⊢ <;>
      first
        | exact hK _ _ h
        | (refine Calls.mono h (fun e w'' he => ?_)
           cases e with
           | returned u => exact hK _ _ he
           | panicked c => exact he
           | outgrown => exact he)
        | exact Rows.mono h (fun _ _ he => hK _ _ he)
  | halt x w' => cases x <;> simp only [Oper.upon] at h ⊢ <;> exact h
theorem mem_dstL {j d : Nat} {o : Oper} (hj : j < n) (ho : l[j]? = some o) (hd : o.dst = some d) : (dstL l n).contains d = true := by
  rw [List.contains_iff_mem]
  unfold dstL
  rw [List.mem_filterMap]
  exact ⟨o, List.mem_iff_getElem?.2 ⟨j, by rw [List.getElem?_take, if_pos hj]; exact ho⟩, hd⟩
theorem slot_fill (D : List Nat) (vs : Nat → Value) (a : Act) {d : Nat} (hd : D.contains d = true) (hlt : d < a.tmps.size) : slotV (fillA D vs a) (some d) = vs d := by
  show (fillL D vs 0 a.tmps.toList).toArray.getD d undef = vs d
  rw [Array.getD_eq_getD_getElem?, List.getElem?_toArray, fillL_get, Array.getElem?_toList, Array.getElem?_eq_getElem hlt]
  simp only [Option.map_some, Nat.zero_add, hd, if_true, Option.getD_some]
def AllE (l : List Oper) (φ : List SP) (vs : Nat → Value) (W : World) : Nat → Prop
  | 0 => True
  | j + 1 => AllE l φ vs W j ∧ ((l[j]?).bind (·.dst) = none ∨ (φ.getD j SP.top).p (vs (dstN l j)) W)
theorem AllE.at {φ : List SP} {vs : Nat → Value} {W : World} : ∀ {m : Nat}, AllE l φ vs W m → ∀ j, j < m → ((l[j]?).bind (·.dst)).isSome = true → (φ.getD j SP.top).p (vs (dstN l j)) W
  | 0, _, j, hj, _ => by omega
  | m + 1, h, j, hj, hs => by
    rcases Nat.lt_or_eq_of_le (Nat.lt_succ_iff.1 hj) with h1 | rfl
    · exact h.1.at j h1 hs
    · rcases h.2 with h2 | h2
      · rw [h2] at hs; cases hs
      · exact h2
end
end Go.Att
