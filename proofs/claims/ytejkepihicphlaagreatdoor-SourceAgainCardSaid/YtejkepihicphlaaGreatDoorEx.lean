/- A region that draws its order, whose first n operations leave all that was as it was (they may make memory of their own) and whose others stand in one order. No program in sight. -/
import Derived.Test.YtejkepihicphlaaGreatDoorQt
import Derived.Test.YtejkepihicphlaaGreatDoorVc
namespace Go.Att
open Go.RowKit
structure SP where
  p : Value → World → Prop
  st : ∀ v W W', p v W → Ext W W' → p v W'
def SP.top : SP := ⟨fun _ _ => True, fun _ _ _ _ _ => trivial⟩
def SP.eq (x : Value) : SP := ⟨fun v _ => v = x, fun _ _ _ h _ => h⟩
def SP.own (B e sz n : Nat) (xs : List Value) : SP := ⟨fun v W => W.ownsRow B e sz v n xs, fun _ _ _ h hx => own_ext h hx⟩
def SP.is (φ : Value → Prop) : SP := ⟨fun v _ => φ v, fun _ _ _ h _ => h⟩
def SP.lit (e : TypeId) (xs : List Value) : SP := ⟨fun v W => ∃ g, v = .slice (some ⟨g, 0, none⟩) xs.length xs.length ∧ W.heap[g]? = some (.cells xs.toArray e (0, 0)), fun v W W' h hx => by
  obtain ⟨g, h1, h2⟩ := h
  exact ⟨g, h1, by rw [hx.below.block g (Array.getElem?_eq_some_iff.1 h2).1]; exact h2⟩⟩
def fillL (D : List Nat) (vs : Nat → Value) : Nat → List Value → List Value
  | _, [] => []
  | d, x :: t => (if D.contains d then vs d else x) :: fillL D vs (d + 1) t
def fillA (D : List Nat) (vs : Nat → Value) (a : Act) : Act := { tmps := (fillL D vs 0 a.tmps.toList).toArray, defers := a.defers }
def upV (vs : Nat → Value) (d : Nat) (v : Value) : Nat → Value := fun i => if i = d then v else vs i
theorem fillL_get (D : List Nat) (vs : Nat → Value) : ∀ (k : Nat) (t : List Value) (i : Nat), (fillL D vs k t)[i]? = t[i]?.map fun x => if D.contains (k + i) then vs (k + i) else x
  | k, [], i => by simp [fillL]
  | k, x :: t, 0 => by simp [fillL]
  | k, x :: t, i + 1 => by
    simp only [fillL, List.getElem?_cons_succ]
    rw [fillL_get D vs (k + 1) t i, show k + 1 + i = k + (i + 1) by omega]
theorem fillA_self (D : List Nat) (a : Act) : fillA D (fun d => a.tmps.getD d undef) a = a := by
  have h : (fillL D (fun d => a.tmps.getD d undef) 0 a.tmps.toList).toArray = a.tmps := by
    apply Array.ext_getElem?
    intro i
    rw [List.getElem?_toArray, fillL_get, Nat.zero_add, Array.getElem?_toList]
    cases h : a.tmps[i]? with
    | none => rfl
    | some x =>
      simp only [Option.map_some]
      split
      · rw [Array.getD_eq_getD_getElem?, h]; rfl
      · rfl
  unfold fillA
  rw [h]
theorem fillA_put (D : List Nat) (vs : Nat → Value) (a : Act) {d : Nat} (hd : D.contains d = true) (v : Value) : (fillA D vs a).put (some d) v = fillA D (upV vs d v) a := by
  have h : (fillL D vs 0 a.tmps.toList).toArray.setIfInBounds d v = (fillL D (upV vs d v) 0 a.tmps.toList).toArray := by
    apply Array.ext_getElem?
    intro i
    rw [Array.getElem?_setIfInBounds, List.getElem?_toArray, List.getElem?_toArray, fillL_get, fillL_get, Nat.zero_add]
    by_cases e : d = i
    · subst e
      rw [if_pos rfl]
      have hs : (fillL D vs 0 a.tmps.toList).toArray.size = (fillL D vs 0 a.tmps.toList).length := rfl
      cases h : a.tmps.toList[d]? with
      | none =>
        have : ¬ d < (fillL D vs 0 a.tmps.toList).toArray.size := fun hlt => by
          rw [hs] at hlt
          have := fillL_get D vs 0 a.tmps.toList d
          rw [h, List.getElem?_eq_getElem hlt] at this
          cases this
        rw [if_neg this]; rfl
      | some x =>
        have : d < (fillL D vs 0 a.tmps.toList).toArray.size := by
          rw [hs]
          apply Classical.byContradiction
          intro hn
          have := fillL_get D vs 0 a.tmps.toList d
          rw [h, List.getElem?_eq_none (by omega)] at this
          cases this
        rw [if_pos this]
        simp [upV]
        intro hc
        rw [List.contains_iff_mem] at hd
        exact absurd hd hc
    · rw [if_neg e]
      unfold upV
      simp only [if_neg (fun h : i = d => e h.symm)]
  show ({ tmps := _, defers := _ } : Act) = _
  unfold fillA
  rw [← h]
def dstN (l : List Oper) (j : Nat) : Nat := ((l[j]?).bind (·.dst)).getD 0
def dstL (l : List Oper) (n : Nat) : List Nat := (l.take n).filterMap (·.dst)
def apartB (l : List Oper) (n : Nat) : Bool := (List.range n).all fun i => match l[i]? with
  | none => false
  | some o => o.guard.isNone && (List.range n).all fun j => i == j || o.dst.isNone || ((l[j]?).bind (·.dst)) != o.dst
def hasDep (l : List Oper) (i j : Nat) : Bool := match l[i]? with
  | none => false
  | some o => o.after.any fun e => Region.binds .any e && e.on == j
def slotV (a : Act) : Option Nat → Value
  | none => undef
  | some d => a.tmps.getD d undef
def ExtStep (P : Program) (l : List Oper) (n : Nat) (φ : List SP) (Q : Exit → Act → World → Prop) (w : World) (a0 : Act) (i : Nat) : Prop :=
  match l[i]? with
  | none => True
  | some o => ∀ (vs : Nat → Value) (W : World), Ext w W → (∀ j, hasDep l i j = true → (φ.getD j SP.top).p (vs (dstN l j)) W) →
      wpList P l.toArray (Exit.then (fun a' W' => a'.defers = a0.defers ∧ Ext W W' ∧ (φ.getD i SP.top).p (slotV a' o.dst) W') Q) [o] (fillA (dstL l n) vs a0) W
theorem ExtStep.mk {P : Program} {l : List Oper} {n : Nat} {φ : List SP} {Q : Exit → Act → World → Prop} {w : World} {a0 : Act} {i : Nat} {o : Oper} (ho : l[i]? = some o)
    (h : ∀ (vs : Nat → Value) (W : World), Ext w W → (∀ j, hasDep l i j = true → (φ.getD j SP.top).p (vs (dstN l j)) W) →
      wpList P l.toArray (Exit.then (fun a' W' => a'.defers = a0.defers ∧ Ext W W' ∧ (φ.getD i SP.top).p (slotV a' o.dst) W') Q) [o] (fillA (dstL l n) vs a0) W) : ExtStep P l n φ Q w a0 i := by
  unfold ExtStep; rw [ho]; exact h
def ExtSteps (P : Program) (l : List Oper) (n : Nat) (φ : List SP) (Q : Exit → Act → World → Prop) (w : World) (a0 : Act) : Nat → Nat → Prop
  | 0, _ => True
  | m + 1, k => ExtStep P l n φ Q w a0 k ∧ ExtSteps P l n φ Q w a0 m (k + 1)
theorem ExtSteps.at {P : Program} {l : List Oper} {n : Nat} {φ : List SP} {Q : Exit → Act → World → Prop} {w : World} {a0 : Act} : ∀ {m k : Nat}, ExtSteps P l n φ Q w a0 m k → ∀ i, k ≤ i → i < k + m → ExtStep P l n φ Q w a0 i
  | 0, k, _, i, h1, h2 => by omega
  | m + 1, k, h, i, h1, h2 => by
    rcases Nat.lt_or_eq_of_le h1 with h3 | rfl
    · exact h.2.at i h3 (by omega)
    · exact h.1
section
variable {P : Program} {l : List Oper} {n : Nat}
theorem wp_put {o : Oper} {a : Act} {W : World} {K : Act → World → Prop} {Q : Exit → Act → World → Prop} (h : o.wp P a W (fun a' W' => a'.defers = a.defers ∧ K a' W') Q) : o.wp P a W (fun a' W' => (∃ v, a' = a.put o.dst v) ∧ K a' W') Q := by
  unfold Oper.wp at *
  generalize (execOp a.eval o).run P W = r at *
  have hdf : ∀ (d : Deferred), ({ a with defers := d :: a.defers }.put o.dst undef).defers ≠ a.defers := fun d h => by
    have : ({ a with defers := d :: a.defers }.put o.dst undef).defers = d :: a.defers := by unfold Act.put; cases o.dst <;> rfl
    rw [this] at h
    have := congrArg List.length h
    simp at this
  cases r with
  | ok x w' =>
    cases x <;> simp only [Oper.upon] at h ⊢ <;>
      first
        | exact ⟨⟨_, rfl⟩, h.2⟩
        | exact absurd h.1 (hdf _)
        | (refine Calls.mono h (fun e w'' he => ?_)
           cases e with
           | returned u => exact ⟨⟨_, rfl⟩, he.2⟩
           | panicked c => exact he
           | outgrown => exact he)
        | exact Rows.mono h (fun _ _ he => ⟨⟨_, rfl⟩, he.2⟩)
  | halt x w' => cases x <;> simp only [Oper.upon] at h ⊢ <;> exact h
theorem wp_unthen {o : Oper} {a : Act} {W : World} {K K' : Act → World → Prop} {Q : Exit → Act → World → Prop} (hK : ∀ a w, K a w → K' a w) (h : o.wp P a W K (Exit.then K' Q)) : o.wp P a W K' Q := by
  unfold Oper.wp at *
  generalize (execOp a.eval o).run P W = r at *
  cases r with
  | ok x w' =>
    cases x <;> simp only [Oper.upon] at h ⊢ <;>
      first
        | exact hK _ _ h
        | (refine Calls.mono h (fun e w'' he => ?_)
           cases e with
           | returned u => exact hK _ _ he
           | panicked c => exact he
           | outgrown => exact he)
        | exact Rows.mono h (fun _ _ he => hK _ _ he)
  | halt x w' => cases x <;> simp only [Oper.upon] at h ⊢ <;> exact h
theorem mem_dstL {j d : Nat} {o : Oper} (hj : j < n) (ho : l[j]? = some o) (hd : o.dst = some d) : (dstL l n).contains d = true := by
  rw [List.contains_iff_mem]
  unfold dstL
  rw [List.mem_filterMap]
  exact ⟨o, List.mem_iff_getElem?.2 ⟨j, by rw [List.getElem?_take, if_pos hj]; exact ho⟩, hd⟩
theorem slot_fill (D : List Nat) (vs : Nat → Value) (a : Act) {d : Nat} (hd : D.contains d = true) (hlt : d < a.tmps.size) : slotV (fillA D vs a) (some d) = vs d := by
  show (fillL D vs 0 a.tmps.toList).toArray.getD d undef = vs d
  rw [Array.getD_eq_getD_getElem?, List.getElem?_toArray, fillL_get, Array.getElem?_toList, Array.getElem?_eq_getElem hlt]
  simp only [Option.map_some, Nat.zero_add, hd, if_true, Option.getD_some]
def DoneE (l : List Oper) (n : Nat) (φ : List SP) (big : Array Bool) (vs : Nat → Value) (W : World) : Prop := ∀ j, j < n → big.getD j false = true → ∀ d, ((l[j]?).bind (·.dst)) = some d → (φ.getD j SP.top).p (vs d) W
theorem ext_all {φ : List SP} {Q' : Exit → Act → World → Prop} {g : Nat} {w : World} {a0 : Act} (hok : headOk l n = true) (hap : apartB l n = true) (hsz : (dstL l n).all (fun d => decide (d < a0.tmps.size)) = true) (hs : waitB l 0 n = true) (hc : Region.chainB .any l.toArray n = true) (hn : n < l.length)
    (hst : ∀ i, i < n → ExtStep P l n φ Q' w a0 i) (hnd : ∀ i, i < n → ∀ j, j < n → hasDep l i j = true → ((l[j]?).bind (·.dst)).isSome = true) (hdl : ∀ i, i < n → ∀ j, hasDep l i j = true → j < n)
    (hL : ∀ big vs W, Ext w W → DoneE l n φ big vs W → HeadInv .any l.toArray n big → (∀ j, j < n → big[j]? = some true) → wpAny P .any l.toArray Q' g big (fillA (dstL l n) vs a0) W) :
    ∀ (f : Nat) (big small : Array Bool) (vs : Nat → Value) (W : World), Ext w W → Marks l n big small → small.toList.count false = f → DoneE l n φ big vs W → wpAny P .any l.toArray Q' (f + g) big (fillA (dstL l n) vs a0) W
  | 0, big, small, vs, W, hx, hm, hcnt, hd => by
    rw [Nat.zero_add]
    refine hL big vs W hx hd hm.inv fun j hj => ?_
    have hjs : j < small.size := by rw [hm.size]; exact hj
    rw [hm.same j hj, Array.getElem?_eq_getElem hjs]
    cases hb : small[j] with
    | true => rfl
    | false =>
      have : false ∈ small.toList := by rw [← hb]; exact Array.mem_toList_iff.2 (Array.getElem_mem hjs)
      have := List.count_pos_iff.2 this
      omega
  | f + 1, big, small, vs, W, hx, hm, hcnt, hd => by
    rw [show f + 1 + g = (f + g) + 1 by omega]
    have hne : ∃ i, i < n ∧ small[i]? = some false := by
      have : false ∈ small.toList := List.count_pos_iff.1 (by omega)
      obtain ⟨i, hi, e⟩ := List.getElem_of_mem this
      exact ⟨i, by simpa [hm.size] using hi, by rw [← Array.getElem?_toList, List.getElem?_eq_getElem hi, e]⟩
    obtain ⟨i0, hi0, hu0⟩ := hne
    refine ⟨fun h0 => absurd h0 (ready_some hok (by omega) hm hi0 hu0), fun i hi => ?_⟩
    have hin : i < n := by
      rcases Nat.lt_or_ge i n with h1 | h1
      · exact h1
      · exact absurd hi (not_yet hs hc hn hm.inv i0 (Nat.zero_le _) hi0 (by rw [hm.same _ hi0, hu0]) i h1)
    obtain ⟨hun0, o, ho0, hall⟩ := mem_ready.1 hi
    have ho : l[i]? = some o := by simpa using ho0
    have hrd := hm.getD hin true
    have his : i < small.size := by rw [hm.size]; exact hin
    have hf : small[i] = false := by
      have := hm.same i hin
      rw [Array.getElem?_eq_getElem his] at this
      rw [Array.getD_eq_getD_getElem?, this] at hun0
      exact hun0
    have hgd : o.guard = none := by
      have := List.all_eq_true.1 hap i (List.mem_range.2 hin)
      simp only [ho, Bool.and_eq_true, Option.isNone_iff_eq_none] at this
      exact this.1
    have hwt : ∀ z, Region.wanted o z = true := fun z => by unfold Region.wanted; rw [hgd]
    have h1 := hst i hin
    unfold ExtStep at h1
    simp only [ho] at h1
    have h2 := h1 vs W hx (fun j hj => by
      have hjn := hdl i hin j hj
      have hsm := hnd i hin j hjn hj
      have hbj : big.getD j false = true := by
        unfold hasDep at hj
        simp only [ho] at hj
        obtain ⟨q, hq, h3⟩ := Array.any_eq_true.1 hj
        simp only [Bool.and_eq_true, beq_iff_eq] at h3
        have := hall o.after[q] (Array.getElem_mem hq) h3.1
        rwa [h3.2] at this
      obtain ⟨d, hdd⟩ := Option.isSome_iff_exists.1 hsm
      have := hd j hjn hbj d hdd
      have e2 : dstN l j = d := by unfold dstN; rw [hdd]; rfl
      rw [e2]; exact this)
    simp only [wpList, hwt, if_true] at h2
    unfold wpOp
    simp only [ho0, hwt, if_true]
    have hcnt' : ∀ (h : i < small.toList.length), (small.setIfInBounds i true).toList.count false = f := fun _ => by
      rw [Array.toList_setIfInBounds, List.count_set (by simpa using his)]
      have : small.toList[i]'(by simpa using his) = false := by rw [Array.getElem_toList]; exact hf
      simp [this, hcnt]
    have hstep : ∀ a' W', ((∃ v, a' = (fillA (dstL l n) vs a0).put o.dst v) ∧ Ext W W' ∧ (φ.getD i SP.top).p (slotV a' o.dst) W') → wpAny P .any l.toArray Q' (f + g) (big.setIfInBounds i true) a' W' := by
      rintro a' W' ⟨⟨v, rfl⟩, hxx, hph⟩
      have hm' := hm.set hi hin
      cases hdst : o.dst with
      | none =>
        have e : (fillA (dstL l n) vs a0).put none v = fillA (dstL l n) vs a0 := rfl
        rw [e]
        refine ext_all hok hap hsz hs hc hn hst hnd hdl hL f _ _ vs W' (hx.trans hxx) hm' (hcnt' (by simpa using his)) fun j hj hb d hd' => ?_
        refine (φ.getD j SP.top).st _ _ _ (hd j hj ?_ d hd') hxx
        by_cases e : i = j
        · subst e; rw [ho] at hd'; simp [hdst] at hd'
        · rw [getD_set_ne false e] at hb; exact hb
      | some d0 =>
        have hin0 := mem_dstL hin ho hdst
        rw [hdst] at hph
        rw [fillA_put _ _ _ hin0] at hph ⊢
        refine ext_all hok hap hsz hs hc hn hst hnd hdl hL f _ _ _ W' (hx.trans hxx) hm' (hcnt' (by simpa using his)) fun j hj hb d hd' => ?_
        by_cases e : i = j
        · subst e
          rw [ho] at hd'
          have : d0 = d := by simpa [hdst] using hd'
          subst this
          have hsl : slotV (fillA (dstL l n) (upV vs d0 v) a0) (some d0) = upV vs d0 v d0 := slot_fill _ _ _ hin0 (by
            have := List.all_eq_true.1 hsz d0 (List.contains_iff_mem.1 hin0)
            simpa using this)
          rw [hsl] at hph
          exact hph
        · rw [getD_set_ne false e] at hb
          have hne2 : d ≠ d0 := fun h => by
            subst h
            have h4 := List.all_eq_true.1 hap i (List.mem_range.2 hin)
            simp only [ho, Bool.and_eq_true] at h4
            have h5 := List.all_eq_true.1 h4.2 j (List.mem_range.2 hj)
            rw [hd', hdst] at h5
            simp [e] at h5
          have : upV vs d0 v d = vs d := by unfold upV; rw [if_neg hne2]
          rw [this]
          exact (φ.getD j SP.top).st _ _ _ (hd j hj hb d hd') hxx
    rcases h2 with h2 | ⟨h2, a9, w9, h3⟩
    · refine .inl (Oper.wp_mono hstep (wp_put ?_))
      exact wp_unthen (fun a' W' h => h) h2
    · exact .inr ⟨h2, a9, w9, h3⟩
def AllE (l : List Oper) (φ : List SP) (vs : Nat → Value) (W : World) : Nat → Prop
  | 0 => True
  | j + 1 => AllE l φ vs W j ∧ ((l[j]?).bind (·.dst) = none ∨ (φ.getD j SP.top).p (vs (dstN l j)) W)
theorem allE_of {φ : List SP} {vs : Nat → Value} {W : World} : ∀ (m : Nat), (∀ j, j < m → ∀ d, ((l[j]?).bind (·.dst)) = some d → (φ.getD j SP.top).p (vs d) W) → AllE l φ vs W m
  | 0, _ => trivial
  | m + 1, h => by
    refine ⟨allE_of m fun j hj => h j (by omega), ?_⟩
    cases hd : (l[m]?).bind (·.dst) with
    | none => exact .inl rfl
    | some d => exact .inr (by have := h m (by omega) d hd; unfold dstN; rw [hd]; exact this)
theorem AllE.at {φ : List SP} {vs : Nat → Value} {W : World} : ∀ {m : Nat}, AllE l φ vs W m → ∀ j, j < m → ((l[j]?).bind (·.dst)).isSome = true → (φ.getD j SP.top).p (vs (dstN l j)) W
  | 0, _, j, hj, _ => by omega
  | m + 1, h, j, hj, hs => by
    rcases Nat.lt_or_eq_of_le (Nat.lt_succ_iff.1 hj) with h1 | rfl
    · exact h.1.at j h1 hs
    · rcases h.2 with h2 | h2
      · rw [h2] at hs; cases hs
      · exact h2
theorem wp_region_ext {id : Nat} {Q : Exit → Act → World → Prop} {a : Act} {w : World} (n : Nat) (φ : List SP) (hm : P.follows .mixedOrders = true)
    (hB : (headOk l n && apartB l n && decide (n < l.length) && waitB l 0 n && Region.chainB .any l.toArray n && Region.seqB .any l.toArray (l.length - n) n (Array.replicate n true ++ Array.replicate (l.length - n) false)
      && (List.range n).all (fun i => (List.range l.length).all fun j => !hasDep l i j || (decide (j < n) && ((l[j]?).bind (·.dst)).isSome))) = true)
    (hsz : (dstL l n).all (fun d => decide (d < a.tmps.size)) = true)
    (hst : ExtSteps P l n φ Q w a n 0)
    (h : ∀ (vs : Nat → Value) (W : World), Ext w W → AllE l φ vs W n → wpList P l.toArray Q (l.drop n) (fillA (dstL l n) vs a) W) : (Code.region id l.toArray true).wp P Q a w := by
  simp only [Bool.and_eq_true, decide_eq_true_eq] at hB
  obtain ⟨⟨⟨⟨⟨⟨hok, hap⟩, hn⟩, hs⟩, hc⟩, hseq⟩, hdp⟩ := hB
  have hdep : ∀ i, i < n → ∀ j, hasDep l i j = true → j < n ∧ ((l[j]?).bind (·.dst)).isSome = true := fun i hi j hj => by
    have h1 := List.all_eq_true.1 hdp i (List.mem_range.2 hi)
    have hjl : j < l.length := by
      have h2 := hj
      unfold hasDep at h2
      have hil : i < l.length := by omega
      rw [List.getElem?_eq_getElem hil] at h2
      simp only at h2
      obtain ⟨q, hq, h3⟩ := Array.any_eq_true.1 h2
      simp only [Bool.and_eq_true, beq_iff_eq] at h3
      have := (headOk_spec hok hi (List.getElem?_eq_getElem hil)).2 _ (Array.getElem_mem hq) h3.1
      omega
    have h2 := List.all_eq_true.1 h1 j (List.mem_range.2 hjl)
    rw [hj] at h2
    simpa using h2
  have inv0 : HeadInv .any l.toArray n (Array.replicate l.toArray.size false) :=
    ⟨by simp, fun j oj _ hl => (by rw [getD_replicate_false] at hl; cases hl), fun t _ ht => getD_in (by simpa using ht) (getD_replicate_false _ _)⟩
  refine wp_region_any hm ?_
  have H := ext_all (P := P) (φ := φ) (Q' := Q) (g := l.length - n) (w := w) (a0 := a) hok hap hsz hs hc hn (fun i hi => hst.at i (Nat.zero_le _) (by omega)) (fun i hi j hj hd => (hdep i hi j hd).2) (fun i hi j hd => (hdep i hi j hd).1) (fun big vs W hx hd hinv hall => by
    have e : big = Array.replicate n true ++ Array.replicate (l.length - n) false := by
      refine Array.ext_getElem? fun j => ?_
      rcases Nat.lt_or_ge j n with hj | hj
      · rw [hall j hj, Array.getElem?_append_left (by simpa using hj)]; simp [hj]
      · rw [Array.getElem?_append_right (by simpa using hj)]
        have hsz := hinv.size
        rcases Nat.lt_or_ge j l.length with hj2 | hj2
        · have := hinv.tail j hj (by simpa using hj2)
          have hjs : j < big.size := by rw [hsz]; simpa using hj2
          rw [Array.getD_eq_getD_getElem?, Array.getElem?_eq_getElem hjs] at this
          rw [Array.getElem?_eq_getElem hjs]
          simp at this
          rw [this, Array.size_replicate, Array.getElem?_replicate, if_pos (by omega)]
        · rw [Array.getElem?_eq_none (by rw [hsz]; simpa using hj2), Array.getElem?_eq_none (by simp; omega)]
    have hall' : AllE l φ vs W n := allE_of n fun j hj d hd' => hd j hj (by rw [Array.getD_eq_getD_getElem?, hall j hj]; rfl) d hd'
    subst e
    have := wpAny_of_seq (md := .any) (P := P) (ops := l.toArray) (Q' := Q) (l.drop n) n _ _ W (fun j => by simp [List.getElem?_drop]) (by rw [List.length_drop]; exact hseq) (h vs W hx hall')
    rwa [List.length_drop] at this) n (Array.replicate l.toArray.size false) (Array.replicate n false) (fun d => a.tmps.getD d undef) { w with drawn := w.drawn + 1 } (Ext.drewN w 1) ⟨inv0, by simp, fun j hj => by
      rw [Array.getElem?_replicate, Array.getElem?_replicate, if_pos hj, if_pos (by simp; omega)]⟩ (by simp) (fun j _ hb => by rw [getD_replicate_false] at hb; cases hb)
  rw [show n + (l.length - n) = l.toArray.size by simp; omega, fillA_self] at H
  exact H
end
end Go.Att
