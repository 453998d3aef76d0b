/- A region that draws its order, by what is said of each set of operations that are done. No program in sight. -/
import Derived.Test.YtgnomhbbbcfehaaGreatDoorEy
namespace Go.Att
open Go.RowKit
def updB (s : Nat → Bool) (i : Nat) : Nat → Bool := fun j => if j = i then true else s j
def updD (vs : Nat → Value) (d : Option Nat) (v : Value) : Nat → Value := match d with
  | none => vs
  | some d => upV vs d v
def StStep (P : Program) (l : List Oper) (I : (Nat → Bool) → (Nat → Value) → World → Prop) (Q : Exit → Act → World → Prop) (a0 : Act) (i : Nat) : Prop :=
  match l[i]? with
  | none => True
  | some o => ∀ (s : Nat → Bool) (vs : Nat → Value) (W : World), s i = false → (∀ j, hasDep l i j = true → s j = true) → I s vs W →
      wpList P l.toArray (Exit.then (fun a' W' => a'.defers = a0.defers ∧ I (updB s i) (updD vs o.dst (slotV a' o.dst)) W') Q) [o] (fillA (dstL l l.length) vs a0) W
theorem wp_rethen {P : Program} {o : Oper} {a : Act} {W : World} {K K' : Act → World → Prop} {Q : Exit → Act → World → Prop} (hK : ∀ a w, K a w → K' a w) (h : o.wp P a W K (Exit.then K Q)) : o.wp P a W K' (Exit.then K' Q) := by
  unfold Oper.wp at *
  generalize (execOp a.eval o).run P W = r at *
  cases r with
  | ok x w' =>
    cases x <;> simp only [Oper.upon] at h ⊢ <;>
      first
        | exact hK _ _ h
        | (refine Calls.mono h (fun e w'' he => ?_)
           cases e with
           | returned u => exact hK _ _ he
           | panicked c => exact he
           | outgrown => exact he)
        | exact Rows.mono h (fun _ _ he => hK _ _ he)
  | halt x w' => cases x <;> simp only [Oper.upon] at h ⊢ <;> exact h
theorem wpList_mono' {P : Program} {ops : Array Oper} {o : Oper} {a : Act} {W : World} {K K' : Act → World → Prop} {Q : Exit → Act → World → Prop} (hK : ∀ a w, K a w → K' a w) (h : wpList P ops (Exit.then K Q) [o] a W) : wpList P ops (Exit.then K' Q) [o] a W := by
  simp only [wpList] at h ⊢
  by_cases hw : Region.wanted o (yielded ops a.tmps) = true
  · rw [if_pos hw] at h ⊢
    rcases h with h | ⟨h1, a9, w9, h2⟩
    · exact .inl (wp_rethen hK h)
    · exact .inr ⟨h1, a9, w9, h2⟩
  · rw [if_neg hw] at h ⊢
    exact hK _ _ h
section
variable {P : Program} {l : List Oper}
theorem getD_setB {big : Array Bool} {i : Nat} (h : i < big.size) : (fun j => (big.setIfInBounds i true).getD j false) = updB (fun j => big.getD j false) i := by
  funext j
  unfold updB
  by_cases e : j = i
  · subst e; rw [if_pos rfl]; simp [h]
  · rw [if_neg e, getD_set_ne false (fun h => e h.symm)]
theorem st_all {I : (Nat → Bool) → (Nat → Value) → World → Prop} {Q' : Exit → Act → World → Prop} {a0 : Act} (hok : headOk l l.length = true) (hap : apartB l l.length = true) (hsz : (dstL l l.length).all (fun d => decide (d < a0.tmps.size)) = true)
    (hst : ∀ i, i < l.length → StStep P l I Q' a0 i)
    (hend : ∀ s vs W, (∀ j, j < l.length → s j = true) → I s vs W → Q' .normal (fillA (dstL l l.length) vs a0) W) :
    ∀ (f : Nat) (big small : Array Bool) (vs : Nat → Value) (W : World), Marks l l.length big small → small.toList.count false = f → I (fun j => big.getD j false) vs W → wpAny P .any l.toArray Q' f big (fillA (dstL l l.length) vs a0) W
  | 0, big, small, vs, W, hm, hcnt, hI => by
    have hall : ∀ j, j < l.length → big.getD j false = true := fun j hj => by
      have hjs : j < small.size := by rw [hm.size]; exact hj
      rw [hm.getD hj, Array.getD_eq_getD_getElem?, Array.getElem?_eq_getElem hjs]
      cases hb : small[j] with
      | true => rfl
      | false =>
        have : false ∈ small.toList := by rw [← hb]; exact Array.mem_toList_iff.2 (Array.getElem_mem hjs)
        have := List.count_pos_iff.2 this
        omega
    refine ⟨?_, hend _ vs W hall hI⟩
    apply List.eq_nil_iff_forall_not_mem.2
    intro i hi
    obtain ⟨h1, o, ho, -⟩ := mem_ready.1 hi
    have hin : i < l.length := by
      have := (Array.getElem?_eq_some_iff.1 ho).1
      simpa using this
    have h2 := hall i hin
    have hbs : i < big.size := by rw [hm.inv.size]; simpa using hin
    rw [Array.getD_eq_getD_getElem?, Array.getElem?_eq_getElem hbs] at h1 h2
    simp at h1 h2
    rw [h1] at h2
    cases h2
  | f + 1, big, small, vs, W, hm, hcnt, hI => by
    have hne : ∃ i, i < l.length ∧ small[i]? = some false := by
      have : false ∈ small.toList := List.count_pos_iff.1 (by omega)
      obtain ⟨i, hi, e⟩ := List.getElem_of_mem this
      exact ⟨i, by simpa [hm.size] using hi, by rw [← Array.getElem?_toList, List.getElem?_eq_getElem hi, e]⟩
    obtain ⟨i0, hi0, hu0⟩ := hne
    refine ⟨fun h0 => absurd h0 (ready_some hok (Nat.le_refl _) hm hi0 hu0), fun i hi => ?_⟩
    obtain ⟨hun0, o, ho0, hall⟩ := mem_ready.1 hi
    have ho : l[i]? = some o := by simpa using ho0
    have hin : i < l.length := (List.getElem?_eq_some_iff.1 ho).1
    have his : i < small.size := by rw [hm.size]; exact hin
    have hbs : i < big.size := by rw [hm.inv.size]; simpa using hin
    have hf : small[i] = false := by
      have := hm.same i hin
      rw [Array.getElem?_eq_getElem his] at this
      rw [Array.getD_eq_getD_getElem?, this] at hun0
      exact hun0
    have hbf : big.getD i false = false := getD_both hun0
    have hgd : o.guard = none := by
      have := List.all_eq_true.1 hap i (List.mem_range.2 hin)
      simp only [ho, Bool.and_eq_true, Option.isNone_iff_eq_none] at this
      exact this.1
    have hwt : ∀ z, Region.wanted o z = true := fun z => by unfold Region.wanted; rw [hgd]
    have h1 := hst i hin
    unfold StStep at h1
    simp only [ho] at h1
    have h2 := h1 _ vs W hbf (fun j hj => by
      unfold hasDep at hj
      simp only [ho] at hj
      obtain ⟨q, hq, h3⟩ := Array.any_eq_true.1 hj
      simp only [Bool.and_eq_true, beq_iff_eq] at h3
      have := hall o.after[q] (Array.getElem_mem hq) h3.1
      rwa [h3.2] at this) hI
    simp only [wpList, hwt, if_true] at h2
    unfold wpOp
    simp only [ho0, hwt, if_true]
    have hcnt' : (small.setIfInBounds i true).toList.count false = f := by
      rw [Array.toList_setIfInBounds, List.count_set (by simpa using his)]
      have : small.toList[i]'(by simpa using his) = false := by rw [Array.getElem_toList]; exact hf
      simp [this, hcnt]
    have hstep : ∀ a' W', ((∃ v, a' = (fillA (dstL l l.length) vs a0).put o.dst v) ∧ I (updB (fun j => big.getD j false) i) (updD vs o.dst (slotV a' o.dst)) W') → wpAny P .any l.toArray Q' f (big.setIfInBounds i true) a' W' := by
      rintro a' W' ⟨⟨v, rfl⟩, hII⟩
      have hm' := hm.set hi hin
      rw [← getD_setB hbs] at hII
      cases hdst : o.dst with
      | none =>
        rw [hdst] at hII
        have e : (fillA (dstL l l.length) vs a0).put none v = fillA (dstL l l.length) vs a0 := rfl
        rw [e]
        exact st_all hok hap hsz hst hend f _ _ vs W' hm' hcnt' hII
      | some d0 =>
        have hin0 := mem_dstL hin ho hdst
        rw [hdst] at hII
        rw [fillA_put _ _ _ hin0] at hII ⊢
        have hsl : slotV (fillA (dstL l l.length) (upV vs d0 v) a0) (some d0) = upV vs d0 v d0 := slot_fill _ _ _ hin0 (by
          have := List.all_eq_true.1 hsz d0 (List.contains_iff_mem.1 hin0)
          simpa using this)
        rw [hsl] at hII
        have e2 : updD vs (some d0) (upV vs d0 v d0) = upV vs d0 v := by
          show upV vs d0 (upV vs d0 v d0) = upV vs d0 v
          have : upV vs d0 v d0 = v := by unfold upV; rw [if_pos rfl]
          rw [this]
        rw [e2] at hII
        exact st_all hok hap hsz hst hend f _ _ _ W' hm' hcnt' hII
    rcases h2 with h2 | ⟨h2, a9, w9, h3⟩
    · refine .inl (Oper.wp_mono hstep (wp_put ?_))
      exact wp_unthen (fun a' W' h => h) h2
    · exact .inr ⟨h2, a9, w9, h3⟩
theorem wp_region_st {id : Nat} {Q : Exit → Act → World → Prop} {a : Act} {w : World} (I : (Nat → Bool) → (Nat → Value) → World → Prop) (hm : P.follows .mixedOrders = true)
    (hB : (headOk l l.length && apartB l l.length) = true)
    (hsz : (dstL l l.length).all (fun d => decide (d < a.tmps.size)) = true)
    (h0 : I (fun _ => false) (fun d => a.tmps.getD d undef) w.drew) (hst : ∀ i, i < l.length → StStep P l I Q a i)
    (hend : ∀ s vs W, (∀ j, j < l.length → s j = true) → I s vs W → Q .normal (fillA (dstL l l.length) vs a) W) : (Code.region id l.toArray true).wp P Q a w := by
  simp only [Bool.and_eq_true] at hB
  have inv0 : HeadInv .any l.toArray l.length (Array.replicate l.toArray.size false) :=
    ⟨by simp, fun j oj _ hl => (by rw [getD_replicate_false] at hl; cases hl), fun t _ ht => getD_in (by simpa using ht) (getD_replicate_false _ _)⟩
  refine wp_region_any hm ?_
  have e0 : (fun j => (Array.replicate l.toArray.size false).getD j false) = fun _ => false := funext fun j => getD_replicate_false _ _
  have H := st_all (P := P) (I := I) (Q' := Q) (a0 := a) hB.1 hB.2 hsz hst hend l.toArray.size (Array.replicate l.toArray.size false) (Array.replicate l.length false) (fun d => a.tmps.getD d undef) { w with drawn := w.drawn + 1 } ⟨inv0, by simp, fun j hj => by
      rw [Array.getElem?_replicate, Array.getElem?_replicate, if_pos hj, if_pos (by simp; omega)]⟩ (by simp) (by rw [e0]; exact h0)
  rw [fillA_self] at H
  exact H
def FreeStep (P : Program) (l : List Oper) (n : Nat) (φ : List SG) (Sta : Nat → (Nat → Value) → World → Prop) (Q : Exit → Act → World → Prop) (a0 : Act) (i : Nat) : Prop :=
  match l[i]? with
  | none => True
  | some o => ∀ (vs : Nat → Value) (W : World), (∃ k, Sta k vs W) → (∀ j, hasDep l i j = true → (φ.getD j SG.top).p (vs (dstN l j)) W) →
      wpList P l.toArray (Exit.then (fun a' W' => a'.defers = a0.defers ∧ W.grownBy W' none ∧ (φ.getD i SG.top).p (slotV a' o.dst) W') Q) [o] (fillA (dstL l n) vs a0) W
def LinkStep (P : Program) (l : List Oper) (n : Nat) (φ : List SG) (Sta : Nat → (Nat → Value) → World → Prop) (bl : Nat → World → World → Prop) (Q : Exit → Act → World → Prop) (a0 : Act) (c i : Nat) : Prop :=
  match l[i]? with
  | none => True
  | some o => ∀ (vs : Nat → Value) (W : World), Sta c vs W → (∀ j, hasDep l i j = true → (φ.getD j SG.top).p (vs (dstN l j)) W) →
      wpList P l.toArray (Exit.then (fun a' W' => a'.defers = a0.defers ∧ bl c W W' ∧ Sta (c + 1) (updD vs o.dst (slotV a' o.dst)) W' ∧ (φ.getD i SG.top).p (slotV a' o.dst) W') Q) [o] (fillA (dstL l n) vs a0) W
theorem FreeStep.mk {n : Nat} {φ : List SG} {Sta : Nat → (Nat → Value) → World → Prop} {Q : Exit → Act → World → Prop} {a0 : Act} {i : Nat} {o : Oper} (ho : l[i]? = some o)
    (h : ∀ (vs : Nat → Value) (W : World), (∃ k, Sta k vs W) → (∀ j, hasDep l i j = true → (φ.getD j SG.top).p (vs (dstN l j)) W) →
      wpList P l.toArray (Exit.then (fun a' W' => a'.defers = a0.defers ∧ W.grownBy W' none ∧ (φ.getD i SG.top).p (slotV a' o.dst) W') Q) [o] (fillA (dstL l n) vs a0) W) : FreeStep P l n φ Sta Q a0 i := by
  unfold FreeStep; rw [ho]; exact h
theorem LinkStep.mk {n : Nat} {φ : List SG} {Sta : Nat → (Nat → Value) → World → Prop} {bl : Nat → World → World → Prop} {Q : Exit → Act → World → Prop} {a0 : Act} {c i : Nat} {o : Oper} (ho : l[i]? = some o)
    (h : ∀ (vs : Nat → Value) (W : World), Sta c vs W → (∀ j, hasDep l i j = true → (φ.getD j SG.top).p (vs (dstN l j)) W) →
      wpList P l.toArray (Exit.then (fun a' W' => a'.defers = a0.defers ∧ bl c W W' ∧ Sta (c + 1) (updD vs o.dst (slotV a' o.dst)) W' ∧ (φ.getD i SG.top).p (slotV a' o.dst) W') Q) [o] (fillA (dstL l n) vs a0) W) : LinkStep P l n φ Sta bl Q a0 c i := by
  unfold LinkStep; rw [ho]; exact h
def ChSteps (P : Program) (l : List Oper) (n : Nat) (φ : List SG) (Sta : Nat → (Nat → Value) → World → Prop) (bl : Nat → World → World → Prop) (C : List Nat) (Q : Exit → Act → World → Prop) (a0 : Act) : Nat → Nat → Prop
  | 0, _ => True
  | m + 1, k => (bif C.contains k then LinkStep P l n φ Sta bl Q a0 (C.idxOf k) k else FreeStep P l n φ Sta Q a0 k) ∧ ChSteps P l n φ Sta bl C Q a0 m (k + 1)
theorem ChSteps.at {n : Nat} {φ : List SG} {Sta : Nat → (Nat → Value) → World → Prop} {bl : Nat → World → World → Prop} {C : List Nat} {Q : Exit → Act → World → Prop} {a0 : Act} : ∀ {m k : Nat}, ChSteps P l n φ Sta bl C Q a0 m k → ∀ i, k ≤ i → i < k + m → (bif C.contains i then LinkStep P l n φ Sta bl Q a0 (C.idxOf i) i else FreeStep P l n φ Sta Q a0 i)
  | 0, k, _, i, h1, h2 => by omega
  | m + 1, k, h, i, h1, h2 => by
    rcases Nat.lt_or_eq_of_le h1 with h3 | rfl
    · exact h.2.at i h3 (by omega)
    · exact h.1
def chainOkB (l : List Oper) (C : List Nat) : Bool := (List.range C.length).all fun c => decide (C.getD c 0 < l.length) && (c == 0 || hasDep l (C.getD c 0) (C.getD (c - 1) 0))
def ChI (l : List Oper) (φ : List SG) (Sta : Nat → (Nat → Value) → World → Prop) (C : List Nat) (s : Nat → Bool) (vs : Nat → Value) (W : World) : Prop :=
  (∀ j, j < l.length → s j = true → ∀ d, ((l[j]?).bind (·.dst)) = some d → (φ.getD j SG.top).p (vs d) W) ∧ ∃ k, k ≤ C.length ∧ (∀ c, c < C.length → s (C.getD c 0) = decide (c < k)) ∧ Sta k vs W
theorem idx_nodup {C : List Nat} (h : C.Nodup) {c : Nat} (hc : c < C.length) : C.idxOf (C.getD c 0) = c := by
  rw [show C.getD c 0 = C[c] by simp [hc]]
  exact h.idxOf_getElem c hc
theorem upd_done {φ : List SG} {s : Nat → Bool} {vs : Nat → Value} {W W' : World} {i : Nat} {o : Oper} {v : Value} (hap : apartB l l.length = true) (hin : i < l.length) (ho : l[i]? = some o)
    (hd : ∀ j, j < l.length → s j = true → ∀ d, ((l[j]?).bind (·.dst)) = some d → (φ.getD j SG.top).p (vs d) W) (hst : ∀ j, j < l.length → ∀ u, (φ.getD j SG.top).p u W → (φ.getD j SG.top).p u W') (hp : (φ.getD i SG.top).p v W') :
    ∀ j, j < l.length → updB s i j = true → ∀ d, ((l[j]?).bind (·.dst)) = some d → (φ.getD j SG.top).p (updD vs o.dst v d) W' := by
  intro j hj hb d hdj
  by_cases e : j = i
  · subst e
    have hod : o.dst = some d := by simpa [ho] using hdj
    rw [hod]
    show (φ.getD j SG.top).p (upV vs d v d) W'
    have : upV vs d v d = v := by unfold upV; rw [if_pos rfl]
    rw [this]; exact hp
  · have hb' : s j = true := by unfold updB at hb; rwa [if_neg e] at hb
    have h1 := hst j hj _ (hd j hj hb' d hdj)
    cases hod : o.dst with
    | none => exact h1
    | some d0 =>
      have hne2 : d ≠ d0 := fun h => by
        subst h
        have h4 := List.all_eq_true.1 hap i (List.mem_range.2 hin)
        simp only [ho, Bool.and_eq_true] at h4
        have h5 := List.all_eq_true.1 h4.2 j (List.mem_range.2 hj)
        rw [hdj, hod] at h5
        simp [Ne.symm e] at h5
      show (φ.getD j SG.top).p (upV vs d0 v d) W'
      have : upV vs d0 v d = vs d := by unfold upV; rw [if_neg hne2]
      rw [this]; exact h1
theorem wp_region_chain {id : Nat} {Q : Exit → Act → World → Prop} {a : Act} {w : World} (n : Nat) (hn : l.length = n) (φ : List SG) (C : List Nat) (Sta : Nat → (Nat → Value) → World → Prop) (bl : Nat → World → World → Prop) (hm : P.follows .mixedOrders = true)
    (hB : (headOk l l.length && apartB l l.length && chainOkB l C && decide C.Nodup && (List.range l.length).all (fun i => (List.range l.length).all fun j => !hasDep l i j || C.contains j || ((l[j]?).bind (·.dst)).isSome)
      && (List.range l.length).all (fun i => match l[i]? with | none => true | some o => o.after.all fun e => !Region.binds .any e || decide (e.on < l.length))) = true)
    (hsz : (dstL l l.length).all (fun d => decide (d < a.tmps.size)) = true)
    (hφ : ∀ j, j < l.length → ∀ u W W', (φ.getD j SG.top).p u W → (W.grownBy W' none ∨ ∃ c, c < C.length ∧ bl c W W') → (φ.getD j SG.top).p u W')
    (hC0 : ∀ j, C.contains j = true → ((l[j]?).bind (·.dst)) = none → ∀ u W, (φ.getD j SG.top).p u W)
    (hSta : ∀ k vs vs' W W', Sta k vs W → W.grownBy W' none → (∀ c, c < C.length → ∀ d, ((l[C.getD c 0]?).bind (·.dst)) = some d → vs' d = vs d) → Sta k vs' W') (h0 : Sta 0 (fun d => a.tmps.getD d undef) w.drew)
    (hst : ChSteps P l n φ Sta bl C Q a n 0)
    (h : ∀ (vs : Nat → Value) (W : World), AllG l φ vs W n → Sta C.length vs W → Q .normal (fillA (dstL l n) vs a) W) : (Code.region id l.toArray true).wp P Q a w := by
  subst hn
  simp only [Bool.and_eq_true, decide_eq_true_eq] at hB
  obtain ⟨⟨⟨⟨⟨hok, hap⟩, hch⟩, hnd⟩, hdp⟩, hin⟩ := hB
  have hlt : ∀ c, c < C.length → C.getD c 0 < l.length := fun c hc => by
    have := List.all_eq_true.1 hch c (List.mem_range.2 hc)
    simp only [Bool.and_eq_true, decide_eq_true_eq] at this
    exact this.1
  have hlk : ∀ c, c < C.length → c ≠ 0 → hasDep l (C.getD c 0) (C.getD (c - 1) 0) = true := fun c hc h0 => by
    have := List.all_eq_true.1 hch c (List.mem_range.2 hc)
    simp only [Bool.and_eq_true, decide_eq_true_eq, Bool.or_eq_true, beq_iff_eq] at this
    exact this.2.resolve_left h0
  -- what those that an operation waits for have said
  have deps : ∀ i, i < l.length → ∀ (s : Nat → Bool) (vs : Nat → Value) (W : World), (∀ j, hasDep l i j = true → s j = true) → (∀ j, j < l.length → s j = true → ∀ d, ((l[j]?).bind (·.dst)) = some d → (φ.getD j SG.top).p (vs d) W) → ∀ j, hasDep l i j = true → (φ.getD j SG.top).p (vs (dstN l j)) W := by
    intro i hi s vs W hs hd j hj
    have hjl : j < l.length := by
      have h1 := List.all_eq_true.1 hin i (List.mem_range.2 hi)
      have hj2 := hj
      unfold hasDep at hj2
      rw [List.getElem?_eq_getElem hi] at h1 hj2
      simp only at h1 hj2
      obtain ⟨q, hq, h3⟩ := Array.any_eq_true.1 hj2
      simp only [Bool.and_eq_true, beq_iff_eq] at h3
      have h4 := Array.all_eq_true_iff_forall_mem.1 h1 _ (Array.getElem_mem hq)
      simp [h3.1] at h4
      omega
    have h2 := List.all_eq_true.1 (List.all_eq_true.1 hdp i (List.mem_range.2 hi)) j (List.mem_range.2 hjl)
    rw [hj] at h2
    simp only [Bool.not_true, Bool.false_or, Bool.or_eq_true] at h2
    cases hdd : (l[j]?).bind (·.dst) with
    | none =>
      rcases h2 with h2 | h2
      · exact hC0 j h2 hdd _ _
      · rw [hdd] at h2; cases h2
    | some d =>
      have e2 : dstN l j = d := by unfold dstN; rw [hdd]; rfl
      rw [e2]; exact hd j hjl (hs j hj) d hdd
  refine wp_region_st (ChI l φ Sta C) hm (by simp only [Bool.and_eq_true]; exact ⟨hok, hap⟩) hsz ⟨fun j _ hs => (nomatch hs), 0, Nat.zero_le _, fun c _ => (by simp), h0⟩ (fun i hi => ?_) (fun s vs W hs hI => ?_)
  · unfold StStep
    have ho : l[i]? = some l[i] := List.getElem?_eq_getElem hi
    rw [ho]
    simp only
    rintro s vs W hsi hsd ⟨hd, k, hk, hck, hS⟩
    have hdeps := deps i hi s vs W hsd hd
    have hstp := hst.at i (Nat.zero_le _) (by omega)
    by_cases hc : C.contains i = true
    · rw [hc, cond_true] at hstp
      have hmem := List.contains_iff_mem.1 hc
      have hci := List.idxOf_lt_length_of_mem hmem
      have hcg : C.getD (C.idxOf i) 0 = i := by rw [show C.getD (C.idxOf i) 0 = C[C.idxOf i] by simp [hci]]; exact List.getElem_idxOf hci
      obtain ⟨c, hcc⟩ : ∃ c, C.idxOf i = c := ⟨_, rfl⟩
      rw [hcc] at hstp hci hcg
      have hkc : k = c := by
        have h1 := hck c hci
        rw [hcg, hsi] at h1
        have h1' : ¬ c < k := by simpa using h1.symm
        by_cases h0' : c = 0
        · omega
        · have h2 := hck (c - 1) (by omega)
          rw [hsd _ (by have := hlk c hci h0'; rwa [hcg] at this)] at h2
          have h2' : c - 1 < k := by simpa using h2.symm
          omega
      subst hkc
      unfold LinkStep at hstp
      rw [ho] at hstp
      have := hstp vs W hS hdeps
      refine wpList_mono' ?_ this
      rintro a' W' ⟨h1, h2, h3, h4⟩
      refine ⟨h1, upd_done hap hi ho hd (fun j hj u hu => hφ j hj u W W' hu (.inr ⟨_, hci, h2⟩)) h4, k + 1, hci, fun c' hc' => ?_, h3⟩
      unfold updB
      by_cases e : C.getD c' 0 = i
      · rw [if_pos e]
        have : c' = k := by
          have h5 := idx_nodup hnd hc'
          rw [e, hcc] at h5
          exact h5.symm
        simp; omega
      · rw [if_neg e, hck c' hc']
        have : c' ≠ k := fun h => e (by rw [h, hcg])
        rw [decide_eq_decide]; omega
    · have hc' : C.contains i = false := by simpa using hc
      have notin : ∀ c', c' < C.length → C.getD c' 0 ≠ i := fun c' hc2 e => by
        have hm2 : C.contains i = true := by rw [← e, List.contains_iff_mem, show C.getD c' 0 = C[c'] by simp [hc2]]; exact List.getElem_mem _
        rw [hm2] at hc'; cases hc'
      rw [hc', cond_false] at hstp
      unfold FreeStep at hstp
      rw [ho] at hstp
      have := hstp vs W ⟨k, hS⟩ hdeps
      refine wpList_mono' ?_ this
      rintro a' W' ⟨h1, h2, h4⟩
      refine ⟨h1, upd_done hap hi ho hd (fun j hj u hu => hφ j hj u W W' hu (.inl h2)) h4, k, hk, fun c' hc2 => ?flags, hSta k vs _ W W' hS h2 (fun c' hc2 d hdj => ?slots)⟩
      case flags =>
        unfold updB
        rw [if_neg (notin c' hc2), hck c' hc2]
      case slots =>
        have e : C.getD c' 0 ≠ i := notin c' hc2
        have hql := hlt c' hc2
        generalize C.getD c' 0 = q at e hdj hql
        cases hod : l[i].dst with
        | none => rfl
        | some d0 =>
          have hne : d ≠ d0 := fun hh => by
            subst hh
            have h4 := List.all_eq_true.1 hap i (List.mem_range.2 hi)
            simp only [ho, Bool.and_eq_true] at h4
            have h5 := List.all_eq_true.1 h4.2 q (List.mem_range.2 hql)
            rw [hdj, hod] at h5
            simp [Ne.symm e] at h5
          show upV vs d0 _ d = vs d
          unfold upV; rw [if_neg hne]
  · obtain ⟨hd, k, hk, hck, hS⟩ := hI
    have hkl : k = C.length := by
      rcases Nat.lt_or_eq_of_le hk with h1 | h1
      · have h2 := hck k h1
        rw [hs _ (hlt k h1)] at h2
        simp at h2
      · exact h1
    subst hkl
    exact h vs W (allG_of l.length fun j hj d hdj => hd j hj (hs j hj) d hdj) hS
end
def MarkStep (P : Program) (l : List Oper) (n : Nat) (φ : List SG) (Sta : (Nat → Bool) → (Nat → Value) → World → Prop) (bl : World → World → Prop) (Q : Exit → Act → World → Prop) (a0 : Act) (i : Nat) : Prop :=
  match l[i]? with
  | none => True
  | some o => ∀ (s : Nat → Bool) (vs : Nat → Value) (W : World), Sta s vs W → s i = false → (∀ j, hasDep l i j = true → s j = true) → (∀ j, hasDep l i j = true → (φ.getD j SG.top).p (vs (dstN l j)) W) →
      wpList P l.toArray (Exit.then (fun a' W' => a'.defers = a0.defers ∧ bl W W' ∧ Sta (updB s i) (updD vs o.dst (slotV a' o.dst)) W' ∧ (φ.getD i SG.top).p (slotV a' o.dst) W') Q) [o] (fillA (dstL l n) vs a0) W
theorem MarkStep.mk {P : Program} {l : List Oper} {n : Nat} {φ : List SG} {Sta : (Nat → Bool) → (Nat → Value) → World → Prop} {bl : World → World → Prop} {Q : Exit → Act → World → Prop} {a0 : Act} {i : Nat} {o : Oper} (ho : l[i]? = some o)
    (h : ∀ (s : Nat → Bool) (vs : Nat → Value) (W : World), Sta s vs W → s i = false → (∀ j, hasDep l i j = true → s j = true) → (∀ j, hasDep l i j = true → (φ.getD j SG.top).p (vs (dstN l j)) W) →
      wpList P l.toArray (Exit.then (fun a' W' => a'.defers = a0.defers ∧ bl W W' ∧ Sta (updB s i) (updD vs o.dst (slotV a' o.dst)) W' ∧ (φ.getD i SG.top).p (slotV a' o.dst) W') Q) [o] (fillA (dstL l n) vs a0) W) : MarkStep P l n φ Sta bl Q a0 i := by
  unfold MarkStep; rw [ho]; exact h
def MaSteps (P : Program) (l : List Oper) (n : Nat) (φ : List SG) (Sta : (Nat → Bool) → (Nat → Value) → World → Prop) (bl : World → World → Prop) (C : List Nat) (Q : Exit → Act → World → Prop) (a0 : Act) : Nat → Nat → Prop
  | 0, _ => True
  | m + 1, k => (bif C.contains k then MarkStep P l n φ Sta bl Q a0 k else FreeStep P l n φ (fun _ vs W => ∃ s, Sta s vs W) Q a0 k) ∧ MaSteps P l n φ Sta bl C Q a0 m (k + 1)
theorem MaSteps.at {P : Program} {l : List Oper} {n : Nat} {φ : List SG} {Sta : (Nat → Bool) → (Nat → Value) → World → Prop} {bl : World → World → Prop} {C : List Nat} {Q : Exit → Act → World → Prop} {a0 : Act} : ∀ {m k : Nat}, MaSteps P l n φ Sta bl C Q a0 m k → ∀ i, k ≤ i → i < k + m → (bif C.contains i then MarkStep P l n φ Sta bl Q a0 i else FreeStep P l n φ (fun _ vs W => ∃ s, Sta s vs W) Q a0 i)
  | 0, k, _, i, h1, h2 => by omega
  | m + 1, k, h, i, h1, h2 => by
    rcases Nat.lt_or_eq_of_le h1 with h3 | rfl
    · exact h.2.at i h3 (by omega)
    · exact h.1
theorem wp_region_mark {P : Program} {l : List Oper} {id : Nat} {Q : Exit → Act → World → Prop} {a : Act} {w : World} (n : Nat) (hn : l.length = n) (φ : List SG) (C : List Nat) (Sta : (Nat → Bool) → (Nat → Value) → World → Prop) (bl : World → World → Prop) (hm : P.follows .mixedOrders = true)
    (hB : (headOk l l.length && apartB l l.length && (List.range l.length).all (fun i => (List.range l.length).all fun j => !hasDep l i j || C.contains j || ((l[j]?).bind (·.dst)).isSome)
      && (List.range l.length).all (fun i => match l[i]? with | none => true | some o => o.after.all fun e => !Region.binds .any e || decide (e.on < l.length))) = true)
    (hsz : (dstL l l.length).all (fun d => decide (d < a.tmps.size)) = true)
    (hφ : ∀ j, j < l.length → ∀ u W W', (φ.getD j SG.top).p u W → (W.grownBy W' none ∨ bl W W') → (φ.getD j SG.top).p u W')
    (hC0 : ∀ j, C.contains j = true → ((l[j]?).bind (·.dst)) = none → ∀ u W, (φ.getD j SG.top).p u W)
    (hSta : ∀ s s' vs vs' W W', Sta s vs W → W.grownBy W' none → (∀ c, C.contains c = true → s' c = s c) → (∀ c, C.contains c = true → ∀ d, ((l[c]?).bind (·.dst)) = some d → vs' d = vs d) → Sta s' vs' W') (h0 : Sta (fun _ => false) (fun d => a.tmps.getD d undef) w.drew)
    (hCl : C.all (fun c => decide (c < l.length)) = true)
    (hst : MaSteps P l n φ Sta bl C Q a n 0)
    (h : ∀ (s : Nat → Bool) (vs : Nat → Value) (W : World), AllG l φ vs W n → (∀ c, C.contains c = true → s c = true) → Sta s vs W → Q .normal (fillA (dstL l n) vs a) W) : (Code.region id l.toArray true).wp P Q a w := by
  subst hn
  simp only [Bool.and_eq_true] at hB
  obtain ⟨⟨⟨hok, hap⟩, hdp⟩, hin⟩ := hB
  have deps : ∀ i, i < l.length → ∀ (s : Nat → Bool) (vs : Nat → Value) (W : World), (∀ j, hasDep l i j = true → s j = true) → (∀ j, j < l.length → s j = true → ∀ d, ((l[j]?).bind (·.dst)) = some d → (φ.getD j SG.top).p (vs d) W) → ∀ j, hasDep l i j = true → (φ.getD j SG.top).p (vs (dstN l j)) W := by
    intro i hi s vs W hs hd j hj
    have hjl : j < l.length := by
      have h1 := List.all_eq_true.1 hin i (List.mem_range.2 hi)
      have hj2 := hj
      unfold hasDep at hj2
      rw [List.getElem?_eq_getElem hi] at h1 hj2
      simp only at h1 hj2
      obtain ⟨q, hq, h3⟩ := Array.any_eq_true.1 hj2
      simp only [Bool.and_eq_true, beq_iff_eq] at h3
      have h4 := Array.all_eq_true_iff_forall_mem.1 h1 _ (Array.getElem_mem hq)
      simp [h3.1] at h4
      omega
    have h2 := List.all_eq_true.1 (List.all_eq_true.1 hdp i (List.mem_range.2 hi)) j (List.mem_range.2 hjl)
    rw [hj] at h2
    simp only [Bool.not_true, Bool.false_or, Bool.or_eq_true] at h2
    cases hdd : (l[j]?).bind (·.dst) with
    | none =>
      rcases h2 with h2 | h2
      · exact hC0 j h2 hdd _ _
      · rw [hdd] at h2; cases h2
    | some d =>
      have e2 : dstN l j = d := by unfold dstN; rw [hdd]; rfl
      rw [e2]; exact hd j hjl (hs j hj) d hdd
  refine wp_region_st (fun s vs W => (∀ j, j < l.length → s j = true → ∀ d, ((l[j]?).bind (·.dst)) = some d → (φ.getD j SG.top).p (vs d) W) ∧ Sta s vs W) hm (by simp only [Bool.and_eq_true]; exact ⟨hok, hap⟩) hsz ⟨fun j _ hs => (nomatch hs), h0⟩ (fun i hi => ?_) (fun s vs W hs hI => ?_)
  · unfold StStep
    have ho : l[i]? = some l[i] := List.getElem?_eq_getElem hi
    rw [ho]
    simp only
    rintro s vs W hsi hsd ⟨hd, hS⟩
    have hdeps := deps i hi s vs W hsd hd
    have hstp := hst.at i (Nat.zero_le _) (by omega)
    by_cases hc : C.contains i = true
    · rw [hc, cond_true] at hstp
      unfold MarkStep at hstp
      rw [ho] at hstp
      have := hstp s vs W hS hsi hsd hdeps
      refine wpList_mono' ?_ this
      rintro a' W' ⟨h1, h2, h3, h4⟩
      exact ⟨h1, upd_done hap hi ho hd (fun j hj u hu => hφ j hj u W W' hu (.inr h2)) h4, h3⟩
    · have hc' : C.contains i = false := by simpa using hc
      rw [hc', cond_false] at hstp
      unfold FreeStep at hstp
      rw [ho] at hstp
      have := hstp vs W ⟨0, s, hS⟩ hdeps
      refine wpList_mono' ?_ this
      rintro a' W' ⟨h1, h2, h4⟩
      refine ⟨h1, upd_done hap hi ho hd (fun j hj u hu => hφ j hj u W W' hu (.inl h2)) h4, hSta s _ vs _ W W' hS h2 (fun c hcc => ?_) (fun c hcc d hdj => ?_)⟩
      · unfold updB
        rw [if_neg (fun e => by rw [e, hc'] at hcc; cases hcc)]
      · have e : c ≠ i := fun e => by rw [e, hc'] at hcc; cases hcc
        have hcl : c < l.length := by
          have := List.all_eq_true.1 hCl c (List.contains_iff_mem.1 hcc)
          simpa using this
        cases hod : l[i].dst with
        | none => rfl
        | some d0 =>
          have hne : d ≠ d0 := fun hh => by
            subst hh
            have h4 := List.all_eq_true.1 hap i (List.mem_range.2 hi)
            simp only [ho, Bool.and_eq_true] at h4
            have h5 := List.all_eq_true.1 h4.2 c (List.mem_range.2 hcl)
            rw [hdj, hod] at h5
            simp [Ne.symm e] at h5
          show upV vs d0 _ d = vs d
          unfold upV; rw [if_neg hne]
  · obtain ⟨hd, hS⟩ := hI
    exact h s vs W (allG_of l.length fun j hj d hdj => hd j hj (hs j hj) d hdj) (fun c hc => hs c (by
      have := List.all_eq_true.1 hCl c (List.contains_iff_mem.1 hc)
      simpa using this)) hS
theorem bifF {c : Bool} {A B : Prop} (h : c = false) (x : B) : bif c then A else B := by rw [h]; exact x
theorem bifT {c : Bool} {A B : Prop} (h : c = true) (x : A) : bif c then A else B := by rw [h]; exact x
def StabM (mb lb : Nat) (φ : SG) : Prop := ∀ b, (b = none ∨ b = some lb ∨ b = some mb) → ∀ u W W', φ.p u W → W.grownBy W' b → φ.p u W'
def SM (mb lb : Nat) : Type := { φ : SG // StabM mb lb φ }
def SM.top {mb lb : Nat} : SM mb lb := ⟨SG.top, fun _ _ _ _ _ _ _ => trivial⟩
def SM.eq {mb lb : Nat} (x : Value) : SM mb lb := ⟨SG.eq x, fun _ _ _ _ _ h _ => h⟩
end Go.Att
