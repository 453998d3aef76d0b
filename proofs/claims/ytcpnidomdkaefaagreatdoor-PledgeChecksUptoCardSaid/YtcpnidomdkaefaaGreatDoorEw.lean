/- A region that draws its order, whose first n operations leave all that was as it was, some of them behind a guard. No program in sight. -/
import Derived.Test.YtcpnidomdkaefaaGreatDoorZx20
namespace Go.Att
open Go.RowKit
section
variable {P : Program} {l : List Oper} {n : Nat}
/-- No two of the first n operations have one slot. -/
def apartG (l : List Oper) (n : Nat) : Bool := (List.range n).all fun i => match l[i]? with
  | none => false
  | some o => (List.range n).all fun j => i == j || o.dst.isNone || ((l[j]?).bind (·.dst)) != o.dst
theorem extg_all {φ : List SP} {Q' : Exit → Act → World → Prop} {g : Nat} {w : World} {a0 : Act} (hok : headOk l n = true) (hap : apartG l n = true) (hsz : (dstL l n).all (fun d => decide (d < a0.tmps.size)) = true) (hs : waitB l 0 n = true) (hc : Region.chainB .any l.toArray n = true) (hn : n < l.length)
    (hst : ∀ i, i < n → ExtStep P l n φ Q' w a0 i) (hnd : ∀ i, i < n → ∀ j, j < n → hasDep l i j = true → ((l[j]?).bind (·.dst)).isSome = true) (hdl : ∀ i, i < n → ∀ j, hasDep l i j = true → j < n)
    (hL : ∀ big vs W, Ext w W → DoneE l n φ big vs W → HeadInv .any l.toArray n big → (∀ j, j < n → big[j]? = some true) → wpAny P .any l.toArray Q' g big (fillA (dstL l n) vs a0) W) :
    ∀ (f : Nat) (big small : Array Bool) (vs : Nat → Value) (W : World), Ext w W → Marks l n big small → small.toList.count false = f → DoneE l n φ big vs W → wpAny P .any l.toArray Q' (f + g) big (fillA (dstL l n) vs a0) W
  | 0, big, small, vs, W, hx, hm, hcnt, hd => by
    rw [Nat.zero_add]
    refine hL big vs W hx hd hm.inv fun j hj => ?_
    have hjs : j < small.size := by rw [hm.size]; exact hj
    rw [hm.same j hj, Array.getElem?_eq_getElem hjs]
    cases hb : small[j] with
    | true => rfl
    | false =>
      have : false ∈ small.toList := by rw [← hb]; exact Array.mem_toList_iff.2 (Array.getElem_mem hjs)
      have := List.count_pos_iff.2 this
      omega
  | f + 1, big, small, vs, W, hx, hm, hcnt, hd => by
    rw [show f + 1 + g = (f + g) + 1 by omega]
    have hne : ∃ i, i < n ∧ small[i]? = some false := by
      have : false ∈ small.toList := List.count_pos_iff.1 (by omega)
      obtain ⟨i, hi, e⟩ := List.getElem_of_mem this
      exact ⟨i, by simpa [hm.size] using hi, by rw [← Array.getElem?_toList, List.getElem?_eq_getElem hi, e]⟩
    obtain ⟨i0, hi0, hu0⟩ := hne
    refine ⟨fun h0 => absurd h0 (ready_some hok (by omega) hm hi0 hu0), fun i hi => ?_⟩
    have hin : i < n := by
      rcases Nat.lt_or_ge i n with h1 | h1
      · exact h1
      · exact absurd hi (not_yet hs hc hn hm.inv i0 (Nat.zero_le _) hi0 (by rw [hm.same _ hi0, hu0]) i h1)
    obtain ⟨hun0, o, ho0, hall⟩ := mem_ready.1 hi
    have ho : l[i]? = some o := by simpa using ho0
    have hrd := hm.getD hin true
    have his : i < small.size := by rw [hm.size]; exact hin
    have hf : small[i] = false := by
      have := hm.same i hin
      rw [Array.getElem?_eq_getElem his] at this
      rw [Array.getD_eq_getD_getElem?, this] at hun0
      exact hun0
    have h1 := hst i hin
    unfold ExtStep at h1
    simp only [ho] at h1
    have h2 := h1 vs W hx (fun j hj => by
      have hjn := hdl i hin j hj
      have hsm := hnd i hin j hjn hj
      have hbj : big.getD j false = true := by
        unfold hasDep at hj
        simp only [ho] at hj
        obtain ⟨q, hq, h3⟩ := Array.any_eq_true.1 hj
        simp only [Bool.and_eq_true, beq_iff_eq] at h3
        have := hall o.after[q] (Array.getElem_mem hq) h3.1
        rwa [h3.2] at this
      obtain ⟨d, hdd⟩ := Option.isSome_iff_exists.1 hsm
      have := hd j hjn hbj d hdd
      have e2 : dstN l j = d := by unfold dstN; rw [hdd]; rfl
      rw [e2]; exact this)
    simp only [wpList] at h2
    unfold wpOp
    simp only [ho0]
    have hcnt' : ∀ (h : i < small.toList.length), (small.setIfInBounds i true).toList.count false = f := fun _ => by
      rw [Array.toList_setIfInBounds, List.count_set (by simpa using his)]
      have : small.toList[i]'(by simpa using his) = false := by rw [Array.getElem_toList]; exact hf
      simp [this, hcnt]
    have hstep : ∀ a' W', ((∃ v, a' = (fillA (dstL l n) vs a0).put o.dst v) ∧ Ext W W' ∧ (φ.getD i SP.top).p (slotV a' o.dst) W') → wpAny P .any l.toArray Q' (f + g) (big.setIfInBounds i true) a' W' := by
      rintro a' W' ⟨⟨v, rfl⟩, hxx, hph⟩
      have hm' := hm.set hi hin
      cases hdst : o.dst with
      | none =>
        have e : (fillA (dstL l n) vs a0).put none v = fillA (dstL l n) vs a0 := rfl
        rw [e]
        refine extg_all hok hap hsz hs hc hn hst hnd hdl hL f _ _ vs W' (hx.trans hxx) hm' (hcnt' (by simpa using his)) fun j hj hb d hd' => ?_
        refine (φ.getD j SP.top).st _ _ _ (hd j hj ?_ d hd') hxx
        by_cases e : i = j
        · subst e; rw [ho] at hd'; simp [hdst] at hd'
        · rw [getD_set_ne false e] at hb; exact hb
      | some d0 =>
        have hin0 := mem_dstL hin ho hdst
        rw [hdst] at hph
        rw [fillA_put _ _ _ hin0] at hph ⊢
        refine extg_all hok hap hsz hs hc hn hst hnd hdl hL f _ _ _ W' (hx.trans hxx) hm' (hcnt' (by simpa using his)) fun j hj hb d hd' => ?_
        by_cases e : i = j
        · subst e
          rw [ho] at hd'
          have : d0 = d := by simpa [hdst] using hd'
          subst this
          have hsl : slotV (fillA (dstL l n) (upV vs d0 v) a0) (some d0) = upV vs d0 v d0 := slot_fill _ _ _ hin0 (by
            have := List.all_eq_true.1 hsz d0 (List.contains_iff_mem.1 hin0)
            simpa using this)
          rw [hsl] at hph
          exact hph
        · rw [getD_set_ne false e] at hb
          have hne2 : d ≠ d0 := fun h => by
            subst h
            have h4 := List.all_eq_true.1 hap i (List.mem_range.2 hin)
            simp only [ho] at h4
            have h5 := List.all_eq_true.1 h4 j (List.mem_range.2 hj)
            rw [hd', hdst] at h5
            simp [e] at h5
          have : upV vs d0 v d = vs d := by unfold upV; rw [if_neg hne2]
          rw [this]
          exact (φ.getD j SP.top).st _ _ _ (hd j hj hb d hd') hxx
    by_cases hwt : Region.wanted o (yielded l.toArray (fillA (dstL l n) vs a0).tmps) = true
    · rw [if_pos hwt] at h2 ⊢
      rcases h2 with h2 | ⟨h2, a9, w9, h3⟩
      · refine .inl (Oper.wp_mono hstep (wp_put ?_))
        exact wp_unthen (fun a' W' h => h) h2
      · exact .inr ⟨h2, a9, w9, h3⟩
    · rw [if_neg hwt] at h2 ⊢
      exact hstep _ _ ⟨⟨_, rfl⟩, h2.2⟩
/-- The rule. -/
theorem wp_region_extg {id : Nat} {Q : Exit → Act → World → Prop} {a : Act} {w : World} (n : Nat) (φ : List SP) (hm : P.follows .mixedOrders = true)
    (hB : (headOk l n && apartG l n && decide (n < l.length) && waitB l 0 n && Region.chainB .any l.toArray n && Region.seqB .any l.toArray (l.length - n) n (Array.replicate n true ++ Array.replicate (l.length - n) false)
      && (List.range n).all (fun i => (List.range l.length).all fun j => !hasDep l i j || (decide (j < n) && ((l[j]?).bind (·.dst)).isSome))) = true)
    (hsz : (dstL l n).all (fun d => decide (d < a.tmps.size)) = true)
    (hst : ExtSteps P l n φ Q w a n 0)
    (h : ∀ (vs : Nat → Value) (W : World), Ext w W → AllE l φ vs W n → wpList P l.toArray Q (l.drop n) (fillA (dstL l n) vs a) W) : (Code.region id l.toArray true).wp P Q a w := by
  simp only [Bool.and_eq_true, decide_eq_true_eq] at hB
  obtain ⟨⟨⟨⟨⟨⟨hok, hap⟩, hn⟩, hs⟩, hc⟩, hseq⟩, hdp⟩ := hB
  have hdep : ∀ i, i < n → ∀ j, hasDep l i j = true → j < n ∧ ((l[j]?).bind (·.dst)).isSome = true := fun i hi j hj => by
    have h1 := List.all_eq_true.1 hdp i (List.mem_range.2 hi)
    have hjl : j < l.length := by
      have h2 := hj
      unfold hasDep at h2
      have hil : i < l.length := by omega
      rw [List.getElem?_eq_getElem hil] at h2
      simp only at h2
      obtain ⟨q, hq, h3⟩ := Array.any_eq_true.1 h2
      simp only [Bool.and_eq_true, beq_iff_eq] at h3
      have := (headOk_spec hok hi (List.getElem?_eq_getElem hil)).2 _ (Array.getElem_mem hq) h3.1
      omega
    have h2 := List.all_eq_true.1 h1 j (List.mem_range.2 hjl)
    rw [hj] at h2
    simpa using h2
  have inv0 : HeadInv .any l.toArray n (Array.replicate l.toArray.size false) :=
    ⟨by simp, fun j oj _ hl => (by rw [getD_replicate_false] at hl; cases hl), fun t _ ht => getD_in (by simpa using ht) (getD_replicate_false _ _)⟩
  refine wp_region_any hm ?_
  have H := extg_all (P := P) (φ := φ) (Q' := Q) (g := l.length - n) (w := w) (a0 := a) hok hap hsz hs hc hn (fun i hi => hst.at i (Nat.zero_le _) (by omega)) (fun i hi j hj hd => (hdep i hi j hd).2) (fun i hi j hd => (hdep i hi j hd).1) (fun big vs W hx hd hinv hall => by
    have e : big = Array.replicate n true ++ Array.replicate (l.length - n) false := by
      refine Array.ext_getElem? fun j => ?_
      rcases Nat.lt_or_ge j n with hj | hj
      · rw [hall j hj, Array.getElem?_append_left (by simpa using hj)]; simp [hj]
      · rw [Array.getElem?_append_right (by simpa using hj)]
        have hsz := hinv.size
        rcases Nat.lt_or_ge j l.length with hj2 | hj2
        · have := hinv.tail j hj (by simpa using hj2)
          have hjs : j < big.size := by rw [hsz]; simpa using hj2
          rw [Array.getD_eq_getD_getElem?, Array.getElem?_eq_getElem hjs] at this
          rw [Array.getElem?_eq_getElem hjs]
          simp at this
          rw [this, Array.size_replicate, Array.getElem?_replicate, if_pos (by omega)]
        · rw [Array.getElem?_eq_none (by rw [hsz]; simpa using hj2), Array.getElem?_eq_none (by simp; omega)]
    have hall' : AllE l φ vs W n := allE_of n fun j hj d hd' => hd j hj (by rw [Array.getD_eq_getD_getElem?, hall j hj]; rfl) d hd'
    subst e
    have := wpAny_of_seq (md := .any) (P := P) (ops := l.toArray) (Q' := Q) (l.drop n) n _ _ W (fun j => by simp [List.getElem?_drop]) (by rw [List.length_drop]; exact hseq) (h vs W hx hall')
    rwa [List.length_drop] at this) n (Array.replicate l.toArray.size false) (Array.replicate n false) (fun d => a.tmps.getD d undef) { w with drawn := w.drawn + 1 } (Ext.drewN w 1) ⟨inv0, by simp, fun j hj => by
      rw [Array.getElem?_replicate, Array.getElem?_replicate, if_pos hj, if_pos (by simp; omega)]⟩ (by simp) (fun j _ hb => by rw [getD_replicate_false] at hb; cases hb)
  rw [show n + (l.length - n) = l.toArray.size by simp; omega, fillA_self] at H
  exact H
end
end Go.Att
