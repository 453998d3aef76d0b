/- A region that draws its order, whose first n operations are quiet (they read; their callees only draw) and whose others stand in one order: the text's order serves for all. No program in sight. -/
import Derived.StillTail
import Derived.BigQuiet
namespace Go
section
variable {P : Program} {l : List Oper} {n : Nat} {C : World → Prop}

def headOk (l : List Oper) (n : Nat) : Bool :=
  (List.range n).all fun i => match l[i]? with
    | none => true
    | some o => (match o.guard with | none => true | some (g, _) => decide (g < n)) && o.after.all fun e => !Region.binds .any e || decide (e.on < i)

theorem headOk_spec (h : headOk l n = true) {i : Nat} (hi : i < n) {o : Oper} (ho : l[i]? = some o) :
    (∀ g b, o.guard = some (g, b) → g < n) ∧ ∀ e ∈ o.after, Region.binds .any e = true → e.on < i := by
  have h1 := List.all_eq_true.1 h i (List.mem_range.2 hi)
  simp only [ho, Bool.and_eq_true] at h1
  refine ⟨fun g b hg => ?_, fun e he hb => ?_⟩
  · have := h1.1; rw [hg] at this; simpa using this
  · have := Array.all_eq_true_iff_forall_mem.1 h1.2 e he
    simpa [hb] using this

structure Marks (l : List Oper) (n : Nat) (big small : Array Bool) : Prop where
  inv : HeadInv .any l.toArray n big
  size : small.size = n
  same : ∀ j, j < n → big[j]? = small[j]?

theorem Marks.getD {big small : Array Bool} (h : Marks l n big small) {j : Nat} (hj : j < n) (d : Bool) : big.getD j d = small.getD j d := by
  simp only [Array.getD_eq_getD_getElem?, h.same j hj]
theorem Marks.set {big small : Array Bool} (h : Marks l n big small) {i : Nat} (hi : i ∈ Region.ready .any l.toArray big) (hin : i < n) : Marks l n (big.setIfInBounds i true) (small.setIfInBounds i true) := by
  refine ⟨h.inv.set hi hin, by simp [h.size], fun j hj => ?_⟩
  simp only [Array.getElem?_setIfInBounds, h.same j hj, h.size, h.inv.size]
  by_cases hij : i = j
  · subst hij
    obtain ⟨_, o, ho, _⟩ := mem_ready.1 hi
    have := (Array.getElem?_eq_some_iff.1 ho).1
    simp [hin]; simpa using this
  · simp [hij]

theorem ready_small {big small : Array Bool} (hok : headOk l n = true) (h : Marks l n big small) {i : Nat} (hin : i < n) (hi : i ∈ Region.ready .any l.toArray big) : i ∈ Region.ready .any (l.take n).toArray small := by
  obtain ⟨h1, o, ho, h2⟩ := mem_ready.1 hi
  have ho' : l[i]? = some o := by simpa using ho
  refine mem_ready.2 ⟨by rw [← h.getD hin]; exact h1, o, by simp [hin, ho'], fun e he hb => ?_⟩
  have := (headOk_spec hok hin ho').2 e he hb
  rw [← h.getD (by omega)]; exact h2 e he hb
theorem ready_some {big small : Array Bool} (hok : headOk l n = true) (hn : n ≤ l.length) (h : Marks l n big small) {i : Nat} (hin : i < n) (hu : small[i]? = some false) : Region.ready .any l.toArray big ≠ [] := by
  induction i using Nat.strongRecOn with
  | _ i ih =>
    by_cases hall : ∀ j, j < i → small[j]? = some true
    · have hlt : i < l.length := by omega
      have ho : l[i]? = some l[i] := List.getElem?_eq_getElem hlt
      have : i ∈ Region.ready .any l.toArray big := by
        refine mem_ready.2 ⟨by rw [Array.getD_eq_getD_getElem?, h.same i hin, hu]; rfl, l[i], by simp [ho], fun e he hb => ?_⟩
        have h3 := (headOk_spec hok hin ho).2 e he hb
        rw [Array.getD_eq_getD_getElem?, h.same _ (by omega), hall _ h3]; rfl
      intro e
      rw [e] at this; cases this
    · have : ∃ j, j < i ∧ small[j]? ≠ some true := by
        apply Classical.byContradiction
        intro hc
        exact hall fun j hj => Classical.byContradiction fun h4 => hc ⟨j, hj, h4⟩
      obtain ⟨j, hj, h4⟩ := this
      have hjs : j < small.size := by rw [h.size]; omega
      refine ih j hj (by omega) ?_
      rw [Array.getElem?_eq_getElem hjs] at h4 ⊢
      cases hb : small[j] with
      | false => rfl
      | true => exact absurd (by rw [hb]) h4

theorem wpOp_small {Q' : Exit → Act → World → Prop} (hok : headOk l n = true) {i : Nat} (hin : i < n) {a : Act} {K : Act → Prop} {K' : Act → World → Prop} {w : World} (hC : C w) (h : ∀ a w', C w' → K a → K' a w')
    (hh : qOp P (l.take n).toArray C i K a) : wpOp P l.toArray Q' i K' a w := by
  have e : (l.take n).toArray[i]? = l.toArray[i]? := by simp [hin]
  unfold qOp at hh
  unfold wpOp
  rw [e] at hh
  cases ho : l.toArray[i]? with
  | none => simp only [ho] at hh ⊢; exact h _ _ hC hh
  | some o =>
    simp only [ho] at hh ⊢
    have ho' : l[i]? = some o := by simpa using ho
    have hw : Region.wanted o (yielded l.toArray a.tmps) = Region.wanted o (yielded (l.take n).toArray a.tmps) := by
      unfold Region.wanted
      cases hg : o.guard with
      | none => rfl
      | some gb =>
        obtain ⟨g, b⟩ := gb
        have := (headOk_spec hok hin ho').1 g b hg
        have e2 : (l.take n).toArray[g]? = l.toArray[g]? := by simp [this]
        simp only [yielded, e2]
    rw [hw]
    split
    · rename_i h1; simp only [h1, if_true] at hh; exact .inl (Oper.wp_of_quiet hC h hh)
    · rename_i h1; simp only [h1] at hh; exact h _ _ hC hh

def waitB (l : List Oper) (m n : Nat) : Bool := (List.range n).all fun i => decide (i < m) || (List.range (n + 1)).any fun j => decide (i < j) && Region.waitsFor .any l.toArray j i
theorem not_yet {m : Nat} {big : Array Bool} (hw : waitB l m n = true) (hc : Region.chainB .any l.toArray n = true) (hn : n < l.length) (inv : HeadInv .any l.toArray n big) (i : Nat) (hm : m ≤ i) (hin : i < n) (hu : big[i]? = some false) :
    ∀ t, n ≤ t → t ∉ Region.ready .any l.toArray big := by
  have key : ∀ d i, n - i = d → m ≤ i → i < n → big[i]? = some false → n ∉ Region.ready .any l.toArray big := by
    intro d
    induction d using Nat.strongRecOn with
    | _ d ih =>
      intro i hd hm hin hu hr
      have h1 := List.all_eq_true.1 hw i (List.mem_range.2 hin)
      rw [decide_eq_false (by omega), Bool.false_or] at h1
      obtain ⟨j, hj, h2⟩ := List.any_eq_true.1 h1
      simp only [Bool.and_eq_true, decide_eq_true_eq] at h2
      have hjn : j ≤ n := by have := List.mem_range.1 hj; omega
      obtain ⟨oj, hoj, e, he, hb, hon⟩ := Region.waitsFor_spec h2.2
      rcases Nat.lt_or_eq_of_le hjn with hjn | rfl
      · have hjs : j < big.size := by rw [inv.size]; simp; omega
        cases hbj : big[j] with
        | false => exact ih (n - j) (by omega) j rfl (by omega) hjn (by rw [Array.getElem?_eq_getElem hjs, hbj]) hr
        | true =>
          have := inv.closed j oj hoj (by rw [Array.getD_eq_getD_getElem?, Array.getElem?_eq_getElem hjs, hbj]; rfl) e he hb
          rw [hon, Array.getD_eq_getD_getElem?, hu] at this
          cases this
      · obtain ⟨_, o, ho, hall⟩ := mem_ready.1 hr
        have : oj = o := Option.some.inj (hoj.symm.trans ho)
        subst this
        have := hall e he hb
        rw [hon, Array.getD_eq_getD_getElem?, hu] at this
        cases this
  intro t ht hr
  rcases Nat.lt_or_eq_of_le ht with htn | rfl
  · obtain ⟨_, o, ho, hall⟩ := mem_ready.1 hr
    have htl : t < l.toArray.size := (Array.getElem?_eq_some_iff.1 ho).1
    have h1 := List.all_eq_true.1 hc t (List.mem_range.2 htl)
    simp only [Bool.or_eq_true, decide_eq_true_eq] at h1
    rcases h1 with h1 | h1
    · omega
    · obtain ⟨o', ho', e, he, hb, hon⟩ := Region.waitsFor_spec h1
      have : o' = o := Option.some.inj (ho'.symm.trans ho)
      subst this
      have h2 := hall e he hb
      have h3 := inv.tail (t - 1) (by omega) (by omega)
      have hs : t - 1 < big.size := by rw [inv.size]; omega
      rw [hon, Array.getD_eq_getD_getElem?, Array.getElem?_eq_getElem hs] at h2
      rw [Array.getD_eq_getD_getElem?, Array.getElem?_eq_getElem hs] at h3
      simp at h2 h3
      rw [h2] at h3; cases h3
  · exact key _ i rfl hm hin hu hr

theorem head_all {Q0 : Act → Prop} {Q' : Exit → Act → World → Prop} {g : Nat} (hok : headOk l n = true) {m : Nat} (hs : waitB l m n = true) (hc : Region.chainB .any l.toArray n = true) (hn : n < l.length)
    (hL : ∀ big a w, C w → Q0 a → HeadInv .any l.toArray n big → (∀ j, j < n → big[j]? = some true) → wpAny P .any l.toArray Q' g big a w) :
    ∀ (f : Nat) (big small : Array Bool) (a : Act) (w : World), C w → Marks l n big small → (∀ j, j < m → small[j]? = some true) → small.toList.count false = f → wpAnyQ P .any (l.take n).toArray C Q0 f small a → wpAny P .any l.toArray Q' (f + g) big a w
  | 0, big, small, a, w, hw, hm, hmm, hcnt, h => by
    rw [Nat.zero_add]
    refine hL big a w hw h.2 hm.inv fun j hj => ?_
    have hjs : j < small.size := by rw [hm.size]; exact hj
    rw [hm.same j hj, Array.getElem?_eq_getElem hjs]
    cases hb : small[j] with
    | true => rfl
    | false =>
      have : false ∈ small.toList := by rw [← hb]; exact Array.mem_toList_iff.2 (Array.getElem_mem hjs)
      have := List.count_pos_iff.2 this
      omega
  | f + 1, big, small, a, w, hw, hm, hmm, hcnt, h => by
    rw [show f + 1 + g = (f + g) + 1 by omega]
    have hne : ∃ i, i < n ∧ small[i]? = some false := by
      have : false ∈ small.toList := List.count_pos_iff.1 (by omega)
      obtain ⟨i, hi, e⟩ := List.getElem_of_mem this
      exact ⟨i, by simpa [hm.size] using hi, by rw [← Array.getElem?_toList, List.getElem?_eq_getElem hi, e]⟩
    obtain ⟨i0, hi0, hu0⟩ := hne
    refine ⟨fun h0 => absurd h0 (ready_some hok (by omega) hm hi0 hu0), fun i hi => ?_⟩
    have hin : i < n := by
      rcases Nat.lt_or_ge i n with h1 | h1
      · exact h1
      · refine absurd hi (not_yet hs hc hn hm.inv i0 ?_ hi0 (by rw [hm.same _ hi0, hu0]) i h1)
        rcases Nat.lt_or_ge i0 m with h2 | h2
        · have := hmm i0 h2; rw [hu0] at this; cases this
        · exact h2
    have hi' := ready_small hok hm hin hi
    have hun := (mem_ready.1 hi').1
    have his : i < small.size := by rw [hm.size]; exact hin
    have hf : small[i] = false := by rw [Array.getD_eq_getD_getElem?, Array.getElem?_eq_getElem his] at hun; exact hun
    refine wpOp_small hok hin hw (fun a' w' hw' hk => head_all hok hs hc hn hL f _ _ a' w' hw' (hm.set hi hin) (fun j hj => by
      rw [Array.getElem?_setIfInBounds]
      have := hmm j hj
      split
      · rename_i e; subst e; first | rfl | rw [if_pos his]
      · exact this) ?_ hk) (h.2 i hi')
    rw [Array.toList_setIfInBounds, List.count_set (by simpa using his)]
    have : small.toList[i]'(by simpa using his) = false := by rw [Array.getElem_toList]; exact hf
    simp [this, hcnt]

theorem wp_region_quiet_tail {id : Nat} {Q : Exit → Act → World → Prop} {a : Act} {w : World} (n : Nat) (hm : P.follows .mixedOrders = true)
    (hB : (Region.lexB .any (l.take n).toArray && headOk l n && decide (n < l.length) && waitB l 0 n && Region.chainB .any l.toArray n && Region.seqB .any l.toArray (l.length - n) n (Array.replicate n true ++ Array.replicate (l.length - n) false)) = true)
    (h : wpQuiet P (l.take n).toArray (fun w' => ∃ m, w' = w.drewN m) (fun a' => ∀ w', (∃ m, w' = w.drewN m) → wpList P l.toArray Q (l.drop n) a' w') (l.take n) a) : (Code.region id l.toArray true).wp P Q a w := by
  simp only [Bool.and_eq_true, decide_eq_true_eq] at hB
  obtain ⟨⟨⟨⟨⟨hB, hok⟩, hn⟩, hs⟩, hc⟩, hseq⟩ := hB
  simp only [Region.lexB, Bool.and_eq_true] at hB
  have h1 := wpAnyQ_lex (C := fun w' => ∃ m, w' = w.drewN m) (md := .any) hB.1 (l.take n) 0 (Array.replicate n false) a (by simp) (by
    have := hB.2
    simp only [List.size_toArray, List.length_take] at this
    rw [Nat.min_eq_left (by omega)] at this
    rw [List.length_take, Nat.min_eq_left (by omega)]; exact this) h
  have inv0 : HeadInv .any l.toArray n (Array.replicate l.toArray.size false) :=
    ⟨by simp, fun j oj _ hl => (by rw [getD_replicate_false] at hl; cases hl), fun t _ ht => getD_in (by simpa using ht) (getD_replicate_false _ _)⟩
  refine wp_region_any hm ?_
  have H := head_all (P := P) (C := fun w' => ∃ m, w' = w.drewN m) (Q' := Q) (g := l.length - n) hok hs hc hn (fun big a' w' hw' hq hinv hall => by
    have e : big = Array.replicate n true ++ Array.replicate (l.length - n) false := by
      refine Array.ext_getElem? fun j => ?_
      rcases Nat.lt_or_ge j n with hj | hj
      · rw [hall j hj, Array.getElem?_append_left (by simpa using hj)]; simp [hj]
      · rw [Array.getElem?_append_right (by simpa using hj)]
        have hsz := hinv.size
        rcases Nat.lt_or_ge j l.length with hj2 | hj2
        · have := hinv.tail j hj (by simpa using hj2)
          have hjs : j < big.size := by rw [hsz]; simpa using hj2
          rw [Array.getD_eq_getD_getElem?, Array.getElem?_eq_getElem hjs] at this
          rw [Array.getElem?_eq_getElem hjs]
          simp at this
          rw [this, Array.size_replicate, Array.getElem?_replicate, if_pos (by omega)]
        · rw [Array.getElem?_eq_none (by rw [hsz]; simpa using hj2), Array.getElem?_eq_none (by simp; omega)]
    subst e
    have := wpAny_of_seq (md := .any) (P := P) (ops := l.toArray) (Q' := Q) (l.drop n) n _ a' w' (fun j => by simp [List.getElem?_drop]) (by rw [List.length_drop]; exact hseq) (hq w' hw')
    rwa [List.length_drop] at this) (l.take n).length (Array.replicate l.toArray.size false) (Array.replicate n false) a { w with drawn := w.drawn + 1 } ⟨1, rfl⟩ ⟨inv0, by simp, fun j hj => by
      rw [Array.getElem?_replicate, Array.getElem?_replicate, if_pos hj, if_pos (by simp; omega)]⟩ (fun j hj => by omega) (by simp; omega) h1
  rw [List.length_take, Nat.min_eq_left (by omega), show n + (l.length - n) = l.toArray.size by simp; omega] at H
  exact H

def NoPan (Q : Exit → Act → World → Prop) : Exit → Act → World → Prop := fun e a w => (∀ c, e ≠ .panic c) ∧ Q e a w
theorem NoPan.normal {Q : Exit → Act → World → Prop} {a : Act} {w : World} (h : Q .normal a w) : NoPan Q .normal a w := ⟨fun c hc => (by cases hc), h⟩
end
end Go
