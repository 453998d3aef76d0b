/- A region that draws its order, whose first n operations are quiet (they read; their callees only draw) and whose others stand in one order: the text's order serves for all. No program in sight. A region that draws its order, whose first n operations leave all that was as it was (they may make memory of their own) and whose others stand in one order. No program in sight. -/
import Derived.StillTail
import Derived.BigQuiet
import Derived.Test.YtfepefbehgbjpaaGreatDoorZx1
section
namespace Go
section
variable {P : Program} {l : List Oper} {n : Nat} {C : World → Prop}

def headOk (l : List Oper) (n : Nat) : Bool :=
  (List.range n).all fun i => match l[i]? with
    | none => true
    | some o => (match o.guard with | none => true | some (g, _) => decide (g < n)) && o.after.all fun e => !Region.binds .any e || decide (e.on < i)

theorem headOk_spec (h : headOk l n = true) {i : Nat} (hi : i < n) {o : Oper} (ho : l[i]? = some o) :
    (∀ g b, o.guard = some (g, b) → g < n) ∧ ∀ e ∈ o.after, Region.binds .any e = true → e.on < i := by
  have h1 := List.all_eq_true.1 h i (List.mem_range.2 hi)
  simp only [ho, Bool.and_eq_true] at h1
  refine ⟨fun g b hg => ?_, fun e he hb => ?_⟩
  · have := h1.1; rw [hg] at this; simpa using this
  · have := Array.all_eq_true_iff_forall_mem.1 h1.2 e he
    simpa [hb] using this

structure Marks (l : List Oper) (n : Nat) (big small : Array Bool) : Prop where
  inv : HeadInv .any l.toArray n big
  size : small.size = n
  same : ∀ j, j < n → big[j]? = small[j]?

theorem Marks.getD {big small : Array Bool} (h : Marks l n big small) {j : Nat} (hj : j < n) (d : Bool) : big.getD j d = small.getD j d := by
  simp only [Array.getD_eq_getD_getElem?, h.same j hj]
theorem Marks.set {big small : Array Bool} (h : Marks l n big small) {i : Nat} (hi : i ∈ Region.ready .any l.toArray big) (hin : i < n) : Marks l n (big.setIfInBounds i true) (small.setIfInBounds i true) := by
  refine ⟨h.inv.set hi hin, by simp [h.size], fun j hj => ?_⟩
  simp only [Array.getElem?_setIfInBounds, h.same j hj, h.size, h.inv.size]
  by_cases hij : i = j
  · subst hij
    obtain ⟨_, o, ho, _⟩ := mem_ready.1 hi
    have := (Array.getElem?_eq_some_iff.1 ho).1
    simp [hin]; simpa using this
  · simp [hij]

theorem ready_small {big small : Array Bool} (hok : headOk l n = true) (h : Marks l n big small) {i : Nat} (hin : i < n) (hi : i ∈ Region.ready .any l.toArray big) : i ∈ Region.ready .any (l.take n).toArray small := by
  obtain ⟨h1, o, ho, h2⟩ := mem_ready.1 hi
  have ho' : l[i]? = some o := by simpa using ho
  refine mem_ready.2 ⟨by rw [← h.getD hin]; exact h1, o, by simp [hin, ho'], fun e he hb => ?_⟩
  have := (headOk_spec hok hin ho').2 e he hb
  rw [← h.getD (by omega)]; exact h2 e he hb
theorem ready_some {big small : Array Bool} (hok : headOk l n = true) (hn : n ≤ l.length) (h : Marks l n big small) {i : Nat} (hin : i < n) (hu : small[i]? = some false) : Region.ready .any l.toArray big ≠ [] := by
  induction i using Nat.strongRecOn with
  | _ i ih =>
    by_cases hall : ∀ j, j < i → small[j]? = some true
    · have hlt : i < l.length := by omega
      have ho : l[i]? = some l[i] := List.getElem?_eq_getElem hlt
      have : i ∈ Region.ready .any l.toArray big := by
        refine mem_ready.2 ⟨by rw [Array.getD_eq_getD_getElem?, h.same i hin, hu]; rfl, l[i], by simp [ho], fun e he hb => ?_⟩
        have h3 := (headOk_spec hok hin ho).2 e he hb
        rw [Array.getD_eq_getD_getElem?, h.same _ (by omega), hall _ h3]; rfl
      intro e
      rw [e] at this; cases this
    · have : ∃ j, j < i ∧ small[j]? ≠ some true := by
        apply Classical.byContradiction
        intro hc
        exact hall fun j hj => Classical.byContradiction fun h4 => hc ⟨j, hj, h4⟩
      obtain ⟨j, hj, h4⟩ := this
      have hjs : j < small.size := by rw [h.size]; omega
      refine ih j hj (by omega) ?_
      rw [Array.getElem?_eq_getElem hjs] at h4 ⊢
      cases hb : small[j] with
      | false => rfl
      | true => exact absurd (by rw [hb]) h4

theorem wpOp_small {Q' : Exit → Act → World → Prop} (hok : headOk l n = true) {i : Nat} (hin : i < n) {a : Act} {K : Act → Prop} {K' : Act → World → Prop} {w : World} (hC : C w) (h : ∀ a w', C w' → K a → K' a w')
    (hh : qOp P (l.take n).toArray C i K a) : wpOp P l.toArray Q' i K' a w := by
  have e : (l.take n).toArray[i]? = l.toArray[i]? := by simp [hin]
  unfold qOp at hh
  unfold wpOp
  rw [e] at hh
  cases ho : l.toArray[i]? with
  | none => simp only [ho] at hh ⊢; exact h _ _ hC hh
  | some o =>
    simp only [ho] at hh ⊢
    have ho' : l[i]? = some o := by simpa using ho
    have hw : Region.wanted o (yielded l.toArray a.tmps) = Region.wanted o (yielded (l.take n).toArray a.tmps) := by
      unfold Region.wanted
      cases hg : o.guard with
      | none => rfl
      | some gb =>
        obtain ⟨g, b⟩ := gb
        have := (headOk_spec hok hin ho').1 g b hg
        have e2 : (l.take n).toArray[g]? = l.toArray[g]? := by simp [this]
        simp only [yielded, e2]
    rw [hw]
    split
    · rename_i h1; simp only [h1, if_true] at hh; exact .inl (Oper.wp_of_quiet hC h hh)
    · rename_i h1; simp only [h1] at hh; exact h _ _ hC hh

def waitB (l : List Oper) (m n : Nat) : Bool := (List.range n).all fun i => decide (i < m) || (List.range (n + 1)).any fun j => decide (i < j) && Region.waitsFor .any l.toArray j i
theorem not_yet {m : Nat} {big : Array Bool} (hw : waitB l m n = true) (hc : Region.chainB .any l.toArray n = true) (hn : n < l.length) (inv : HeadInv .any l.toArray n big) (i : Nat) (hm : m ≤ i) (hin : i < n) (hu : big[i]? = some false) :
    ∀ t, n ≤ t → t ∉ Region.ready .any l.toArray big := by
  have key : ∀ d i, n - i = d → m ≤ i → i < n → big[i]? = some false → n ∉ Region.ready .any l.toArray big := by
    intro d
    induction d using Nat.strongRecOn with
    | _ d ih =>
      intro i hd hm hin hu hr
      have h1 := List.all_eq_true.1 hw i (List.mem_range.2 hin)
      rw [decide_eq_false (by omega), Bool.false_or] at h1
      obtain ⟨j, hj, h2⟩ := List.any_eq_true.1 h1
      simp only [Bool.and_eq_true, decide_eq_true_eq] at h2
      have hjn : j ≤ n := by have := List.mem_range.1 hj; omega
      obtain ⟨oj, hoj, e, he, hb, hon⟩ := Region.waitsFor_spec h2.2
      rcases Nat.lt_or_eq_of_le hjn with hjn | rfl
      · have hjs : j < big.size := by rw [inv.size]; simp; omega
        cases hbj : big[j] with
        | false => exact ih (n - j) (by omega) j rfl (by omega) hjn (by rw [Array.getElem?_eq_getElem hjs, hbj]) hr
        | true =>
          have := inv.closed j oj hoj (by rw [Array.getD_eq_getD_getElem?, Array.getElem?_eq_getElem hjs, hbj]; rfl) e he hb
          rw [hon, Array.getD_eq_getD_getElem?, hu] at this
          cases this
      · obtain ⟨_, o, ho, hall⟩ := mem_ready.1 hr
        have : oj = o := Option.some.inj (hoj.symm.trans ho)
        subst this
        have := hall e he hb
        rw [hon, Array.getD_eq_getD_getElem?, hu] at this
        cases this
  intro t ht hr
  rcases Nat.lt_or_eq_of_le ht with htn | rfl
  · obtain ⟨_, o, ho, hall⟩ := mem_ready.1 hr
    have htl : t < l.toArray.size := (Array.getElem?_eq_some_iff.1 ho).1
    have h1 := List.all_eq_true.1 hc t (List.mem_range.2 htl)
    simp only [Bool.or_eq_true, decide_eq_true_eq] at h1
    rcases h1 with h1 | h1
    · omega
    · obtain ⟨o', ho', e, he, hb, hon⟩ := Region.waitsFor_spec h1
      have : o' = o := Option.some.inj (ho'.symm.trans ho)
      subst this
      have h2 := hall e he hb
      have h3 := inv.tail (t - 1) (by omega) (by omega)
      have hs : t - 1 < big.size := by rw [inv.size]; omega
      rw [hon, Array.getD_eq_getD_getElem?, Array.getElem?_eq_getElem hs] at h2
      rw [Array.getD_eq_getD_getElem?, Array.getElem?_eq_getElem hs] at h3
      simp at h2 h3
      rw [h2] at h3; cases h3
  · exact key _ i rfl hm hin hu hr

theorem head_all {Q0 : Act → Prop} {Q' : Exit → Act → World → Prop} {g : Nat} (hok : headOk l n = true) {m : Nat} (hs : waitB l m n = true) (hc : Region.chainB .any l.toArray n = true) (hn : n < l.length)
    (hL : ∀ big a w, C w → Q0 a → HeadInv .any l.toArray n big → (∀ j, j < n → big[j]? = some true) → wpAny P .any l.toArray Q' g big a w) :
    ∀ (f : Nat) (big small : Array Bool) (a : Act) (w : World), C w → Marks l n big small → (∀ j, j < m → small[j]? = some true) → small.toList.count false = f → wpAnyQ P .any (l.take n).toArray C Q0 f small a → wpAny P .any l.toArray Q' (f + g) big a w
  | 0, big, small, a, w, hw, hm, hmm, hcnt, h => by
    rw [Nat.zero_add]
    refine hL big a w hw h.2 hm.inv fun j hj => ?_
    have hjs : j < small.size := by rw [hm.size]; exact hj
    rw [hm.same j hj, Array.getElem?_eq_getElem hjs]
    cases hb : small[j] with
    | true => rfl
    | false =>
      have : false ∈ small.toList := by rw [← hb]; exact Array.mem_toList_iff.2 (Array.getElem_mem hjs)
      have := List.count_pos_iff.2 this
      omega
  | f + 1, big, small, a, w, hw, hm, hmm, hcnt, h => by
    rw [show f + 1 + g = (f + g) + 1 by omega]
    have hne : ∃ i, i < n ∧ small[i]? = some false := by
      have : false ∈ small.toList := List.count_pos_iff.1 (by omega)
      obtain ⟨i, hi, e⟩ := List.getElem_of_mem this
      exact ⟨i, by simpa [hm.size] using hi, by rw [← Array.getElem?_toList, List.getElem?_eq_getElem hi, e]⟩
    obtain ⟨i0, hi0, hu0⟩ := hne
    refine ⟨fun h0 => absurd h0 (ready_some hok (by omega) hm hi0 hu0), fun i hi => ?_⟩
    have hin : i < n := by
      rcases Nat.lt_or_ge i n with h1 | h1
      · exact h1
      · refine absurd hi (not_yet hs hc hn hm.inv i0 ?_ hi0 (by rw [hm.same _ hi0, hu0]) i h1)
        rcases Nat.lt_or_ge i0 m with h2 | h2
        · have := hmm i0 h2; rw [hu0] at this; cases this
        · exact h2
    have hi' := ready_small hok hm hin hi
    have hun := (mem_ready.1 hi').1
    have his : i < small.size := by rw [hm.size]; exact hin
    have hf : small[i] = false := by rw [Array.getD_eq_getD_getElem?, Array.getElem?_eq_getElem his] at hun; exact hun
    refine wpOp_small hok hin hw (fun a' w' hw' hk => head_all hok hs hc hn hL f _ _ a' w' hw' (hm.set hi hin) (fun j hj => by
      rw [Array.getElem?_setIfInBounds]
      have := hmm j hj
      split
      · rename_i e; subst e; first | rfl | rw [if_pos his]
      · exact this) ?_ hk) (h.2 i hi')
    rw [Array.toList_setIfInBounds, List.count_set (by simpa using his)]
    have : small.toList[i]'(by simpa using his) = false := by rw [Array.getElem_toList]; exact hf
    simp [this, hcnt]

theorem wp_region_quiet_tail {id : Nat} {Q : Exit → Act → World → Prop} {a : Act} {w : World} (n : Nat) (hm : P.follows .mixedOrders = true)
    (hB : (Region.lexB .any (l.take n).toArray && headOk l n && decide (n < l.length) && waitB l 0 n && Region.chainB .any l.toArray n && Region.seqB .any l.toArray (l.length - n) n (Array.replicate n true ++ Array.replicate (l.length - n) false)) = true)
    (h : wpQuiet P (l.take n).toArray (fun w' => ∃ m, w' = w.drewN m) (fun a' => ∀ w', (∃ m, w' = w.drewN m) → wpList P l.toArray Q (l.drop n) a' w') (l.take n) a) : (Code.region id l.toArray true).wp P Q a w := by
  simp only [Bool.and_eq_true, decide_eq_true_eq] at hB
  obtain ⟨⟨⟨⟨⟨hB, hok⟩, hn⟩, hs⟩, hc⟩, hseq⟩ := hB
  simp only [Region.lexB, Bool.and_eq_true] at hB
  have h1 := wpAnyQ_lex (C := fun w' => ∃ m, w' = w.drewN m) (md := .any) hB.1 (l.take n) 0 (Array.replicate n false) a (by simp) (by
    have := hB.2
    simp only [List.size_toArray, List.length_take] at this
    rw [Nat.min_eq_left (by omega)] at this
    rw [List.length_take, Nat.min_eq_left (by omega)]; exact this) h
  have inv0 : HeadInv .any l.toArray n (Array.replicate l.toArray.size false) :=
    ⟨by simp, fun j oj _ hl => (by rw [getD_replicate_false] at hl; cases hl), fun t _ ht => getD_in (by simpa using ht) (getD_replicate_false _ _)⟩
  refine wp_region_any hm ?_
  have H := head_all (P := P) (C := fun w' => ∃ m, w' = w.drewN m) (Q' := Q) (g := l.length - n) hok hs hc hn (fun big a' w' hw' hq hinv hall => by
    have e : big = Array.replicate n true ++ Array.replicate (l.length - n) false := by
      refine Array.ext_getElem? fun j => ?_
      rcases Nat.lt_or_ge j n with hj | hj
      · rw [hall j hj, Array.getElem?_append_left (by simpa using hj)]; simp [hj]
      · rw [Array.getElem?_append_right (by simpa using hj)]
        have hsz := hinv.size
        rcases Nat.lt_or_ge j l.length with hj2 | hj2
        · have := hinv.tail j hj (by simpa using hj2)
          have hjs : j < big.size := by rw [hsz]; simpa using hj2
          rw [Array.getD_eq_getD_getElem?, Array.getElem?_eq_getElem hjs] at this
          rw [Array.getElem?_eq_getElem hjs]
          simp at this
          rw [this, Array.size_replicate, Array.getElem?_replicate, if_pos (by omega)]
        · rw [Array.getElem?_eq_none (by rw [hsz]; simpa using hj2), Array.getElem?_eq_none (by simp; omega)]
    subst e
    have := wpAny_of_seq (md := .any) (P := P) (ops := l.toArray) (Q' := Q) (l.drop n) n _ a' w' (fun j => by simp [List.getElem?_drop]) (by rw [List.length_drop]; exact hseq) (hq w' hw')
    rwa [List.length_drop] at this) (l.take n).length (Array.replicate l.toArray.size false) (Array.replicate n false) a { w with drawn := w.drawn + 1 } ⟨1, rfl⟩ ⟨inv0, by simp, fun j hj => by
      rw [Array.getElem?_replicate, Array.getElem?_replicate, if_pos hj, if_pos (by simp; omega)]⟩ (fun j hj => by omega) (by simp; omega) h1
  rw [List.length_take, Nat.min_eq_left (by omega), show n + (l.length - n) = l.toArray.size by simp; omega] at H
  exact H

def NoPan (Q : Exit → Act → World → Prop) : Exit → Act → World → Prop := fun e a w => (∀ c, e ≠ .panic c) ∧ Q e a w
theorem NoPan.normal {Q : Exit → Act → World → Prop} {a : Act} {w : World} (h : Q .normal a w) : NoPan Q .normal a w := ⟨fun c hc => (by cases hc), h⟩
theorem wp_drop {Q : Exit → Act → World → Prop} {o : Oper} {a : Act} {w : World} {K K' : Act → World → Prop} (h : ∀ a w, K a w → K' a w) (hh : o.wp P a w K (NoPan Q)) : o.wp P a w K' Q := by
  unfold Oper.wp at *
  generalize (execOp a.eval o).run P w = r at *
  cases r with
  | ok n w' =>
    cases n <;> simp only [Oper.upon] at hh ⊢ <;>
      first
        | exact h _ _ hh
        | (refine Calls.mono hh (fun e w'' he => ?_)
           cases e with
           | returned u => exact h _ _ he
           | panicked c => exact absurd rfl (he.1 c)
           | outgrown => obtain ⟨a, w, h1⟩ := he; exact ⟨a, w, h1.2⟩)
        | exact Rows.mono hh (fun _ _ he => h _ _ he)
  | halt x w' => cases x <;> simp only [Oper.upon] at hh ⊢; exact absurd rfl (hh.1 _)
theorem wpAny_drop {Q : Exit → Act → World → Prop} {ops : Array Oper} {md : Region.Mode} : ∀ (fuel : Nat) (listed : Array Bool) (a : Act) (w : World), wpAny P md ops (NoPan Q) fuel listed a w → wpAny P md ops Q fuel listed a w
  | 0, _, _, _, h => ⟨h.1, h.2.2⟩
  | fuel + 1, listed, a, w, h => ⟨fun h0 => (h.1 h0).2, fun i hi => by
      have h1 := h.2 i hi
      unfold wpOp at h1 ⊢
      split
      · rename_i ho; simp only [ho] at h1; exact wpAny_drop fuel _ _ _ h1
      · rename_i o ho
        simp only [ho] at h1
        split
        · rename_i hw
          simp only [hw, if_true] at h1
          rcases h1 with h1 | ⟨h1, h2⟩
          · exact .inl (wp_drop (fun a' w' h' => wpAny_drop fuel _ _ _ h') h1)
          · obtain ⟨a', w', h3⟩ := h2
            exact .inr ⟨h1, a', w', h3.2⟩
        · rename_i hw; simp only [hw] at h1; exact wpAny_drop fuel _ _ _ h1⟩

theorem wp_region_move_quiet_tail {id : Nat} {Q : Exit → Act → World → Prop} {a : Act} {w : World} {o0 : Oper} (n : Nat) (x : Operand) (hm : P.follows .mixedOrders = true) (hop : o0.op = .move x) (hgd : o0.guard = none)
    (hB : (Region.noSelect (o0 :: l).toArray && (Region.ready .any (o0 :: l).toArray (Array.replicate (o0 :: l).length false)).contains 0 && Region.free .any (o0 :: l).toArray (Array.replicate (o0 :: l).length false) 0 && Region.noSelect ((o0 :: l).take n).toArray
      && Region.lexFrom .any ((o0 :: l).take n).toArray (n - 1) 1 ((Array.replicate n false).setIfInBounds 0 true) && headOk (o0 :: l) n && decide (n < (o0 :: l).length) && decide (0 < n) && waitB (o0 :: l) 1 n && Region.chainB .any (o0 :: l).toArray n
      && Region.seqB .any (o0 :: l).toArray ((o0 :: l).length - n) n (Array.replicate n true ++ Array.replicate ((o0 :: l).length - n) false)) = true)
    (h : wpQuiet P ((o0 :: l).take n).toArray (fun w' => ∃ m, w' = w.drewN m) (fun a' => ∀ w', (∃ m, w' = w.drewN m) → wpList P (o0 :: l).toArray (NoPan Q) ((o0 :: l).drop n) a' w') ((o0 :: l).take n) a) : (Code.region id (o0 :: l).toArray true).wp P Q a w := by
  simp only [Bool.and_eq_true, decide_eq_true_eq] at hB
  obtain ⟨⟨⟨⟨⟨⟨⟨⟨⟨⟨hB1, hB2⟩, hB3⟩, hB4⟩, hB5⟩, hok⟩, hn⟩, hn0⟩, hs⟩, hc⟩, hseq⟩ := hB
  have h0 : wpQuiet P ((o0 :: l).take n).toArray (fun w' => ∃ m, w' = w.drewN m) (fun a' => ∀ w', (∃ m, w' = w.drewN m) → wpList P (o0 :: l).toArray (NoPan Q) ((o0 :: l).drop n) a' w') (((o0 :: l).take n).drop 1) (a.put o0.dst (a.eval x)) := by
    have hwt : Region.wanted o0 (yielded ((o0 :: l).take n).toArray a.tmps) = true := by unfold Region.wanted; rw [hgd]
    have e : (o0 :: l).take n = o0 :: ((o0 :: l).take n).drop 1 := by
      obtain ⟨k, rfl⟩ : ∃ k, n = k + 1 := ⟨n - 1, by omega⟩
      rfl
    generalize ((o0 :: l).take n).toArray = ops at h hwt ⊢
    rw [e] at h
    simp only [wpQuiet, hwt, if_true] at h
    obtain ⟨v, h1, h2⟩ := h
    have h3 := h1 w ⟨0, rfl⟩
    unfold Oper.quietAt at h3
    rw [BigFrame.run_move x hop] at h3
    rw [h3.2]; exact h2
  clear h
  generalize hl : o0 :: l = L at *
  have hL0 : L.toArray[0]? = some o0 := by rw [← hl]; simp
  have h1 := wpAnyQ_lex (C := fun w' => ∃ m, w' = w.drewN m) (md := .any) hB4 ((L.take n).drop 1) 1 ((Array.replicate n false).setIfInBounds 0 true) _ (by intro j; rw [List.getElem?_drop]; simp) (by
    rw [List.length_drop, List.length_take, Nat.min_eq_left (by omega)]; exact hB5) h0
  have inv0 : HeadInv .any L.toArray n (Array.replicate L.length false) :=
    ⟨by simp, fun j oj _ hl => (by rw [getD_replicate_false] at hl; cases hl), fun t _ ht => getD_in (by simpa using ht) (getD_replicate_false _ _)⟩
  have hr0 : 0 ∈ Region.ready .any L.toArray (Array.replicate L.length false) := by simpa using hB2
  have hm0 : Marks L n (Array.replicate L.length false) (Array.replicate n false) := ⟨inv0, by simp, fun j hj => by
      rw [Array.getElem?_replicate, Array.getElem?_replicate, if_pos hj, if_pos (by omega)]⟩
  refine wp_region_any hm (wpAny_drop _ _ _ _ ?_)
  have hfree := Region.free_spec hL0 hB3
  have hwt : Region.wanted o0 (yielded L.toArray a.tmps) = true := by unfold Region.wanted; rw [hgd]
  have key : wpAny P .any L.toArray (NoPan Q) (L.length - 1) ((Array.replicate L.length false).setIfInBounds 0 true) (a.put o0.dst (a.eval x)) { w with drawn := w.drawn + 1 } := by
    have H := head_all (P := P) (C := fun w' => ∃ m, w' = w.drewN m) (Q' := NoPan Q) (g := L.length - n) (m := 1) hok hs hc hn (fun big a' w' hw' hq hinv hall => by
      have e : big = Array.replicate n true ++ Array.replicate (L.length - n) false := by
        refine Array.ext_getElem? fun j => ?_
        rcases Nat.lt_or_ge j n with hj | hj
        · rw [hall j hj, Array.getElem?_append_left (by simpa using hj)]; simp [hj]
        · rw [Array.getElem?_append_right (by simpa using hj)]
          have hsz := hinv.size
          rcases Nat.lt_or_ge j L.length with hj2 | hj2
          · have := hinv.tail j hj (by simpa using hj2)
            have hjs : j < big.size := by rw [hsz]; simpa using hj2
            rw [Array.getD_eq_getD_getElem?, Array.getElem?_eq_getElem hjs] at this
            rw [Array.getElem?_eq_getElem hjs]
            simp at this
            rw [this, Array.size_replicate, Array.getElem?_replicate, if_pos (by omega)]
          · rw [Array.getElem?_eq_none (by rw [hsz]; simpa using hj2), Array.getElem?_eq_none (by simp; omega)]
      subst e
      have := wpAny_of_seq (md := .any) (P := P) (ops := L.toArray) (Q' := NoPan Q) (L.drop n) n _ a' w' (fun j => by simp [List.getElem?_drop]) (by rw [List.length_drop]; exact hseq) (hq w' hw')
      rwa [List.length_drop] at this) ((L.take n).drop 1).length _ _ _ { w with drawn := w.drawn + 1 } ⟨1, rfl⟩ (hm0.set hr0 hn0) (fun j hj => by
        obtain rfl : j = 0 := by omega
        rw [Array.getElem?_setIfInBounds, if_pos rfl, if_pos (by simpa using hn0)]) (by
        rw [Array.toList_setIfInBounds, List.count_set (by simpa using hn0)]
        simp; omega) h1
    rw [List.length_drop, List.length_take, Nat.min_eq_left (by omega), show n - 1 + (L.length - n) = L.length - 1 by omega] at H
    exact H
  have hsz : L.toArray.size = (L.length - 1) + 1 := by simp; omega
  have := wpAny_first hL0 (Region.noSelect_spec hB1) (fun c a w hp => absurd rfl (hp.1 c)) (L.length - 1) _ a _ hfree hr0 (.inl ⟨hwt, fun w => BigFrame.run_move x hop w⟩) key
  rw [hsz, show L.length - 1 + 1 = L.length by omega]
  rw [show L.length - 1 + 1 = L.length by omega] at this
  exact this
end
end Go
end
section
namespace Go.Att
open Go.RowKit
structure SP where
  p : Value → World → Prop
  st : ∀ v W W', p v W → Ext W W' → p v W'
def SP.top : SP := ⟨fun _ _ => True, fun _ _ _ _ _ => trivial⟩
def SP.eq (x : Value) : SP := ⟨fun v _ => v = x, fun _ _ _ h _ => h⟩
def SP.ints (l : List Int) : SP := ⟨fun v W => Ints W v l, fun _ _ _ h hx => h.ext hx⟩
def SP.rows (L : List (List Int)) : SP := ⟨fun v W => Rws W v L, fun _ _ _ h hx => h.ext hx⟩
def SP.own (B e sz n : Nat) (xs : List Value) : SP := ⟨fun v W => W.ownsRow B e sz v n xs, fun _ _ _ h hx => own_ext h hx⟩
def SP.both (a b : SP) : SP := ⟨fun v W => a.p v W ∧ b.p v W, fun _ _ _ h hx => ⟨a.st _ _ _ h.1 hx, b.st _ _ _ h.2 hx⟩⟩
def SP.is (φ : Value → Prop) : SP := ⟨fun v _ => φ v, fun _ _ _ h _ => h⟩
def SP.lit (e : TypeId) (xs : List Value) : SP := ⟨fun v W => ∃ g, v = .slice (some ⟨g, 0, none⟩) xs.length xs.length ∧ W.heap[g]? = some (.cells xs.toArray e (0, 0)), fun v W W' h hx => by
  obtain ⟨g, h1, h2⟩ := h
  exact ⟨g, h1, by rw [hx.below.block g (Array.getElem?_eq_some_iff.1 h2).1]; exact h2⟩⟩
theorem own_lit {W : World} {g : Nat} {e : TypeId} {xs : List Value} (hg : W.heap[g]? = some (.cells xs.toArray e (0, 0))) (hm : xs.length ≤ maxLen) : W.ownsRow g e 1 (.slice (some ⟨g, 0, none⟩) xs.length xs.length) xs.length xs :=
  ⟨by simp, .inr ⟨g, xs.length, xs.toArray, rfl, Nat.le_refl _, hg, Nat.le_refl _, hm, by simp, by simp⟩⟩
theorem run_append_lit {P : Program} {W : World} {t e bytes : Nat} {z : Value} (ht : SlT P t e 1 bytes z) (hz : z.cells.size = 1) {g : Nat} {xs : List Value} (hg : W.heap[g]? = some (.cells xs.toArray e (0, 0))) {vl : Value} {m : Nat} {cs : List Value} (hl : Sl W 1 vl m cs) (h1 : ∀ u ∈ cs, u.oneCell' = true)
    (h63 : xs.length + m ≤ 4294967296) (hby : bytes ≤ 4096) (ty : TypeId) :
    ∃ v' w', (Builtin.append_ #[t, t] ty #[.slice (some ⟨g, 0, none⟩) xs.length xs.length, vl]).run P W = .ok v' w' ∧ Ext W w' ∧ Sl w' 1 v' (xs.length + m) (xs ++ cs) := by
  obtain ⟨i, hi, hiz, his, hib⟩ := ht.inf
  have hB : (xs.length + m) * bytes ≤ 4294967296 * 4096 := Nat.mul_le_mul h63 hby
  have hml : xs.length ≤ maxLen := by unfold maxLen; omega
  have hown := own_lit hg hml
  have hgl := (Array.getElem?_eq_some_iff.1 hg).1
  obtain ⟨ao, cap, rfl, h2, h3, h4, h5⟩ := hl
  rcases Nat.eq_zero_or_pos m with h0 | h0
  · subst h0
    have hcs : cs = [] := List.eq_nil_of_length_eq_zero (by simpa using h2)
    subst hcs
    refine ⟨.slice (some ⟨g, 0, none⟩) xs.length xs.length, W, ?_, Ext.refl _, by rw [List.append_nil]; exact Sl.of_own hown (by omega)⟩
    cases ao <;> simp [Builtin.append_, run_underlying ht.und, sizeOf, typeInfo, hi, Builtin.lenOf, Builtin.firstCells, loadCells, loadCellsFrom, storeCells]
  · obtain ⟨b, off, rfl, _⟩ := h5 0 (by omega)
    have hnews : ∀ j u, cs[j]? = some u → W.cell? ((⟨b, off, none⟩ : Addr).add j) = some u := fun j u hu => by
      obtain ⟨hj, rfl⟩ := List.getElem?_eq_some_iff.1 hu
      obtain ⟨b', off', hb', hc'⟩ := h5 j hj
      obtain ⟨rfl, rfl⟩ : b = b' ∧ off = off' := by simpa using hb'
      rw [Addr.add_lit]; exact hc'
    obtain ⟨v', w', hr, k1, k2, _⟩ := run_append_own (P := P) W g t ty e i z 1 bytes ht.und hi hiz his hib hz (by omega) _ _ _ hown ⟨b, off, none⟩ m cap cs (by omega) hnews h1 (by unfold maxLen; omega) (by omega) (by omega)
    have hr2 := run_append_grow (P := P) W t ty e i z ht.und hi hiz ⟨g, 0, none⟩ xs.length xs.length xs (by rw [his]; simp) (fun j u hu => by
      have := hown.cells (g := g) rfl j u hu
      exact this) ⟨b, off, none⟩ m cap cs (by rw [his]; omega) hnews (by omega) (by omega) (growslice_fits (by omega) (by rw [hib]; omega))
    refine ⟨v', w', hr, ?_, Sl.of_own k1 (by omega)⟩
    rw [hr] at hr2
    injection hr2 with e1 e2
    rw [e2]
    exact (Ext.drew W).trans (Ext.alloc _ _)
def fillL (D : List Nat) (vs : Nat → Value) : Nat → List Value → List Value
  | _, [] => []
  | d, x :: t => (if D.contains d then vs d else x) :: fillL D vs (d + 1) t
def fillA (D : List Nat) (vs : Nat → Value) (a : Act) : Act := { tmps := (fillL D vs 0 a.tmps.toList).toArray, defers := a.defers }
def upV (vs : Nat → Value) (d : Nat) (v : Value) : Nat → Value := fun i => if i = d then v else vs i
theorem fillL_get (D : List Nat) (vs : Nat → Value) : ∀ (k : Nat) (t : List Value) (i : Nat), (fillL D vs k t)[i]? = t[i]?.map fun x => if D.contains (k + i) then vs (k + i) else x
  | k, [], i => by simp [fillL]
  | k, x :: t, 0 => by simp [fillL]
  | k, x :: t, i + 1 => by
    simp only [fillL, List.getElem?_cons_succ]
    rw [fillL_get D vs (k + 1) t i, show k + 1 + i = k + (i + 1) by omega]
theorem fillA_self (D : List Nat) (a : Act) : fillA D (fun d => a.tmps.getD d undef) a = a := by
  have h : (fillL D (fun d => a.tmps.getD d undef) 0 a.tmps.toList).toArray = a.tmps := by
    apply Array.ext_getElem?
    intro i
    rw [List.getElem?_toArray, fillL_get, Nat.zero_add, Array.getElem?_toList]
    cases h : a.tmps[i]? with
    | none => rfl
    | some x =>
      simp only [Option.map_some]
      split
      · rw [Array.getD_eq_getD_getElem?, h]; rfl
      · rfl
  unfold fillA
  rw [h]
theorem fillA_put (D : List Nat) (vs : Nat → Value) (a : Act) {d : Nat} (hd : D.contains d = true) (v : Value) : (fillA D vs a).put (some d) v = fillA D (upV vs d v) a := by
  have h : (fillL D vs 0 a.tmps.toList).toArray.setIfInBounds d v = (fillL D (upV vs d v) 0 a.tmps.toList).toArray := by
    apply Array.ext_getElem?
    intro i
    rw [Array.getElem?_setIfInBounds, List.getElem?_toArray, List.getElem?_toArray, fillL_get, fillL_get, Nat.zero_add]
    by_cases e : d = i
    · subst e
      rw [if_pos rfl]
      have hs : (fillL D vs 0 a.tmps.toList).toArray.size = (fillL D vs 0 a.tmps.toList).length := rfl
      cases h : a.tmps.toList[d]? with
      | none =>
        have : ¬ d < (fillL D vs 0 a.tmps.toList).toArray.size := fun hlt => by
          rw [hs] at hlt
          have := fillL_get D vs 0 a.tmps.toList d
          rw [h, List.getElem?_eq_getElem hlt] at this
          cases this
        rw [if_neg this]; rfl
      | some x =>
        have : d < (fillL D vs 0 a.tmps.toList).toArray.size := by
          rw [hs]
          apply Classical.byContradiction
          intro hn
          have := fillL_get D vs 0 a.tmps.toList d
          rw [h, List.getElem?_eq_none (by omega)] at this
          cases this
        rw [if_pos this]
        simp [upV]
        intro hc
        rw [List.contains_iff_mem] at hd
        exact absurd hd hc
    · rw [if_neg e]
      unfold upV
      simp only [if_neg (fun h : i = d => e h.symm)]
  show ({ tmps := _, defers := _ } : Act) = _
  unfold fillA
  rw [← h]
def dstN (l : List Oper) (j : Nat) : Nat := ((l[j]?).bind (·.dst)).getD 0
def dstL (l : List Oper) (n : Nat) : List Nat := (l.take n).filterMap (·.dst)
def apartB (l : List Oper) (n : Nat) : Bool := (List.range n).all fun i => match l[i]? with
  | none => false
  | some o => o.guard.isNone && (List.range n).all fun j => i == j || o.dst.isNone || ((l[j]?).bind (·.dst)) != o.dst
def hasDep (l : List Oper) (i j : Nat) : Bool := match l[i]? with
  | none => false
  | some o => o.after.any fun e => Region.binds .any e && e.on == j
def slotV (a : Act) : Option Nat → Value
  | none => undef
  | some d => a.tmps.getD d undef
def ExtStep (P : Program) (l : List Oper) (n : Nat) (φ : List SP) (Q : Exit → Act → World → Prop) (w : World) (a0 : Act) (i : Nat) : Prop :=
  match l[i]? with
  | none => True
  | some o => ∀ (vs : Nat → Value) (W : World), Ext w W → (∀ j, hasDep l i j = true → (φ.getD j SP.top).p (vs (dstN l j)) W) →
      wpList P l.toArray (Exit.then (fun a' W' => a'.defers = a0.defers ∧ Ext W W' ∧ (φ.getD i SP.top).p (slotV a' o.dst) W') Q) [o] (fillA (dstL l n) vs a0) W
theorem ExtStep.mk {P : Program} {l : List Oper} {n : Nat} {φ : List SP} {Q : Exit → Act → World → Prop} {w : World} {a0 : Act} {i : Nat} {o : Oper} (ho : l[i]? = some o)
    (h : ∀ (vs : Nat → Value) (W : World), Ext w W → (∀ j, hasDep l i j = true → (φ.getD j SP.top).p (vs (dstN l j)) W) →
      wpList P l.toArray (Exit.then (fun a' W' => a'.defers = a0.defers ∧ Ext W W' ∧ (φ.getD i SP.top).p (slotV a' o.dst) W') Q) [o] (fillA (dstL l n) vs a0) W) : ExtStep P l n φ Q w a0 i := by
  unfold ExtStep; rw [ho]; exact h
def ExtSteps (P : Program) (l : List Oper) (n : Nat) (φ : List SP) (Q : Exit → Act → World → Prop) (w : World) (a0 : Act) : Nat → Nat → Prop
  | 0, _ => True
  | m + 1, k => ExtStep P l n φ Q w a0 k ∧ ExtSteps P l n φ Q w a0 m (k + 1)
theorem ExtSteps.at {P : Program} {l : List Oper} {n : Nat} {φ : List SP} {Q : Exit → Act → World → Prop} {w : World} {a0 : Act} : ∀ {m k : Nat}, ExtSteps P l n φ Q w a0 m k → ∀ i, k ≤ i → i < k + m → ExtStep P l n φ Q w a0 i
  | 0, k, _, i, h1, h2 => by omega
  | m + 1, k, h, i, h1, h2 => by
    rcases Nat.lt_or_eq_of_le h1 with h3 | rfl
    · exact h.2.at i h3 (by omega)
    · exact h.1
section
variable {P : Program} {l : List Oper} {n : Nat}
theorem wp_put {o : Oper} {a : Act} {W : World} {K : Act → World → Prop} {Q : Exit → Act → World → Prop} (h : o.wp P a W (fun a' W' => a'.defers = a.defers ∧ K a' W') Q) : o.wp P a W (fun a' W' => (∃ v, a' = a.put o.dst v) ∧ K a' W') Q := by
  unfold Oper.wp at *
  generalize (execOp a.eval o).run P W = r at *
  have hdf : ∀ (d : Deferred), ({ a with defers := d :: a.defers }.put o.dst undef).defers ≠ a.defers := fun d h => by
    have : ({ a with defers := d :: a.defers }.put o.dst undef).defers = d :: a.defers := by unfold Act.put; cases o.dst <;> rfl
    rw [this] at h
    have := congrArg List.length h
    simp at this
  cases r with
  | ok x w' =>
    cases x <;> simp only [Oper.upon] at h ⊢ <;>
      first
        | exact ⟨⟨_, rfl⟩, h.2⟩
        | exact absurd h.1 (hdf _)
        | (refine Calls.mono h (fun e w'' he => ?_)
           cases e with
           | returned u => exact ⟨⟨_, rfl⟩, he.2⟩
           | panicked c => exact he
           | outgrown => exact he)
        | exact Rows.mono h (fun _ _ he => ⟨⟨_, rfl⟩, he.2⟩)
  | halt x w' => cases x <;> simp only [Oper.upon] at h ⊢ <;> exact h
theorem wp_unthen {o : Oper} {a : Act} {W : World} {K K' : Act → World → Prop} {Q : Exit → Act → World → Prop} (hK : ∀ a w, K a w → K' a w) (h : o.wp P a W K (Exit.then K' Q)) : o.wp P a W K' Q := by
  unfold Oper.wp at *
  generalize (execOp a.eval o).run P W = r at *
  cases r with
  | ok x w' =>
    cases x <;> simp only [Oper.upon] at h ⊢ <;>
      first
        | exact hK _ _ h
        | (refine Calls.mono h (fun e w'' he => ?_)
           cases e with
           | returned u => exact hK _ _ he
           | panicked c => exact he
           | outgrown => exact he)
        | exact Rows.mono h (fun _ _ he => hK _ _ he)
  | halt x w' => cases x <;> simp only [Oper.upon] at h ⊢ <;> exact h
theorem mem_dstL {j d : Nat} {o : Oper} (hj : j < n) (ho : l[j]? = some o) (hd : o.dst = some d) : (dstL l n).contains d = true := by
  rw [List.contains_iff_mem]
  unfold dstL
  rw [List.mem_filterMap]
  exact ⟨o, List.mem_iff_getElem?.2 ⟨j, by rw [List.getElem?_take, if_pos hj]; exact ho⟩, hd⟩
theorem slot_fill (D : List Nat) (vs : Nat → Value) (a : Act) {d : Nat} (hd : D.contains d = true) (hlt : d < a.tmps.size) : slotV (fillA D vs a) (some d) = vs d := by
  show (fillL D vs 0 a.tmps.toList).toArray.getD d undef = vs d
  rw [Array.getD_eq_getD_getElem?, List.getElem?_toArray, fillL_get, Array.getElem?_toList, Array.getElem?_eq_getElem hlt]
  simp only [Option.map_some, Nat.zero_add, hd, if_true, Option.getD_some]
def DoneE (l : List Oper) (n : Nat) (φ : List SP) (big : Array Bool) (vs : Nat → Value) (W : World) : Prop := ∀ j, j < n → big.getD j false = true → ∀ d, ((l[j]?).bind (·.dst)) = some d → (φ.getD j SP.top).p (vs d) W
theorem ext_all {φ : List SP} {Q' : Exit → Act → World → Prop} {g : Nat} {w : World} {a0 : Act} (hok : headOk l n = true) (hap : apartB l n = true) (hsz : (dstL l n).all (fun d => decide (d < a0.tmps.size)) = true) (hs : waitB l 0 n = true) (hc : Region.chainB .any l.toArray n = true) (hn : n < l.length)
    (hst : ∀ i, i < n → ExtStep P l n φ Q' w a0 i) (hnd : ∀ i, i < n → ∀ j, j < n → hasDep l i j = true → ((l[j]?).bind (·.dst)).isSome = true) (hdl : ∀ i, i < n → ∀ j, hasDep l i j = true → j < n)
    (hL : ∀ big vs W, Ext w W → DoneE l n φ big vs W → HeadInv .any l.toArray n big → (∀ j, j < n → big[j]? = some true) → wpAny P .any l.toArray Q' g big (fillA (dstL l n) vs a0) W) :
    ∀ (f : Nat) (big small : Array Bool) (vs : Nat → Value) (W : World), Ext w W → Marks l n big small → small.toList.count false = f → DoneE l n φ big vs W → wpAny P .any l.toArray Q' (f + g) big (fillA (dstL l n) vs a0) W
  | 0, big, small, vs, W, hx, hm, hcnt, hd => by
    rw [Nat.zero_add]
    refine hL big vs W hx hd hm.inv fun j hj => ?_
    have hjs : j < small.size := by rw [hm.size]; exact hj
    rw [hm.same j hj, Array.getElem?_eq_getElem hjs]
    cases hb : small[j] with
    | true => rfl
    | false =>
      have : false ∈ small.toList := by rw [← hb]; exact Array.mem_toList_iff.2 (Array.getElem_mem hjs)
      have := List.count_pos_iff.2 this
      omega
  | f + 1, big, small, vs, W, hx, hm, hcnt, hd => by
    rw [show f + 1 + g = (f + g) + 1 by omega]
    have hne : ∃ i, i < n ∧ small[i]? = some false := by
      have : false ∈ small.toList := List.count_pos_iff.1 (by omega)
      obtain ⟨i, hi, e⟩ := List.getElem_of_mem this
      exact ⟨i, by simpa [hm.size] using hi, by rw [← Array.getElem?_toList, List.getElem?_eq_getElem hi, e]⟩
    obtain ⟨i0, hi0, hu0⟩ := hne
    refine ⟨fun h0 => absurd h0 (ready_some hok (by omega) hm hi0 hu0), fun i hi => ?_⟩
    have hin : i < n := by
      rcases Nat.lt_or_ge i n with h1 | h1
      · exact h1
      · exact absurd hi (not_yet hs hc hn hm.inv i0 (Nat.zero_le _) hi0 (by rw [hm.same _ hi0, hu0]) i h1)
    obtain ⟨hun0, o, ho0, hall⟩ := mem_ready.1 hi
    have ho : l[i]? = some o := by simpa using ho0
    have hrd := hm.getD hin true
    have his : i < small.size := by rw [hm.size]; exact hin
    have hf : small[i] = false := by
      have := hm.same i hin
      rw [Array.getElem?_eq_getElem his] at this
      rw [Array.getD_eq_getD_getElem?, this] at hun0
      exact hun0
    have hgd : o.guard = none := by
      have := List.all_eq_true.1 hap i (List.mem_range.2 hin)
      simp only [ho, Bool.and_eq_true, Option.isNone_iff_eq_none] at this
      exact this.1
    have hwt : ∀ z, Region.wanted o z = true := fun z => by unfold Region.wanted; rw [hgd]
    have h1 := hst i hin
    unfold ExtStep at h1
    simp only [ho] at h1
    have h2 := h1 vs W hx (fun j hj => by
      have hjn := hdl i hin j hj
      have hsm := hnd i hin j hjn hj
      have hbj : big.getD j false = true := by
        unfold hasDep at hj
        simp only [ho] at hj
        obtain ⟨q, hq, h3⟩ := Array.any_eq_true.1 hj
        simp only [Bool.and_eq_true, beq_iff_eq] at h3
        have := hall o.after[q] (Array.getElem_mem hq) h3.1
        rwa [h3.2] at this
      obtain ⟨d, hdd⟩ := Option.isSome_iff_exists.1 hsm
      have := hd j hjn hbj d hdd
      have e2 : dstN l j = d := by unfold dstN; rw [hdd]; rfl
      rw [e2]; exact this)
    simp only [wpList, hwt, if_true] at h2
    unfold wpOp
    simp only [ho0, hwt, if_true]
    have hcnt' : ∀ (h : i < small.toList.length), (small.setIfInBounds i true).toList.count false = f := fun _ => by
      rw [Array.toList_setIfInBounds, List.count_set (by simpa using his)]
      have : small.toList[i]'(by simpa using his) = false := by rw [Array.getElem_toList]; exact hf
      simp [this, hcnt]
    have hstep : ∀ a' W', ((∃ v, a' = (fillA (dstL l n) vs a0).put o.dst v) ∧ Ext W W' ∧ (φ.getD i SP.top).p (slotV a' o.dst) W') → wpAny P .any l.toArray Q' (f + g) (big.setIfInBounds i true) a' W' := by
      rintro a' W' ⟨⟨v, rfl⟩, hxx, hph⟩
      have hm' := hm.set hi hin
      cases hdst : o.dst with
      | none =>
        have e : (fillA (dstL l n) vs a0).put none v = fillA (dstL l n) vs a0 := rfl
        rw [e]
        refine ext_all hok hap hsz hs hc hn hst hnd hdl hL f _ _ vs W' (hx.trans hxx) hm' (hcnt' (by simpa using his)) fun j hj hb d hd' => ?_
        refine (φ.getD j SP.top).st _ _ _ (hd j hj ?_ d hd') hxx
        by_cases e : i = j
        · subst e; rw [ho] at hd'; simp [hdst] at hd'
        · rw [getD_set_ne false e] at hb; exact hb
      | some d0 =>
        have hin0 := mem_dstL hin ho hdst
        rw [hdst] at hph
        rw [fillA_put _ _ _ hin0] at hph ⊢
        refine ext_all hok hap hsz hs hc hn hst hnd hdl hL f _ _ _ W' (hx.trans hxx) hm' (hcnt' (by simpa using his)) fun j hj hb d hd' => ?_
        by_cases e : i = j
        · subst e
          rw [ho] at hd'
          have : d0 = d := by simpa [hdst] using hd'
          subst this
          have hsl : slotV (fillA (dstL l n) (upV vs d0 v) a0) (some d0) = upV vs d0 v d0 := slot_fill _ _ _ hin0 (by
            have := List.all_eq_true.1 hsz d0 (List.contains_iff_mem.1 hin0)
            simpa using this)
          rw [hsl] at hph
          exact hph
        · rw [getD_set_ne false e] at hb
          have hne2 : d ≠ d0 := fun h => by
            subst h
            have h4 := List.all_eq_true.1 hap i (List.mem_range.2 hin)
            simp only [ho, Bool.and_eq_true] at h4
            have h5 := List.all_eq_true.1 h4.2 j (List.mem_range.2 hj)
            rw [hd', hdst] at h5
            simp [e] at h5
          have : upV vs d0 v d = vs d := by unfold upV; rw [if_neg hne2]
          rw [this]
          exact (φ.getD j SP.top).st _ _ _ (hd j hj hb d hd') hxx
    rcases h2 with h2 | ⟨h2, a9, w9, h3⟩
    · refine .inl (Oper.wp_mono hstep (wp_put ?_))
      exact wp_unthen (fun a' W' h => h) h2
    · exact .inr ⟨h2, a9, w9, h3⟩
def AllE (l : List Oper) (φ : List SP) (vs : Nat → Value) (W : World) : Nat → Prop
  | 0 => True
  | j + 1 => AllE l φ vs W j ∧ ((l[j]?).bind (·.dst) = none ∨ (φ.getD j SP.top).p (vs (dstN l j)) W)
theorem allE_of {φ : List SP} {vs : Nat → Value} {W : World} : ∀ (m : Nat), (∀ j, j < m → ∀ d, ((l[j]?).bind (·.dst)) = some d → (φ.getD j SP.top).p (vs d) W) → AllE l φ vs W m
  | 0, _ => trivial
  | m + 1, h => by
    refine ⟨allE_of m fun j hj => h j (by omega), ?_⟩
    cases hd : (l[m]?).bind (·.dst) with
    | none => exact .inl rfl
    | some d => exact .inr (by have := h m (by omega) d hd; unfold dstN; rw [hd]; exact this)
theorem AllE.at {φ : List SP} {vs : Nat → Value} {W : World} : ∀ {m : Nat}, AllE l φ vs W m → ∀ j, j < m → ((l[j]?).bind (·.dst)).isSome = true → (φ.getD j SP.top).p (vs (dstN l j)) W
  | 0, _, j, hj, _ => by omega
  | m + 1, h, j, hj, hs => by
    rcases Nat.lt_or_eq_of_le (Nat.lt_succ_iff.1 hj) with h1 | rfl
    · exact h.1.at j h1 hs
    · rcases h.2 with h2 | h2
      · rw [h2] at hs; cases hs
      · exact h2
theorem wp_region_ext {id : Nat} {Q : Exit → Act → World → Prop} {a : Act} {w : World} (n : Nat) (φ : List SP) (hm : P.follows .mixedOrders = true)
    (hB : (headOk l n && apartB l n && decide (n < l.length) && waitB l 0 n && Region.chainB .any l.toArray n && Region.seqB .any l.toArray (l.length - n) n (Array.replicate n true ++ Array.replicate (l.length - n) false)
      && (List.range n).all (fun i => (List.range l.length).all fun j => !hasDep l i j || (decide (j < n) && ((l[j]?).bind (·.dst)).isSome))) = true)
    (hsz : (dstL l n).all (fun d => decide (d < a.tmps.size)) = true)
    (hst : ExtSteps P l n φ Q w a n 0)
    (h : ∀ (vs : Nat → Value) (W : World), Ext w W → AllE l φ vs W n → wpList P l.toArray Q (l.drop n) (fillA (dstL l n) vs a) W) : (Code.region id l.toArray true).wp P Q a w := by
  simp only [Bool.and_eq_true, decide_eq_true_eq] at hB
  obtain ⟨⟨⟨⟨⟨⟨hok, hap⟩, hn⟩, hs⟩, hc⟩, hseq⟩, hdp⟩ := hB
  have hdep : ∀ i, i < n → ∀ j, hasDep l i j = true → j < n ∧ ((l[j]?).bind (·.dst)).isSome = true := fun i hi j hj => by
    have h1 := List.all_eq_true.1 hdp i (List.mem_range.2 hi)
    have hjl : j < l.length := by
      have h2 := hj
      unfold hasDep at h2
      have hil : i < l.length := by omega
      rw [List.getElem?_eq_getElem hil] at h2
      simp only at h2
      obtain ⟨q, hq, h3⟩ := Array.any_eq_true.1 h2
      simp only [Bool.and_eq_true, beq_iff_eq] at h3
      have := (headOk_spec hok hi (List.getElem?_eq_getElem hil)).2 _ (Array.getElem_mem hq) h3.1
      omega
    have h2 := List.all_eq_true.1 h1 j (List.mem_range.2 hjl)
    rw [hj] at h2
    simpa using h2
  have inv0 : HeadInv .any l.toArray n (Array.replicate l.toArray.size false) :=
    ⟨by simp, fun j oj _ hl => (by rw [getD_replicate_false] at hl; cases hl), fun t _ ht => getD_in (by simpa using ht) (getD_replicate_false _ _)⟩
  refine wp_region_any hm ?_
  have H := ext_all (P := P) (φ := φ) (Q' := Q) (g := l.length - n) (w := w) (a0 := a) hok hap hsz hs hc hn (fun i hi => hst.at i (Nat.zero_le _) (by omega)) (fun i hi j hj hd => (hdep i hi j hd).2) (fun i hi j hd => (hdep i hi j hd).1) (fun big vs W hx hd hinv hall => by
    have e : big = Array.replicate n true ++ Array.replicate (l.length - n) false := by
      refine Array.ext_getElem? fun j => ?_
      rcases Nat.lt_or_ge j n with hj | hj
      · rw [hall j hj, Array.getElem?_append_left (by simpa using hj)]; simp [hj]
      · rw [Array.getElem?_append_right (by simpa using hj)]
        have hsz := hinv.size
        rcases Nat.lt_or_ge j l.length with hj2 | hj2
        · have := hinv.tail j hj (by simpa using hj2)
          have hjs : j < big.size := by rw [hsz]; simpa using hj2
          rw [Array.getD_eq_getD_getElem?, Array.getElem?_eq_getElem hjs] at this
          rw [Array.getElem?_eq_getElem hjs]
          simp at this
          rw [this, Array.size_replicate, Array.getElem?_replicate, if_pos (by omega)]
        · rw [Array.getElem?_eq_none (by rw [hsz]; simpa using hj2), Array.getElem?_eq_none (by simp; omega)]
    have hall' : AllE l φ vs W n := allE_of n fun j hj d hd' => hd j hj (by rw [Array.getD_eq_getD_getElem?, hall j hj]; rfl) d hd'
    subst e
    have := wpAny_of_seq (md := .any) (P := P) (ops := l.toArray) (Q' := Q) (l.drop n) n _ _ W (fun j => by simp [List.getElem?_drop]) (by rw [List.length_drop]; exact hseq) (h vs W hx hall')
    rwa [List.length_drop] at this) n (Array.replicate l.toArray.size false) (Array.replicate n false) (fun d => a.tmps.getD d undef) { w with drawn := w.drawn + 1 } (Ext.drewN w 1) ⟨inv0, by simp, fun j hj => by
      rw [Array.getElem?_replicate, Array.getElem?_replicate, if_pos hj, if_pos (by simp; omega)]⟩ (by simp) (fun j _ hb => by rw [getD_replicate_false] at hb; cases hb)
  rw [show n + (l.length - n) = l.toArray.size by simp; omega, fillA_self] at H
  exact H
end
end Go.Att
end
