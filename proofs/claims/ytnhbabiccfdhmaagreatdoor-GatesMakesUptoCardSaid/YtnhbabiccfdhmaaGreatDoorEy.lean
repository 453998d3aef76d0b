/- A region that draws its order, each of whose first n operations turns one block at most and whose others stand in one order. No program in sight. -/
import Derived.Test.YtnhbabiccfdhmaaGreatDoorEx
namespace Go.Att
open Go.RowKit
/-- What is said of a value. -/
structure SG where
  p : Value → World → Prop
def SG.top : SG := ⟨fun _ _ => True⟩
def SG.eq (x : Value) : SG := ⟨fun v _ => v = x⟩
/-- What operation j turns leaves what is said of the others. -/
def StabG (n : Nat) (φ : List SG) (ψ : List (World → Prop)) (bl : List (Option Nat)) : Prop :=
  (∀ i j, i < n → j < n → i ≠ j → ∀ v W W', (φ.getD i SG.top).p v W → W.grownBy W' (bl.getD j none) → (φ.getD i SG.top).p v W') ∧
  (∀ i j, i < n → j < n → i ≠ j → ∀ W W', ψ.getD i (fun _ => True) W → W.grownBy W' (bl.getD j none) → ψ.getD i (fun _ => True) W')
/-- Operation i does its work wherever those that it waits for have done theirs. -/
def RelStep (P : Program) (l : List Oper) (n : Nat) (φ : List SG) (ψ : List (World → Prop)) (bl : List (Option Nat)) (Q : Exit → Act → World → Prop) (a0 : Act) (i : Nat) : Prop :=
  match l[i]? with
  | none => True
  | some o => ∀ (vs : Nat → Value) (W : World), ψ.getD i (fun _ => True) W → (∀ j, hasDep l i j = true → (φ.getD j SG.top).p (vs (dstN l j)) W) →
      wpList P l.toArray (Exit.then (fun a' W' => a'.defers = a0.defers ∧ W.grownBy W' (bl.getD i none) ∧ (φ.getD i SG.top).p (slotV a' o.dst) W') Q) [o] (fillA (dstL l n) vs a0) W
theorem RelStep.mk {P : Program} {l : List Oper} {n : Nat} {φ : List SG} {ψ : List (World → Prop)} {bl : List (Option Nat)} {Q : Exit → Act → World → Prop} {a0 : Act} {i : Nat} {o : Oper} (ho : l[i]? = some o)
    (h : ∀ (vs : Nat → Value) (W : World), ψ.getD i (fun _ => True) W → (∀ j, hasDep l i j = true → (φ.getD j SG.top).p (vs (dstN l j)) W) →
      wpList P l.toArray (Exit.then (fun a' W' => a'.defers = a0.defers ∧ W.grownBy W' (bl.getD i none) ∧ (φ.getD i SG.top).p (slotV a' o.dst) W') Q) [o] (fillA (dstL l n) vs a0) W) : RelStep P l n φ ψ bl Q a0 i := by
  unfold RelStep; rw [ho]; exact h
section
variable {P : Program} {l : List Oper} {n : Nat}
theorem getD_set_self {big : Array Bool} {i : Nat} (h : i < big.size) : (big.setIfInBounds i true).getD i false = true := by simp [h]
/-- What is said of those that are done; and of those that are not. -/
def DoneG (l : List Oper) (n : Nat) (φ : List SG) (big : Array Bool) (vs : Nat → Value) (W : World) : Prop := ∀ j, j < n → big.getD j false = true → ∀ d, ((l[j]?).bind (·.dst)) = some d → (φ.getD j SG.top).p (vs d) W
def PsiG (n : Nat) (ψ : List (World → Prop)) (big : Array Bool) (W : World) : Prop := ∀ j, j < n → big.getD j false = false → ψ.getD j (fun _ => True) W
theorem rel_all {φ : List SG} {ψ : List (World → Prop)} {bl : List (Option Nat)} {Q' : Exit → Act → World → Prop} {g : Nat} {a0 : Act} (hok : headOk l n = true) (hap : apartB l n = true) (hsz : (dstL l n).all (fun d => decide (d < a0.tmps.size)) = true) (hs : waitB l 0 n = true) (hc : Region.chainB .any l.toArray n = true) (hn : n < l.length)
    (hSt : StabG n φ ψ bl) (hst : ∀ i, i < n → RelStep P l n φ ψ bl Q' a0 i) (hnd : ∀ i, i < n → ∀ j, j < n → hasDep l i j = true → ((l[j]?).bind (·.dst)).isSome = true) (hdl : ∀ i, i < n → ∀ j, hasDep l i j = true → j < n)
    (hL : ∀ big vs W, DoneG l n φ big vs W ∧ PsiG n ψ big W → HeadInv .any l.toArray n big → (∀ j, j < n → big[j]? = some true) → wpAny P .any l.toArray Q' g big (fillA (dstL l n) vs a0) W) :
    ∀ (f : Nat) (big small : Array Bool) (vs : Nat → Value) (W : World), Marks l n big small → small.toList.count false = f → DoneG l n φ big vs W ∧ PsiG n ψ big W → wpAny P .any l.toArray Q' (f + g) big (fillA (dstL l n) vs a0) W
  | 0, big, small, vs, W, hm, hcnt, hd => by
    rw [Nat.zero_add]
    refine hL big vs W hd hm.inv fun j hj => ?_
    have hjs : j < small.size := by rw [hm.size]; exact hj
    rw [hm.same j hj, Array.getElem?_eq_getElem hjs]
    cases hb : small[j] with
    | true => rfl
    | false =>
      have : false ∈ small.toList := by rw [← hb]; exact Array.mem_toList_iff.2 (Array.getElem_mem hjs)
      have := List.count_pos_iff.2 this
      omega
  | f + 1, big, small, vs, W, hm, hcnt, hd => by
    rw [show f + 1 + g = (f + g) + 1 by omega]
    have hne : ∃ i, i < n ∧ small[i]? = some false := by
      have : false ∈ small.toList := List.count_pos_iff.1 (by omega)
      obtain ⟨i, hi, e⟩ := List.getElem_of_mem this
      exact ⟨i, by simpa [hm.size] using hi, by rw [← Array.getElem?_toList, List.getElem?_eq_getElem hi, e]⟩
    obtain ⟨i0, hi0, hu0⟩ := hne
    refine ⟨fun h0 => absurd h0 (ready_some hok (by omega) hm hi0 hu0), fun i hi => ?_⟩
    have hin : i < n := by
      rcases Nat.lt_or_ge i n with h1 | h1
      · exact h1
      · exact absurd hi (not_yet hs hc hn hm.inv i0 (Nat.zero_le _) hi0 (by rw [hm.same _ hi0, hu0]) i h1)
    obtain ⟨hun0, o, ho0, hall⟩ := mem_ready.1 hi
    have ho : l[i]? = some o := by simpa using ho0
    have hrd := hm.getD hin true
    have his : i < small.size := by rw [hm.size]; exact hin
    have hf : small[i] = false := by
      have := hm.same i hin
      rw [Array.getElem?_eq_getElem his] at this
      rw [Array.getD_eq_getD_getElem?, this] at hun0
      exact hun0
    have hgd : o.guard = none := by
      have := List.all_eq_true.1 hap i (List.mem_range.2 hin)
      simp only [ho, Bool.and_eq_true, Option.isNone_iff_eq_none] at this
      exact this.1
    have hwt : ∀ z, Region.wanted o z = true := fun z => by unfold Region.wanted; rw [hgd]
    have h1 := hst i hin
    unfold RelStep at h1
    simp only [ho] at h1
    have h2 := h1 vs W (hd.2 i hin (by rw [Array.getD_eq_getD_getElem?, hm.same i hin, Array.getElem?_eq_getElem his]; exact hf)) (fun j hj => by
      have hjn := hdl i hin j hj
      have hsm := hnd i hin j hjn hj
      have hbj : big.getD j false = true := by
        unfold hasDep at hj
        simp only [ho] at hj
        obtain ⟨q, hq, h3⟩ := Array.any_eq_true.1 hj
        simp only [Bool.and_eq_true, beq_iff_eq] at h3
        have := hall o.after[q] (Array.getElem_mem hq) h3.1
        rwa [h3.2] at this
      obtain ⟨d, hdd⟩ := Option.isSome_iff_exists.1 hsm
      have := hd.1 j hjn hbj d hdd
      have e2 : dstN l j = d := by unfold dstN; rw [hdd]; rfl
      rw [e2]; exact this)
    simp only [wpList, hwt, if_true] at h2
    unfold wpOp
    simp only [ho0, hwt, if_true]
    have hcnt' : ∀ (h : i < small.toList.length), (small.setIfInBounds i true).toList.count false = f := fun _ => by
      rw [Array.toList_setIfInBounds, List.count_set (by simpa using his)]
      have : small.toList[i]'(by simpa using his) = false := by rw [Array.getElem_toList]; exact hf
      simp [this, hcnt]
    have hstep : ∀ a' W', ((∃ v, a' = (fillA (dstL l n) vs a0).put o.dst v) ∧ W.grownBy W' (bl.getD i none) ∧ (φ.getD i SG.top).p (slotV a' o.dst) W') → wpAny P .any l.toArray Q' (f + g) (big.setIfInBounds i true) a' W' := by
      rintro a' W' ⟨⟨v, rfl⟩, hxx, hph⟩
      have hm' := hm.set hi hin
      cases hdst : o.dst with
      | none =>
        have e : (fillA (dstL l n) vs a0).put none v = fillA (dstL l n) vs a0 := rfl
        rw [e]
        refine rel_all hok hap hsz hs hc hn hSt hst hnd hdl hL f _ _ vs W' hm' (hcnt' (by simpa using his)) ⟨fun j hj hb d hd' => ?_, fun j hj hb => ?psi⟩
        case psi =>
          by_cases e : i = j
          · subst e; rw [getD_set_self (by rw [hm.inv.size]; simp; omega)] at hb; cases hb
          · rw [getD_set_ne false e] at hb; exact hSt.2 j i hj hin (fun h => e h.symm) _ _ (hd.2 j hj hb) hxx
        by_cases e : i = j
        · subst e; rw [ho] at hd'; simp [hdst] at hd'
        · rw [getD_set_ne false e] at hb
          exact hSt.1 j i hj hin (fun h => e h.symm) _ _ _ (hd.1 j hj hb d hd') hxx
      | some d0 =>
        have hin0 := mem_dstL hin ho hdst
        rw [hdst] at hph
        rw [fillA_put _ _ _ hin0] at hph ⊢
        refine rel_all hok hap hsz hs hc hn hSt hst hnd hdl hL f _ _ _ W' hm' (hcnt' (by simpa using his)) ⟨fun j hj hb d hd' => ?_, fun j hj hb => ?psi⟩
        case psi =>
          by_cases e : i = j
          · subst e; rw [getD_set_self (by rw [hm.inv.size]; simp; omega)] at hb; cases hb
          · rw [getD_set_ne false e] at hb; exact hSt.2 j i hj hin (fun h => e h.symm) _ _ (hd.2 j hj hb) hxx
        by_cases e : i = j
        · subst e
          rw [ho] at hd'
          have : d0 = d := by simpa [hdst] using hd'
          subst this
          have hsl : slotV (fillA (dstL l n) (upV vs d0 v) a0) (some d0) = upV vs d0 v d0 := slot_fill _ _ _ hin0 (by
            have := List.all_eq_true.1 hsz d0 (List.contains_iff_mem.1 hin0)
            simpa using this)
          rw [hsl] at hph
          exact hph
        · rw [getD_set_ne false e] at hb
          have hne2 : d ≠ d0 := fun h => by
            subst h
            have h4 := List.all_eq_true.1 hap i (List.mem_range.2 hin)
            simp only [ho, Bool.and_eq_true] at h4
            have h5 := List.all_eq_true.1 h4.2 j (List.mem_range.2 hj)
            rw [hd', hdst] at h5
            simp [e] at h5
          have : upV vs d0 v d = vs d := by unfold upV; rw [if_neg hne2]
          rw [this]
          exact hSt.1 j i hj hin (fun h => e h.symm) _ _ _ (hd.1 j hj hb d hd') hxx
    rcases h2 with h2 | ⟨h2, a9, w9, h3⟩
    · refine .inl (Oper.wp_mono hstep (wp_put ?_))
      exact wp_unthen (fun a' W' h => h) h2
    · exact .inr ⟨h2, a9, w9, h3⟩
/-- All that was said, when all is done. -/
def AllG (l : List Oper) (φ : List SG) (vs : Nat → Value) (W : World) : Nat → Prop
  | 0 => True
  | j + 1 => AllG l φ vs W j ∧ ((l[j]?).bind (·.dst) = none ∨ (φ.getD j SG.top).p (vs (dstN l j)) W)
theorem allG_of {φ : List SG} {vs : Nat → Value} {W : World} : ∀ (m : Nat), (∀ j, j < m → ∀ d, ((l[j]?).bind (·.dst)) = some d → (φ.getD j SG.top).p (vs d) W) → AllG l φ vs W m
  | 0, _ => trivial
  | m + 1, h => by
    refine ⟨allG_of m fun j hj => h j (by omega), ?_⟩
    cases hd : (l[m]?).bind (·.dst) with
    | none => exact .inl rfl
    | some d => exact .inr (by have := h m (by omega) d hd; unfold dstN; rw [hd]; exact this)
theorem AllG.at {φ : List SG} {vs : Nat → Value} {W : World} : ∀ {m : Nat}, AllG l φ vs W m → ∀ j, j < m → ((l[j]?).bind (·.dst)).isSome = true → (φ.getD j SG.top).p (vs (dstN l j)) W
  | 0, _, j, hj, _ => by omega
  | m + 1, h, j, hj, hs => by
    rcases Nat.lt_or_eq_of_le (Nat.lt_succ_iff.1 hj) with h1 | rfl
    · exact h.1.at j h1 hs
    · rcases h.2 with h2 | h2
      · rw [h2] at hs; cases hs
      · exact h2
/-- The rule. -/
theorem wp_region_rel {id : Nat} {Q : Exit → Act → World → Prop} {a : Act} {w : World} (n : Nat) (φ : List SG) (ψ : List (World → Prop)) (bl : List (Option Nat)) (hm : P.follows .mixedOrders = true)
    (hB : (headOk l n && apartB l n && decide (n < l.length) && waitB l 0 n && Region.chainB .any l.toArray n && Region.seqB .any l.toArray (l.length - n) n (Array.replicate n true ++ Array.replicate (l.length - n) false)
      && (List.range n).all (fun i => (List.range l.length).all fun j => !hasDep l i j || (decide (j < n) && ((l[j]?).bind (·.dst)).isSome))) = true)
    (hsz : (dstL l n).all (fun d => decide (d < a.tmps.size)) = true)
    (hSt : StabG n φ ψ bl) (h0 : ∀ i, i < n → ψ.getD i (fun _ => True) w.drew) (hst : ∀ i, i < n → RelStep P l n φ ψ bl Q a i)
    (h : ∀ (vs : Nat → Value) (W : World), AllG l φ vs W n → wpList P l.toArray Q (l.drop n) (fillA (dstL l n) vs a) W) : (Code.region id l.toArray true).wp P Q a w := by
  simp only [Bool.and_eq_true, decide_eq_true_eq] at hB
  obtain ⟨⟨⟨⟨⟨⟨hok, hap⟩, hn⟩, hs⟩, hc⟩, hseq⟩, hdp⟩ := hB
  have hdep : ∀ i, i < n → ∀ j, hasDep l i j = true → j < n ∧ ((l[j]?).bind (·.dst)).isSome = true := fun i hi j hj => by
    have h1 := List.all_eq_true.1 hdp i (List.mem_range.2 hi)
    have hjl : j < l.length := by
      have h2 := hj
      unfold hasDep at h2
      have hil : i < l.length := by omega
      rw [List.getElem?_eq_getElem hil] at h2
      simp only at h2
      obtain ⟨q, hq, h3⟩ := Array.any_eq_true.1 h2
      simp only [Bool.and_eq_true, beq_iff_eq] at h3
      have := (headOk_spec hok hi (List.getElem?_eq_getElem hil)).2 _ (Array.getElem_mem hq) h3.1
      omega
    have h2 := List.all_eq_true.1 h1 j (List.mem_range.2 hjl)
    rw [hj] at h2
    simpa using h2
  have inv0 : HeadInv .any l.toArray n (Array.replicate l.toArray.size false) :=
    ⟨by simp, fun j oj _ hl => (by rw [getD_replicate_false] at hl; cases hl), fun t _ ht => getD_in (by simpa using ht) (getD_replicate_false _ _)⟩
  refine wp_region_any hm ?_
  have H := rel_all (P := P) (φ := φ) (ψ := ψ) (bl := bl) (Q' := Q) (g := l.length - n) (a0 := a) hok hap hsz hs hc hn hSt hst (fun i hi j hj hd => (hdep i hi j hd).2) (fun i hi j hd => (hdep i hi j hd).1) (fun big vs W hd hinv hall => by
    have e : big = Array.replicate n true ++ Array.replicate (l.length - n) false := by
      refine Array.ext_getElem? fun j => ?_
      rcases Nat.lt_or_ge j n with hj | hj
      · rw [hall j hj, Array.getElem?_append_left (by simpa using hj)]; simp [hj]
      · rw [Array.getElem?_append_right (by simpa using hj)]
        have hsz := hinv.size
        rcases Nat.lt_or_ge j l.length with hj2 | hj2
        · have := hinv.tail j hj (by simpa using hj2)
          have hjs : j < big.size := by rw [hsz]; simpa using hj2
          rw [Array.getD_eq_getD_getElem?, Array.getElem?_eq_getElem hjs] at this
          rw [Array.getElem?_eq_getElem hjs]
          simp at this
          rw [this, Array.size_replicate, Array.getElem?_replicate, if_pos (by omega)]
        · rw [Array.getElem?_eq_none (by rw [hsz]; simpa using hj2), Array.getElem?_eq_none (by simp; omega)]
    have hall' : AllG l φ vs W n := allG_of n fun j hj d hd' => hd.1 j hj (by rw [Array.getD_eq_getD_getElem?, hall j hj]; rfl) d hd'
    subst e
    have := wpAny_of_seq (md := .any) (P := P) (ops := l.toArray) (Q' := Q) (l.drop n) n _ _ W (fun j => by simp [List.getElem?_drop]) (by rw [List.length_drop]; exact hseq) (h vs W hall')
    rwa [List.length_drop] at this) n (Array.replicate l.toArray.size false) (Array.replicate n false) (fun d => a.tmps.getD d undef) { w with drawn := w.drawn + 1 } ⟨inv0, by simp, fun j hj => by
      rw [Array.getElem?_replicate, Array.getElem?_replicate, if_pos hj, if_pos (by simp; omega)]⟩ (by simp) ⟨fun j _ hb => (by rw [getD_replicate_false] at hb; cases hb), fun j hj _ => h0 j hj⟩
  rw [show n + (l.length - n) = l.toArray.size by simp; omega, fillA_self] at H
  exact H
end
/-- What comes of a world by turning these blocks alone. -/
inductive Rch (bs : List (Option Nat)) (W0 : World) : World → Prop
  | refl : Rch bs W0 W0
  | step {W W' : World} {b : Option Nat} : Rch bs W0 W → W.grownBy W' b → b ∈ bs → Rch bs W0 W'
theorem Rch.keep {bs : List (Option Nat)} {W0 W : World} {φ : World → Prop} (h : Rch bs W0 W) (hs : ∀ A B b, b ∈ bs → φ A → A.grownBy B b → φ B) (h0 : φ W0) : φ W := by
  induction h with
  | refl => exact h0
  | step _ hg hb ih => exact hs _ _ _ hb ih hg
theorem Rch.size {bs : List (Option Nat)} {W0 W : World} (h : Rch bs W0 W) : W0.heap.size ≤ W.heap.size := h.keep (φ := fun W => W0.heap.size ≤ W.heap.size) (fun _ _ _ _ h1 hg => Nat.le_trans h1 hg.size) (Nat.le_refl _)
/-- A list just built. -/
def SG.lit (e : TypeId) (xs : List Value) (B0 : Nat) : SG := ⟨fun v W => ∃ g, v = .slice (some ⟨g, 0, none⟩) xs.length xs.length ∧ W.heap[g]? = some (.cells xs.toArray e (0, 0)) ∧ B0 ≤ g⟩
theorem SG.lit_st {e : TypeId} {xs : List Value} {B0 : Nat} {v : Value} {W W' : World} {b : Option Nat} (h : (SG.lit e xs B0).p v W) (hg : W.grownBy W' b) (hb : ∀ q, b = some q → q < B0) : (SG.lit e xs B0).p v W' := by
  obtain ⟨g, h1, h2, h3⟩ := h
  exact ⟨g, h1, by rw [hg.block g (Array.getElem?_eq_some_iff.1 h2).1 (fun e => by have := hb g e.symm; omega)]; exact h2, h3⟩
/-- A list of the call's own that has grown. -/
def SG.app (B : Nat) (e : TypeId) (n : Nat) (xs : List Value) (vr : Value) (B0 : Nat) : SG := ⟨fun v W => W.ownsRow B e 1 v n xs ∧ (v.ownBlock = vr.ownBlock ∨ ∀ q, v.ownBlock = some q → B0 ≤ q)⟩
theorem SG.app_st {B : Nat} {e : TypeId} {n : Nat} {xs : List Value} {vr : Value} {B0 : Nat} {v : Value} {W W' : World} {b : Option Nat} (h : (SG.app B e n xs vr B0).p v W) (hg : W.grownBy W' b) (hb : ∀ q, b = some q → q < B0 ∧ vr.ownBlock ≠ some q) : (SG.app B e n xs vr B0).p v W' := by
  refine ⟨?_, h.2⟩
  have hne : ∀ q, b = some q → v.ownBlock ≠ some q := fun q hq e => by
    rcases h.2 with h2 | h2
    · exact (hb q hq).2 (by rw [← h2]; exact e)
    · have := h2 q e; have := (hb q hq).1; omega
  refine ⟨h.1.1, ?_⟩
  rcases h.1.2 with h2 | ⟨g, cap, cur, hv, hbb, hgg, hr⟩
  · exact .inl h2
  · exact .inr ⟨g, cap, cur, hv, hbb, by rw [hg.block g (Array.getElem?_eq_some_iff.1 hgg).1 (fun e => hne g e.symm (by rw [hv]; rfl))]; exact hgg, hr⟩
/-- append of one to a list of the call's own, as an equation. -/
theorem run_app1 {P : Program} {W : World} {t e bytes : Nat} {z : Value} (ht : SlT P t e 1 bytes z) (hz : z.cells.size = 1) {B n : Nat} {v : Value} {xs : List Value} (hown : W.ownsRow B e 1 v n xs) (hB : B ≤ W.heap.size) {g : Nat} {u : Value} (hg : W.heap[g]? = some (.cells [u].toArray e (0, 0))) (hu : u.oneCell' = true)
    (h63 : n + 1 ≤ 4294967296) (hby : bytes ≤ 4096) (ty : TypeId) :
    ∃ v' w', (Builtin.append_ #[t, t] ty #[v, .slice (some ⟨g, 0, none⟩) 1 1]).run P W = .ok v' w' ∧ w'.ownsRow B e 1 v' (n + 1) (xs ++ [u]) ∧ W.grownBy w' v.ownBlock ∧ (v'.ownBlock = v.ownBlock ∨ ∀ q, v'.ownBlock = some q → W.heap.size ≤ q) := by
  obtain ⟨i, hi, hiz, his, hib⟩ := ht.inf
  have hBB : (n + 1) * bytes ≤ 4294967296 * 4096 := Nat.mul_le_mul h63 hby
  have hnews : ∀ j y, [u][j]? = some y → W.cell? ((⟨g, 0, none⟩ : Addr).add j) = some y := fun j y hy => by
    cases j with
    | zero =>
      simp at hy; subst hy
      rw [Addr.add_lit]
      simp [World.cell?, hg]
    | succ j => simp at hy
  have h1 : ∀ y ∈ [u], y.oneCell' = true := fun y hy => by simp at hy; subst hy; exact hu
  obtain ⟨v', w', hr, k1, k2, _⟩ := run_append_own (P := P) W B t ty e i z 1 bytes ht.und hi hiz his hib hz (by omega) v n xs hown ⟨g, 0, none⟩ 1 1 [u] rfl hnews h1 (by unfold maxLen; omega) (by omega) hB
  refine ⟨v', w', hr, k1, k2, ?_⟩
  have hown2 : W.ownsRow B e i.size v n xs := by rw [his]; exact hown
  rcases append_where (P := P) ht.und hi hiz hown2 (m := 1) (c := 1) (by rw [his]; rfl) hnews h1 (by unfold maxLen; omega) (by rw [hib]; omega) hr with h | h
  · exact .inl h
  · exact .inr fun q hq => by rw [h] at hq; have := Option.some.inj hq; omega
end Go.Att
