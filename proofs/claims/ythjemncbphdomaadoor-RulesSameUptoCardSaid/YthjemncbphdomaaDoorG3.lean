/- The document's sort of pairs: the plain law of an insertion, and the contract. -/
import Derived.Test.YthjemncbphdomaaDoorG1
import Derived.Test.YthjemncbphdomaaDoorVoc3
import Derived.StillTailTactics
namespace Go.Att
/-- One pair is ahead of another. -/
def ltP (a b : Int × Int) : Prop := a.1 < b.1 ∨ a.1 = b.1 ∧ a.2 < b.2
instance (a b : Int × Int) : Decidable (ltP a b) := by unfold ltP; exact inferInstance
def ltB (a b : Int × Int) : Bool := decide (ltP a b)
theorem ltP_asymm {a b : Int × Int} (h : ltP a b) : ¬ ltP b a := by unfold ltP at *; omega
theorem not_ltP_trans {a b c : Int × Int} (h1 : ¬ ltP b a) (h2 : ¬ ltP c b) : ¬ ltP c a := by unfold ltP at *; omega
theorem ltP_antisymm {a b : Int × Int} (h1 : ¬ ltP b a) (h2 : ¬ ltP a b) : a = b := by
  obtain ⟨a1, a2⟩ := a; obtain ⟨b1, b2⟩ := b
  unfold ltP at *; simp only [Prod.mk.injEq]; simp only at h1 h2; omega
/-- In order, as far as i, but for what is on its way at k. -/
def Ins (l : List (Int × Int)) (k i : Nat) : Prop := ∀ a b, a < b → b ≤ i → b ≠ k → ¬ ltP (nthP l b) (nthP l a)
/-- In order, as far as i (without it). -/
def Ord (l : List (Int × Int)) (i : Nat) : Prop := ∀ a b, a < b → b < i → ¬ ltP (nthP l b) (nthP l a)
theorem Ord.ins {l : List (Int × Int)} {i : Nat} (h : Ord l i) : Ins l i i := fun a b h1 h2 h3 => h a b h1 (by omega)
theorem Ins.zero {l : List (Int × Int)} {i : Nat} (h : Ins l 0 i) : Ord l (i + 1) := fun a b h1 h2 => h a b h1 (by omega) (by omega)
theorem Ins.stop {l : List (Int × Int)} {k i : Nat} (h : Ins l k i) (hk : 0 < k) (hki : k ≤ i) (hn : ¬ ltP (nthP l k) (nthP l (k - 1))) : Ord l (i + 1) := by
  intro a b h1 h2
  by_cases hb : b = k
  · subst hb
    by_cases ha : a = b - 1
    · subst ha; exact hn
    · exact not_ltP_trans (h a (b - 1) (by omega) (by omega) (by omega)) hn
  · exact h a b h1 (by omega) hb
/-- Two neighbours change places. -/
def swapP (l : List (Int × Int)) (k : Nat) : List (Int × Int) := (l.set k (nthP l (k - 1))).set (k - 1) (nthP l k)
theorem swapP_length (l : List (Int × Int)) (k : Nat) : (swapP l k).length = l.length := by simp [swapP]
theorem nthP_set {l : List (Int × Int)} {i j : Nat} {x : Int × Int} (h : i < l.length) : nthP (l.set i x) j = if j = i then x else nthP l j := by
  unfold nthP
  by_cases e : j = i
  · subst e; simp [h]
  · simp [List.getElem?_set, Ne.symm e, e]
theorem nthP_swap {l : List (Int × Int)} {k j : Nat} (h0 : 0 < k) (h : k < l.length) : nthP (swapP l k) j = if j = k - 1 then nthP l k else if j = k then nthP l (k - 1) else nthP l j := by
  unfold swapP
  rw [nthP_set (by simp; omega), nthP_set h]
theorem Ins.step {l : List (Int × Int)} {k i : Nat} (h : Ins l k i) (hk : 0 < k) (hki : k ≤ i) (hl : i < l.length) (hlt : ltP (nthP l k) (nthP l (k - 1))) : Ins (swapP l k) (k - 1) i := by
  intro a b h1 h2 h3
  rw [nthP_swap hk (by omega), nthP_swap hk (by omega)]
  rw [if_neg h3]
  by_cases hb : b = k
  · subst hb
    rw [if_pos rfl]
    by_cases ha : a = b - 1
    · rw [if_pos ha]; exact ltP_asymm hlt
    · rw [if_neg ha, if_neg (by omega)]; exact h a (b - 1) (by omega) (by omega) (by omega)
  · rw [if_neg hb]
    by_cases ha : a = k - 1
    · rw [if_pos ha]
      have := h k b (by omega) h2 hb
      exact this
    · rw [if_neg ha]
      by_cases ha2 : a = k
      · rw [if_pos ha2]; exact h (k - 1) b (by omega) h2 hb
      · rw [if_neg ha2]; exact h a b h1 h2 hb
theorem perm_swap {l : List (Int × Int)} {k : Nat} (h0 : 0 < k) (h : k < l.length) : (swapP l k).Perm l := by
  obtain ⟨k, rfl⟩ : ∃ j, k = j + 1 := ⟨k - 1, by omega⟩
  have e1 : l = l.take k ++ (nthP l k :: nthP l (k + 1) :: l.drop (k + 2)) := by
    conv => lhs; rw [← List.take_append_drop k l, List.drop_eq_getElem_cons (by omega), List.drop_eq_getElem_cons (by omega)]
    rw [nthP_eq (by omega), nthP_eq h]
  have e2 : swapP l (k + 1) = l.take k ++ (nthP l (k + 1) :: nthP l k :: l.drop (k + 2)) := by
    apply List.ext_getElem
    · rw [swapP_length]; conv => lhs; rw [e1]
      simp
    · intro j h1 h2
      rw [swapP_length] at h1
      have := nthP_swap (l := l) (j := j) h0 h
      rw [nthP_eq (by rw [swapP_length]; exact h1)] at this
      rw [this, Nat.add_sub_cancel]
      have hkl : (l.take k).length = k := by simp; omega
      by_cases hlt : j < k
      · rw [List.getElem_append_left (by omega)]
        rw [if_neg (by omega), if_neg (by omega), List.getElem_take, nthP_eq h1]
      · rw [List.getElem_append_right (by omega)]
        simp only [hkl]
        rcases Nat.lt_or_eq_of_le (show k ≤ j by omega) with h3 | rfl
        · rcases Nat.lt_or_eq_of_le (show k + 1 ≤ j by omega) with h4 | rfl
          · obtain ⟨m, rfl⟩ : ∃ m, j = k + 2 + m := ⟨j - (k + 2), by omega⟩
            rw [if_neg (by omega), if_neg (by omega)]
            have : k + 2 + m - k = m + 2 := by omega
            simp only [this, List.getElem_cons_succ, List.getElem_drop]
            rw [nthP_eq h1]
          · rw [if_neg (by omega), if_pos rfl]
            have : k + 1 - k = 1 := by omega
            simp [this]
        · rw [if_pos rfl]; simp
  rw [e2]
  conv => rhs; rw [e1]
  exact List.Perm.append_left _ (List.Perm.swap _ _ _)
theorem flatP_set {l : List (Int × Int)} {i : Nat} (h : i < l.length) (x : Int × Int) : (flatP l).take (i * 2) ++ [.int .i64 x.1, .int .i64 x.2] ++ (flatP l).drop (i * 2 + 2) = flatP (l.set i x) := by
  induction l generalizing i with
  | nil => simp at h
  | cons c l ih =>
    cases i with
    | zero => simp [flatP]
    | succ i =>
      have := ih (i := i) (by simpa using h)
      have e : (i + 1) * 2 = i * 2 + 2 := by omega
      simp only [flatP, List.flatMap_cons, List.cons_append, List.nil_append, e, List.take_succ_cons, List.drop_succ_cons, List.set_cons_succ] at *
      rw [← this]
/-- Two lists in order that are permutations of one another are the same. -/
theorem ord_perm_eq {a b : List (Int × Int)} (hp : a.Perm b) (ha : Ord a a.length) (hb : Ord b b.length) : a = b := by
  have key : ∀ {l : List (Int × Int)}, Ord l l.length → l.Pairwise (fun x y => ¬ ltP y x) := by
    intro l h
    rw [List.pairwise_iff_getElem]
    intro i j hi hj hij
    have := h i j hij hj
    rwa [nthP_eq hj, nthP_eq hi] at this
  exact List.Perm.eq_of_pairwise (fun x y _ _ h1 h2 => ltP_antisymm h1 h2) (key ha) (key hb) hp
end Go.Att
namespace Go.Proofs.YthjemncbphdomaaDoor
open Go.RowKit Go.Att

set_option maxHeartbeats 400000 in
theorem ahead_any (a b : Int × Int) (w : World) :
    Calls Tryd.prog 137 #[.agg #[.int .i64 a.1, .int .i64 a.2], .agg #[.int .i64 b.1, .int .i64 b.2]] w fun e w' => e = .returned (.bool (ltB a b)) ∧ Ext w w' := by
  have hx : ∀ o1 o2, Ext w ((w.alloc o1).alloc o2) := fun o1 o2 => (Ext.alloc _ _).trans (Ext.alloc _ _)
  have HX := Lib.hid hx; clear hx
  have hb : ltB a b = (decide (a.1 < b.1) || (a.1 == b.1 && decide (a.2 < b.2))) := by
    unfold ltB; rw [Bool.eq_iff_iff, decide_eq_true_iff]; simp [ltP]
  rw [hb]; clear hb
  by_cases h1 : a.1 < b.1
  · go_enter Tryd.func137, Tryd.ntmps137
    go_wp2
    go_ret; exact ⟨ret_bool (by simp [h1]), HX.out _ _⟩
  · by_cases h2 : a.1 = b.1
    · have hb2 : (a.1 == b.1) = true := by rw [beq_iff_eq]; exact h2
      have H2 := Lib.hid h2; clear h2
      go_enter Tryd.func137, Tryd.ntmps137
      go_wp2
      go_ret; exact ⟨ret_bool (by simp [hb2]; omega), HX.out _ _⟩
    · have hb2 : (a.1 == b.1) = false := by rw [beq_eq_false_iff_ne]; exact h2
      clear h2
      go_enter Tryd.func137, Tryd.ntmps137
      go_wp2
      go_ret; exact ⟨ret_bool (by simp [h1, hb2]), HX.out _ _⟩
end Go.Proofs.YthjemncbphdomaaDoor
