/- A run's table: its pairs in order have no gaps; sums over one mark: plain. -/
import Derived.Test.YtainhfnanamobaaGreatDoorTd
import Derived.Test.YtainhfnanamobaaGreatDoorK2
namespace Go.Att
theorem nthP_mem {l : List (Int × Int)} {j : Nat} (h : j < l.length) : nthP l j ∈ l := by rw [nthP_eq h]; exact List.getElem_mem h
theorem mem_nthP {l : List (Int × Int)} {c : Int × Int} (h : c ∈ l) : ∃ j, j < l.length ∧ nthP l j = c := by
  obtain ⟨j, hj, rfl⟩ := List.getElem_of_mem h
  exact ⟨j, hj, nthP_eq hj⟩
/-- Pairs that tell each place once, with no gaps. -/
structure PrsOk (X : List (Int × Int)) (val : Int → Int) (top : Int) : Prop where
  is_ : ∀ c ∈ X, c.2 = val c.1
  bd : ∀ c ∈ X, 0 ≤ c.1 ∧ c.1 ≤ top
  all : ∀ a, 0 ≤ a → a ≤ top → ∃ c ∈ X, c.1 = a
  zero : val 0 = 0
  top0 : 0 ≤ top
section
variable {X : List (Int × Int)} {val : Int → Int} {top : Int}
theorem sortP_len (X : List (Int × Int)) : (sortP X).length = X.length := (sortP_perm X).length_eq
theorem order_first (h : PrsOk X val top) : nthP (sortP X) 0 = (0, 0) := by
  obtain ⟨c, hc, hc0⟩ := h.all 0 (Int.le_refl _) h.top0
  obtain ⟨k, hk, hkc⟩ := mem_nthP ((sortP_perm X).mem_iff.2 hc)
  have h0 : 0 < (sortP X).length := by omega
  have hm : nthP (sortP X) 0 ∈ X := (sortP_perm X).mem_iff.1 (nthP_mem h0)
  have h1 : (nthP (sortP X) 0).1 = 0 := by
    have hb := h.bd _ hm
    by_cases e : k = 0
    · subst e; rw [hkc]; exact hc0
    · have := sortP_ord X 0 k (by omega) hk
      rw [hkc] at this
      unfold ltP at this
      omega
  have h2 := h.is_ _ hm
  rw [h1, h.zero] at h2
  exact Prod.ext h1 h2
theorem order_next (h : PrsOk X val top) {j : Nat} (hj : j + 1 < X.length) : nthP (sortP X) (j + 1) = nthP (sortP X) j ∨ (nthP (sortP X) (j + 1)).1 = (nthP (sortP X) j).1 + 1 := by
  have hl := sortP_len X
  have hb : nthP (sortP X) j ∈ X := (sortP_perm X).mem_iff.1 (nthP_mem (by omega))
  have hc : nthP (sortP X) (j + 1) ∈ X := (sortP_perm X).mem_iff.1 (nthP_mem (by omega))
  have ho := sortP_ord X j (j + 1) (by omega) (by omega)
  have vb := h.is_ _ hb
  have vc := h.is_ _ hc
  have bb := h.bd _ hb
  have bc := h.bd _ hc
  by_cases e : (nthP (sortP X) (j + 1)).1 = (nthP (sortP X) j).1
  · refine .inl (Prod.ext e ?_)
    rw [vb, vc, e]
  · by_cases e1 : (nthP (sortP X) (j + 1)).1 = (nthP (sortP X) j).1 + 1
    · exact .inr e1
    · exfalso
      have hlt : (nthP (sortP X) j).1 + 1 < (nthP (sortP X) (j + 1)).1 := by unfold ltP at ho; omega
      obtain ⟨d, hd, hd1⟩ := h.all ((nthP (sortP X) j).1 + 1) (by omega) (by omega)
      obtain ⟨k, hk, hkd⟩ := mem_nthP ((sortP_perm X).mem_iff.2 hd)
      by_cases e2 : k ≤ j
      · by_cases e3 : k = j
        · subst e3; rw [hkd] at hd1; omega
        · have := sortP_ord X k j (by omega) (by omega)
          rw [hkd] at this
          unfold ltP at this
          omega
      · by_cases e3 : k = j + 1
        · subst e3; rw [hkd] at hlt; omega
        · have := sortP_ord X (j + 1) k (by omega) hk
          rw [hkd] at this
          unfold ltP at this
          omega
end
theorem mem_holes {xs : List Int} {g : Nat} {a : Int} : a ∈ holesUp xs g ↔ 0 ≤ a ∧ a < g ∧ a ∉ xs := by
  unfold holesUp
  rw [List.mem_map]
  constructor
  · rintro ⟨k, hk, rfl⟩
    rw [List.mem_filter, List.mem_range] at hk
    simp only [decide_eq_true_eq] at hk
    exact ⟨by simp, by simpa using hk.1, hk.2⟩
  · rintro ⟨h0, h1, h2⟩
    obtain ⟨k, rfl⟩ := Int.eq_ofNat_of_zero_le h0
    refine ⟨k, ?_, rfl⟩
    rw [List.mem_filter, List.mem_range]
    simp only [decide_eq_true_eq]
    exact ⟨by simpa using h1, h2⟩
theorem mem_ats {l : List Stp} {a : Int} : a ∈ atsAll l ↔ ∃ t ∈ l, ∃ j, j < 3 ∧ a = accA t.acc j := by
  unfold atsAll
  rw [List.mem_flatMap]
  constructor
  · rintro ⟨t, ht, h⟩
    unfold atsOf at h
    simp only [List.mem_cons, List.not_mem_nil, or_false] at h
    rcases h with rfl | rfl | rfl
    · exact ⟨t, ht, 0, by omega, rfl⟩
    · exact ⟨t, ht, 1, by omega, rfl⟩
    · exact ⟨t, ht, 2, by omega, rfl⟩
  · rintro ⟨t, ht, j, hj, rfl⟩
    refine ⟨t, ht, ?_⟩
    have h3 : j = 0 ∨ j = 1 ∨ j = 2 := by omega
    rcases h3 with rfl | rfl | rfl <;> simp [atsOf]
theorem mem_prsT {l : List Stp} {ms : List Int} {n : Nat} {c : Int × Int} : c ∈ prsT l ms n ↔ ∃ i, i < n ∧ ((∃ j, j < 3 ∧ c = (accA (stpAt l i).acc j, accI (stpAt l i).acc j)) ∨ c = (nth ms i, 0)) := by
  unfold prsT
  rw [List.mem_flatMap]
  constructor
  · rintro ⟨i, hi, h⟩
    refine ⟨i, List.mem_range.1 hi, ?_⟩
    unfold prs4 at h
    simp only [List.mem_cons, List.not_mem_nil, or_false] at h
    rcases h with rfl | rfl | rfl | rfl
    · exact .inl ⟨0, by omega, rfl⟩
    · exact .inl ⟨1, by omega, rfl⟩
    · exact .inl ⟨2, by omega, rfl⟩
    · exact .inr rfl
  · rintro ⟨i, hi, h⟩
    refine ⟨i, List.mem_range.2 hi, ?_⟩
    rcases h with ⟨j, hj, rfl⟩ | rfl
    · have h3 : j = 0 ∨ j = 1 ∨ j = 2 := by omega
      rcases h3 with rfl | rfl | rfl <;> simp [prs4]
    · simp [prs4]
theorem top_in {xs : List Int} (h : xs ≠ []) (h0 : ∀ x ∈ xs, 0 ≤ x) : topL xs ∈ xs := by
  have key : ∀ (xs : List Int) (m : Int), xs.foldl (fun x y => if y > x then y else x) m = m ∨ xs.foldl (fun x y => if y > x then y else x) m ∈ xs := by
    intro xs
    induction xs with
    | nil => intro m; exact .inl rfl
    | cons a xs ih =>
      intro m
      rw [List.foldl_cons]
      rcases ih (if a > m then a else m) with h | h
      · rw [h]
        split
        · exact .inr (by simp)
        · exact .inl rfl
      · exact .inr (by simp [h])
  rcases key xs 0 with h1 | h1
  · obtain ⟨a, ha⟩ := List.exists_mem_of_ne_nil xs h
    have h2 := topL_ge a ha
    have h3 := h0 a ha
    have h4 : topL xs = 0 := h1
    have : topL xs = a := by omega
    rw [this]; exact ha
  · exact h1
theorem prs_ok {p sz lim : Int} {cd : List In4} {l : List Stp} {out : Int} {mem : List (Int × Int)} {n : Nat} (hp : 2 ≤ p) (h : walkM p sz cd lim = .done l out mem) (hln : l.length ≤ n) (hmn : (missL l).length ≤ n) :
    ∃ val, PrsOk (prsT l (missL l) n) val (topL (atsAll l)) ∧ topL (atsAll l) < p := by
  have hok := walkM_ok hp h
  obtain ⟨ht, h0⟩ := walkM_told hp h
  have hpos : ∀ a ∈ atsAll l, 0 ≤ a := fun a ha => by
    obtain ⟨t, hm, j, _, rfl⟩ := mem_ats.1 ha
    exact (hok.at_ t hm j).1
  have hlt : ∀ a ∈ atsAll l, a ≤ p - 1 := fun a ha => by
    obtain ⟨t, hm, j, _, rfl⟩ := mem_ats.1 ha
    have := (hok.at_ t hm j).2
    omega
  have hbd := topL_bd hlt (by omega)
  have hne : atsAll l ≠ [] := fun e => by
    have := mem_ats.2 ⟨_, stpAt_mem hok.ne 0, 0, by omega, rfl⟩
    rw [e] at this; cases this
  have hmiss : ∀ a, a ∈ missL l ↔ 0 ≤ a ∧ a < topL (atsAll l) ∧ a ∉ atsAll l := fun a => by
    unfold missL
    rw [mem_holes, Int.toNat_of_nonneg hbd.1]
  refine ⟨fun a => if a ∈ missL l then 0 else (lk mem a).getD 0, ⟨fun c hc => ?_, fun c hc => ?_, fun a ha hat => ?_, ?_, hbd.1⟩, by omega⟩
  · obtain ⟨i, hi, ⟨j, hj, rfl⟩ | rfl⟩ := mem_prsT.1 hc
    · have hm := stpAt_mem hok.ne i
      have hnot : accA (stpAt l i).acc j ∉ missL l := fun hh => ((hmiss _).1 hh).2.2 (mem_ats.2 ⟨_, hm, j, hj, rfl⟩)
      simp only
      rw [if_neg hnot, ht _ hm j]; rfl
    · simp only
      by_cases hil : i < (missL l).length
      · rw [if_pos (by rw [nth_eq hil]; exact List.getElem_mem hil)]
      · have e : nth (missL l) i = 0 := by unfold nth; rw [List.getD_eq_getElem?_getD, List.getElem?_eq_none (by omega)]; rfl
        rw [e]
        split
        · rfl
        · rw [h0]; rfl
  · obtain ⟨i, hi, ⟨j, hj, rfl⟩ | rfl⟩ := mem_prsT.1 hc
    · have hm := stpAt_mem hok.ne i
      exact ⟨(hok.at_ _ hm j).1, topL_ge _ (mem_ats.2 ⟨_, hm, j, hj, rfl⟩)⟩
    · simp only
      by_cases hil : i < (missL l).length
      · have := (hmiss (nth (missL l) i)).1 (by rw [nth_eq hil]; exact List.getElem_mem hil)
        omega
      · have e : nth (missL l) i = 0 := by unfold nth; rw [List.getD_eq_getElem?_getD, List.getElem?_eq_none (by omega)]; rfl
        rw [e]; exact ⟨Int.le_refl _, hbd.1⟩
  · by_cases hin : a ∈ atsAll l
    · obtain ⟨t, hm, j, hj, rfl⟩ := mem_ats.1 hin
      obtain ⟨i, hi, rfl⟩ := List.getElem_of_mem hm
      have e : stpAt l i = l[i] := by
        unfold stpAt
        rw [show min i (l.length - 1) = i by omega, List.getD_eq_getElem?_getD, List.getElem?_eq_getElem hi]; rfl
      exact ⟨_, mem_prsT.2 ⟨i, by omega, .inl ⟨j, hj, rfl⟩⟩, by simp only; rw [e]⟩
    · have hne2 : a ≠ topL (atsAll l) := fun e => hin (by rw [e]; exact top_in hne hpos)
      obtain ⟨i, hi, hia⟩ := List.getElem_of_mem ((hmiss a).2 ⟨ha, by omega, hin⟩)
      exact ⟨_, mem_prsT.2 ⟨i, by omega, .inr rfl⟩, by simp only; rw [nth_eq hi, hia]⟩
  · split
    · rfl
    · rw [h0]; rfl
theorem ord_zero {p : Int} (hp : 2 ≤ p) {b c : Int × Int} (h : c = b ∨ c.1 = b.1 + 1) : ordK p b.1 b.2 c.1 c.2 = [0, 0] := by
  unfold ordK
  rcases h with rfl | h
  · simp [fsub, fmul]
  · have e : fsub p c.1 b.1 = 1 := by unfold fsub; rw [h, show b.1 + 1 - b.1 = 1 by omega]; exact Int.emod_eq_of_lt (by omega) (by omega)
    rw [e]
    simp [fsub, fmul]
/-- A row with one mark. -/
theorem sum_hot {p : Int} (_hp : 2 ≤ p) {r : List Int} {cd : List In4} {q : Nat} (hr : ∀ k, k < cd.length → nth r (20 + k) = if k = q then 1 else 0) (g : Nat → In4 → Int) :
    ∀ m, m ≤ cd.length → sumK p r cd g m = if q < m then g q (nthI cd q) % p else 0 := by
  intro m
  induction m with
  | zero => intro _; rfl
  | succ m ih =>
    intro hm
    rw [sumK, ih (by omega), hr m (by omega)]
    by_cases e : m = q
    · subst e
      rw [if_pos rfl, if_neg (by omega), if_pos (by omega)]
      simp [fadd, fmul]
    · rw [if_neg e]
      by_cases e2 : q < m
      · rw [if_pos e2, if_pos (by omega)]
        simp [fadd, fmul]
      · rw [if_neg e2, if_neg (by omega)]
        simp [fadd, fmul]
theorem num_hot {p : Int} (_hp : 2 ≤ p) {r : List Int} {L q : Nat} (hr : ∀ k, k < L → nth r (20 + k) = if k = q then 1 else 0) :
    ∀ m, m ≤ L → numK p r m = if q < m then (q : Int) % p else 0 := by
  intro m
  induction m with
  | zero => intro _; rfl
  | succ m ih =>
    intro hm
    rw [numK, ih (by omega), hr m (by omega)]
    by_cases e : m = q
    · subst e
      rw [if_pos rfl, if_neg (by omega), if_pos (by omega)]
      simp [fadd, fmul]
    · rw [if_neg e]
      by_cases e2 : q < m
      · rw [if_pos e2, if_pos (by omega)]
        simp [fadd, fmul]
      · rw [if_neg e2, if_neg (by omega)]
        simp [fadd, fmul]
end Go.Att
