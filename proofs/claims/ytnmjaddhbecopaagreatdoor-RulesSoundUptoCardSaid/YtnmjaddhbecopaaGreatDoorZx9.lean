/- A run's table: its pairs in order have no gaps; sums over one mark: plain. What an instruction did breaks no rule: plain. -/
import Derived.Test.YtnmjaddhbecopaaGreatDoorZx7
import Derived.Test.YtnmjaddhbecopaaGreatDoorZx8
import Derived.Test.YtnmjaddhbecopaaGreatDoorLa
section
namespace Go.Att
theorem nthP_mem {l : List (Int × Int)} {j : Nat} (h : j < l.length) : nthP l j ∈ l := by rw [nthP_eq h]; exact List.getElem_mem h
theorem mem_nthP {l : List (Int × Int)} {c : Int × Int} (h : c ∈ l) : ∃ j, j < l.length ∧ nthP l j = c := by
  obtain ⟨j, hj, rfl⟩ := List.getElem_of_mem h
  exact ⟨j, hj, nthP_eq hj⟩
/-- Pairs that tell each place once, with no gaps. -/
structure PrsOk (X : List (Int × Int)) (val : Int → Int) (top : Int) : Prop where
  is_ : ∀ c ∈ X, c.2 = val c.1
  bd : ∀ c ∈ X, 0 ≤ c.1 ∧ c.1 ≤ top
  all : ∀ a, 0 ≤ a → a ≤ top → ∃ c ∈ X, c.1 = a
  zero : val 0 = 0
  top0 : 0 ≤ top
section
variable {X : List (Int × Int)} {val : Int → Int} {top : Int}
theorem sortP_len (X : List (Int × Int)) : (sortP X).length = X.length := (sortP_perm X).length_eq
theorem order_first (h : PrsOk X val top) : nthP (sortP X) 0 = (0, 0) := by
  obtain ⟨c, hc, hc0⟩ := h.all 0 (Int.le_refl _) h.top0
  obtain ⟨k, hk, hkc⟩ := mem_nthP ((sortP_perm X).mem_iff.2 hc)
  have h0 : 0 < (sortP X).length := by omega
  have hm : nthP (sortP X) 0 ∈ X := (sortP_perm X).mem_iff.1 (nthP_mem h0)
  have h1 : (nthP (sortP X) 0).1 = 0 := by
    have hb := h.bd _ hm
    by_cases e : k = 0
    · subst e; rw [hkc]; exact hc0
    · have := sortP_ord X 0 k (by omega) hk
      rw [hkc] at this
      unfold ltP at this
      omega
  have h2 := h.is_ _ hm
  rw [h1, h.zero] at h2
  exact Prod.ext h1 h2
theorem order_next (h : PrsOk X val top) {j : Nat} (hj : j + 1 < X.length) : nthP (sortP X) (j + 1) = nthP (sortP X) j ∨ (nthP (sortP X) (j + 1)).1 = (nthP (sortP X) j).1 + 1 := by
  have hl := sortP_len X
  have hb : nthP (sortP X) j ∈ X := (sortP_perm X).mem_iff.1 (nthP_mem (by omega))
  have hc : nthP (sortP X) (j + 1) ∈ X := (sortP_perm X).mem_iff.1 (nthP_mem (by omega))
  have ho := sortP_ord X j (j + 1) (by omega) (by omega)
  have vb := h.is_ _ hb
  have vc := h.is_ _ hc
  have bb := h.bd _ hb
  have bc := h.bd _ hc
  by_cases e : (nthP (sortP X) (j + 1)).1 = (nthP (sortP X) j).1
  · refine .inl (Prod.ext e ?_)
    rw [vb, vc, e]
  · by_cases e1 : (nthP (sortP X) (j + 1)).1 = (nthP (sortP X) j).1 + 1
    · exact .inr e1
    · exfalso
      have hlt : (nthP (sortP X) j).1 + 1 < (nthP (sortP X) (j + 1)).1 := by unfold ltP at ho; omega
      obtain ⟨d, hd, hd1⟩ := h.all ((nthP (sortP X) j).1 + 1) (by omega) (by omega)
      obtain ⟨k, hk, hkd⟩ := mem_nthP ((sortP_perm X).mem_iff.2 hd)
      by_cases e2 : k ≤ j
      · by_cases e3 : k = j
        · subst e3; rw [hkd] at hd1; omega
        · have := sortP_ord X k j (by omega) (by omega)
          rw [hkd] at this
          unfold ltP at this
          omega
      · by_cases e3 : k = j + 1
        · subst e3; rw [hkd] at hlt; omega
        · have := sortP_ord X (j + 1) k (by omega) hk
          rw [hkd] at this
          unfold ltP at this
          omega
end
theorem mem_holes {xs : List Int} {g : Nat} {a : Int} : a ∈ holesUp xs g ↔ 0 ≤ a ∧ a < g ∧ a ∉ xs := by
  unfold holesUp
  rw [List.mem_map]
  constructor
  · rintro ⟨k, hk, rfl⟩
    rw [List.mem_filter, List.mem_range] at hk
    simp only [decide_eq_true_eq] at hk
    exact ⟨by simp, by simpa using hk.1, hk.2⟩
  · rintro ⟨h0, h1, h2⟩
    obtain ⟨k, rfl⟩ := Int.eq_ofNat_of_zero_le h0
    refine ⟨k, ?_, rfl⟩
    rw [List.mem_filter, List.mem_range]
    simp only [decide_eq_true_eq]
    exact ⟨by simpa using h1, h2⟩
theorem mem_ats {l : List Stp} {a : Int} : a ∈ atsAll l ↔ ∃ t ∈ l, ∃ j, j < 3 ∧ a = accA t.acc j := by
  unfold atsAll
  rw [List.mem_flatMap]
  constructor
  · rintro ⟨t, ht, h⟩
    unfold atsOf at h
    simp only [List.mem_cons, List.not_mem_nil, or_false] at h
    rcases h with rfl | rfl | rfl
    · exact ⟨t, ht, 0, by omega, rfl⟩
    · exact ⟨t, ht, 1, by omega, rfl⟩
    · exact ⟨t, ht, 2, by omega, rfl⟩
  · rintro ⟨t, ht, j, hj, rfl⟩
    refine ⟨t, ht, ?_⟩
    have h3 : j = 0 ∨ j = 1 ∨ j = 2 := by omega
    rcases h3 with rfl | rfl | rfl <;> simp [atsOf]
theorem mem_prsT {l : List Stp} {ms : List Int} {n : Nat} {c : Int × Int} : c ∈ prsT l ms n ↔ ∃ i, i < n ∧ ((∃ j, j < 3 ∧ c = (accA (stpAt l i).acc j, accI (stpAt l i).acc j)) ∨ c = (nth ms i, 0)) := by
  unfold prsT
  rw [List.mem_flatMap]
  constructor
  · rintro ⟨i, hi, h⟩
    refine ⟨i, List.mem_range.1 hi, ?_⟩
    unfold prs4 at h
    simp only [List.mem_cons, List.not_mem_nil, or_false] at h
    rcases h with rfl | rfl | rfl | rfl
    · exact .inl ⟨0, by omega, rfl⟩
    · exact .inl ⟨1, by omega, rfl⟩
    · exact .inl ⟨2, by omega, rfl⟩
    · exact .inr rfl
  · rintro ⟨i, hi, h⟩
    refine ⟨i, List.mem_range.2 hi, ?_⟩
    rcases h with ⟨j, hj, rfl⟩ | rfl
    · have h3 : j = 0 ∨ j = 1 ∨ j = 2 := by omega
      rcases h3 with rfl | rfl | rfl <;> simp [prs4]
    · simp [prs4]
theorem top_in {xs : List Int} (h : xs ≠ []) (h0 : ∀ x ∈ xs, 0 ≤ x) : topL xs ∈ xs := by
  have key : ∀ (xs : List Int) (m : Int), xs.foldl (fun x y => if y > x then y else x) m = m ∨ xs.foldl (fun x y => if y > x then y else x) m ∈ xs := by
    intro xs
    induction xs with
    | nil => intro m; exact .inl rfl
    | cons a xs ih =>
      intro m
      rw [List.foldl_cons]
      rcases ih (if a > m then a else m) with h | h
      · rw [h]
        split
        · exact .inr (by simp)
        · exact .inl rfl
      · exact .inr (by simp [h])
  rcases key xs 0 with h1 | h1
  · obtain ⟨a, ha⟩ := List.exists_mem_of_ne_nil xs h
    have h2 := topL_ge a ha
    have h3 := h0 a ha
    have h4 : topL xs = 0 := h1
    have : topL xs = a := by omega
    rw [this]; exact ha
  · exact h1
theorem prs_ok {p sz lim : Int} {cd : List In4} {l : List Stp} {out : Int} {mem : List (Int × Int)} {n : Nat} (hp : 2 ≤ p) (h : walkM p sz cd lim = .done l out mem) (hln : l.length ≤ n) (hmn : (missL l).length ≤ n) :
    ∃ val, PrsOk (prsT l (missL l) n) val (topL (atsAll l)) ∧ topL (atsAll l) < p := by
  have hok := walkM_ok hp h
  obtain ⟨ht, h0⟩ := walkM_told hp h
  have hpos : ∀ a ∈ atsAll l, 0 ≤ a := fun a ha => by
    obtain ⟨t, hm, j, _, rfl⟩ := mem_ats.1 ha
    exact (hok.at_ t hm j).1
  have hlt : ∀ a ∈ atsAll l, a ≤ p - 1 := fun a ha => by
    obtain ⟨t, hm, j, _, rfl⟩ := mem_ats.1 ha
    have := (hok.at_ t hm j).2
    omega
  have hbd := topL_bd hlt (by omega)
  have hne : atsAll l ≠ [] := fun e => by
    have := mem_ats.2 ⟨_, stpAt_mem hok.ne 0, 0, by omega, rfl⟩
    rw [e] at this; cases this
  have hmiss : ∀ a, a ∈ missL l ↔ 0 ≤ a ∧ a < topL (atsAll l) ∧ a ∉ atsAll l := fun a => by
    unfold missL
    rw [mem_holes, Int.toNat_of_nonneg hbd.1]
  refine ⟨fun a => if a ∈ missL l then 0 else (lk mem a).getD 0, ⟨fun c hc => ?_, fun c hc => ?_, fun a ha hat => ?_, ?_, hbd.1⟩, by omega⟩
  · obtain ⟨i, hi, ⟨j, hj, rfl⟩ | rfl⟩ := mem_prsT.1 hc
    · have hm := stpAt_mem hok.ne i
      have hnot : accA (stpAt l i).acc j ∉ missL l := fun hh => ((hmiss _).1 hh).2.2 (mem_ats.2 ⟨_, hm, j, hj, rfl⟩)
      simp only
      rw [if_neg hnot, ht _ hm j]; rfl
    · simp only
      by_cases hil : i < (missL l).length
      · rw [if_pos (by rw [nth_eq hil]; exact List.getElem_mem hil)]
      · have e : nth (missL l) i = 0 := by unfold nth; rw [List.getD_eq_getElem?_getD, List.getElem?_eq_none (by omega)]; rfl
        rw [e]
        split
        · rfl
        · rw [h0]; rfl
  · obtain ⟨i, hi, ⟨j, hj, rfl⟩ | rfl⟩ := mem_prsT.1 hc
    · have hm := stpAt_mem hok.ne i
      exact ⟨(hok.at_ _ hm j).1, topL_ge _ (mem_ats.2 ⟨_, hm, j, hj, rfl⟩)⟩
    · simp only
      by_cases hil : i < (missL l).length
      · have := (hmiss (nth (missL l) i)).1 (by rw [nth_eq hil]; exact List.getElem_mem hil)
        omega
      · have e : nth (missL l) i = 0 := by unfold nth; rw [List.getD_eq_getElem?_getD, List.getElem?_eq_none (by omega)]; rfl
        rw [e]; exact ⟨Int.le_refl _, hbd.1⟩
  · by_cases hin : a ∈ atsAll l
    · obtain ⟨t, hm, j, hj, rfl⟩ := mem_ats.1 hin
      obtain ⟨i, hi, rfl⟩ := List.getElem_of_mem hm
      have e : stpAt l i = l[i] := by
        unfold stpAt
        rw [show min i (l.length - 1) = i by omega, List.getD_eq_getElem?_getD, List.getElem?_eq_getElem hi]; rfl
      exact ⟨_, mem_prsT.2 ⟨i, by omega, .inl ⟨j, hj, rfl⟩⟩, by simp only; rw [e]⟩
    · have hne2 : a ≠ topL (atsAll l) := fun e => hin (by rw [e]; exact top_in hne hpos)
      obtain ⟨i, hi, hia⟩ := List.getElem_of_mem ((hmiss a).2 ⟨ha, by omega, hin⟩)
      exact ⟨_, mem_prsT.2 ⟨i, by omega, .inr rfl⟩, by simp only; rw [nth_eq hi, hia]⟩
  · split
    · rfl
    · rw [h0]; rfl
theorem ord_zero {p : Int} (hp : 2 ≤ p) {b c : Int × Int} (h : c = b ∨ c.1 = b.1 + 1) : ordK p b.1 b.2 c.1 c.2 = [0, 0] := by
  unfold ordK
  rcases h with rfl | h
  · simp [fsub, fmul]
  · have e : fsub p c.1 b.1 = 1 := by unfold fsub; rw [h, show b.1 + 1 - b.1 = 1 by omega]; exact Int.emod_eq_of_lt (by omega) (by omega)
    rw [e]
    simp [fsub, fmul]
/-- A row with one mark. -/
theorem sum_hot {p : Int} (_hp : 2 ≤ p) {r : List Int} {cd : List In4} {q : Nat} (hr : ∀ k, k < cd.length → nth r (20 + k) = if k = q then 1 else 0) (g : Nat → In4 → Int) :
    ∀ m, m ≤ cd.length → sumK p r cd g m = if q < m then g q (nthI cd q) % p else 0 := by
  intro m
  induction m with
  | zero => intro _; rfl
  | succ m ih =>
    intro hm
    rw [sumK, ih (by omega), hr m (by omega)]
    by_cases e : m = q
    · subst e
      rw [if_pos rfl, if_neg (by omega), if_pos (by omega)]
      simp [fadd, fmul]
    · rw [if_neg e]
      by_cases e2 : q < m
      · rw [if_pos e2, if_pos (by omega)]
        simp [fadd, fmul]
      · rw [if_neg e2, if_neg (by omega)]
        simp [fadd, fmul]
theorem num_hot {p : Int} (_hp : 2 ≤ p) {r : List Int} {L q : Nat} (hr : ∀ k, k < L → nth r (20 + k) = if k = q then 1 else 0) :
    ∀ m, m ≤ L → numK p r m = if q < m then (q : Int) % p else 0 := by
  intro m
  induction m with
  | zero => intro _; rfl
  | succ m ih =>
    intro hm
    rw [numK, ih (by omega), hr m (by omega)]
    by_cases e : m = q
    · subst e
      rw [if_pos rfl, if_neg (by omega), if_pos (by omega)]
      simp [fadd, fmul]
    · rw [if_neg e]
      by_cases e2 : q < m
      · rw [if_pos e2, if_pos (by omega)]
        simp [fadd, fmul]
      · rw [if_neg e2, if_neg (by omega)]
        simp [fadd, fmul]
end Go.Att
end
section
namespace Go.Att
/-- The cells of a row that rules ask of a step. -/
structure RowF (r : List Int) (t : Stp) (h : Int) : Prop where
  f0 : nth r 0 = t.fp
  f1 : nth r 1 = t.ap
  f2 : nth r 2 = t.rv
  f7 : nth r 7 = accI t.acc 0
  f8 : nth r 8 = accI t.acc 1
  f9 : nth r 9 = accI t.acc 2
  f11 : nth r 11 = h
/-- What the rules ask of an instruction, of a row and of the next one's registers. -/
structure DidR (p : Int) (x : In4) (k : Nat) (r : List Int) (t : Stp) (q fp ap rv : Int) : Prop where
  cell : ∀ j, j < 3 → accA t.acc j = cellK p r j k x
  does : doesK p r k x % p = 0
  more : moreK p r k x % p = 0
  goes : goesK p r k x % p = q
  fp : fpK p r k x % p = fp
  ap : apK p r k x % p = ap
  rv : rvK r k x % p = rv
section
variable {p : Int}
theorem fsub_self (a : Int) : fsub p a a = 0 := by simp [fsub]
theorem fsub_mod_l (a : Int) : fsub p (a % p) a = 0 := by unfold fsub; rw [Int.sub_emod, Int.emod_emod, Int.sub_self]; simp
theorem mod_small {a : Int} (h : 0 ≤ a ∧ a < p) : a % p = a := Int.emod_eq_of_lt h.1 h.2
theorem not_dvd {a : Int} (h : 0 ≤ a ∧ a < p) (hn : a ≠ 0) : ¬ p ∣ a := fun hd => hn (by have := Int.emod_eq_zero_of_dvd hd; rwa [mod_small h] at this)
theorem finv_l (hp : Pr p) {a : Int} (h : ¬ p ∣ a) : fmul p (finv p a) a = 1 := finv_mul hp h
theorem finv_r (hp : Pr p) {a : Int} (h : ¬ p ∣ a) : fmul p a (finv p a) = 1 := by rw [fmul_comm]; exact finv_mul hp h
theorem div_back (hp : Pr p) {u v : Int} (hu : 0 ≤ u ∧ u < p) (h : ¬ p ∣ v) : fmul p (fdiv p u v) v = u := by
  unfold fmul fdiv
  rw [Int.mul_emod, Int.emod_emod, ← Int.mul_emod, Int.mul_assoc, Int.mul_emod, finv_mul hp h, Int.mul_one, Int.emod_emod, mod_small hu]
theorem fsub_bd2 (hp : 2 ≤ p) (a b : Int) : 0 ≤ fsub p a b ∧ fsub p a b < p := fsub_bd hp a b
theorem fsub_zero {u v : Int} (hu : 0 ≤ u ∧ u < p) (hv : 0 ≤ v ∧ v < p) (h : fsub p u v = 0) : u = v := by
  unfold fsub at h
  have hd := Int.dvd_of_emod_eq_zero h
  obtain ⟨c, hc⟩ := hd
  rcases Int.lt_trichotomy c 0 with h1 | h1 | h1
  · have : p * c ≤ p * (-1) := Int.mul_le_mul_of_nonneg_left (by omega) (by omega)
    omega
  · subst h1; simp at hc; omega
  · have : p * 1 ≤ p * c := Int.mul_le_mul_of_nonneg_left (by omega) (by omega)
    omega
theorem finv_zero (hp3 : 3 ≤ p) : finv p 0 = 0 := by
  unfold finv
  rw [Int.zero_pow (by omega)]; simp
theorem one_mod3 (hp3 : 3 ≤ p) : (1 : Int) % p = 1 := Int.emod_eq_of_lt (by omega) (by omega)
theorem fmul_zero_l (a : Int) : fmul p 0 a = 0 := by simp [fmul]
theorem fmul_zero_r (a : Int) : fmul p a 0 = 0 := by simp [fmul]
theorem fsub_one_zero (hp3 : 3 ≤ p) : fsub p 1 0 = 1 := by unfold fsub; rw [Int.sub_zero]; exact one_mod3 hp3
theorem same_does (hp : Pr p) (hp3 : 3 ≤ p) {u v : Int} (hu : 0 ≤ u ∧ u < p) (hv : 0 ≤ v ∧ v < p) : fsub p (fmul p (fsub p u v) (finv p (fsub p u v))) (fsub p 1 (if u = v then 1 else 0)) = 0 ∧ fmul p (if u = v then 1 else 0) (fsub p u v) = 0 := by
  by_cases e : u = v
  · subst e
    rw [if_pos rfl, fsub_self, fmul_zero_l, fsub_self, fsub_self]
    exact ⟨rfl, fmul_zero_r _⟩
  · rw [if_neg e, finv_r hp (not_dvd (fsub_bd2 hp.two _ _) (fun h => e (fsub_zero hu hv h))), fsub_one_zero hp3, fsub_self]
    exact ⟨rfl, fmul_zero_l _⟩
theorem zero_does (hp : Pr p) (hp3 : 3 ≤ p) {u b : Int} {k : Nat} (hu : 0 ≤ u ∧ u < p) : fmul p u (fsub p 1 (fmul p (finv p u) u)) = 0 ∧
    fadd p (fmul p (fsub p 1 (fmul p (finv p u) u)) b) (fmul p (fmul p (finv p u) u) (k + 1)) % p = if u = 0 then fof p b else fadd p k 1 := by
  by_cases e : u = 0
  · subst e
    rw [if_pos rfl, fmul_zero_l, finv_zero hp3, fmul_zero_l, fsub_one_zero hp3, fmul_zero_l]
    exact ⟨rfl, by simp [fadd, fmul, fof]⟩
  · rw [if_neg e, finv_l hp (not_dvd hu e), fsub_self, fmul_zero_r, fmul_zero_l]
    exact ⟨rfl, by simp [fadd, fmul]⟩
end
theorem acc_one (a v : Int) : accA [(a, v)] 0 = a ∧ accI [(a, v)] 0 = v ∧ accA [(a, v)] 1 = 0 ∧ accA [(a, v)] 2 = 0 := ⟨rfl, rfl, rfl, rfl⟩
theorem three_cases {P : Nat → Prop} (h0 : P 0) (h1 : P 1) (h2 : P 2) : ∀ j, j < 3 → P j := fun j hj => by
  have h3 : j = 0 ∨ j = 1 ∨ j = 2 := by omega
  rcases h3 with rfl | rfl | rfl <;> assumption
/-- The last instruction. -/
theorem halt_did {p : Int} {s s' : Ms} {v : Int} {x : In4} {r : List Int} {k : Nat} (hs : Okm p s) (hx : x.op = 0) (hr : s.blank.look (fadd p s.fp x.a) = .go v s') (hk : s.pc = k)
    (hF : RowF r (s.note s'.acc) (hintM p x.op (accI s'.acc 0) (accI s'.acc 1))) : DidR p x k r (s.note s'.acc) s.pc s.fp s.ap s.rv ∧ accI s'.acc 0 = v := by
  obtain ⟨_, _, rfl⟩ := look_ok (blank_ok hs) hr
  obtain ⟨f0, f1, f2, f7, f8, f9, f11⟩ := hF
  have hpc := hs.pc
  refine ⟨⟨three_cases ?_ ?_ ?_, ?_, ?_, ?_, ?_, ?_, ?_⟩, rfl⟩
  · simp [cellK, cellsK, hx, f0, Ms.note, Ms.blank, accA]
  · simp [cellK, cellsK, hx, Ms.note, Ms.blank, accA]
  · simp [cellK, cellsK, hx, Ms.note, Ms.blank, accA]
  · simp [doesK, hx]
  · simp [moreK, hx]
  · simp only [goesK, hx, if_true]; rw [← hk]; exact mod_small hs.pc
  · simp only [fpK, hx]; simp [f0, Ms.note]; exact mod_small hs.fp
  · simp only [apK, hx]; simp [f1, Ms.note]; exact mod_small hs.ap
  · simp only [rvK, hx]; simp [f2, Ms.note]; exact mod_small hs.rv
/-- An instruction that goes on. -/
theorem one_did {p : Int} (hp : Pr p) (hp3 : 3 ≤ p) {s s' : Ms} {v : Int} {x : In4} {r : List Int} {k : Nat} (hs : Okm p s) (hr : s.blank.one p x = .go v s') (hk : s.pc = k)
    (hF : RowF r (s.note s'.acc) (hintM p x.op (accI s'.acc 0) (accI s'.acc 1))) : DidR p x k r (s.note s'.acc) s'.pc s'.fp s'.ap s'.rv := by
  have h2p := hp.two
  have hb := blank_ok hs
  obtain ⟨f0, f1, f2, f7, f8, f9, f11⟩ := hF
  have ha := fadd_bd h2p
  have ho := fof_bd h2p
  have kpc : ((k : Int) + 1) % p = fadd p s.pc 1 := by rw [hk]; rfl
  have mfp := mod_small hs.fp
  have map_ := mod_small hs.ap
  have mrv := mod_small hs.rv
  simp only [Ms.note] at f0 f1 f2 f7 f8 f9 f11 ⊢
  unfold Ms.one at hr
  split at hr
  · rename_i hc
    obtain ⟨w, t, h1, h2⟩ := bind_go hr
    unfold Ms.comp at h1
    obtain ⟨u1, t1, g1, h1⟩ := bind_go h1
    obtain ⟨u2, t2, g2, h1⟩ := bind_go h1
    obtain ⟨k1, l1, rfl⟩ := look_ok hb g1
    obtain ⟨k2, l2, rfl⟩ := look_ok k1 g2
    have b1 := hb.val l1
    have b2 := k1.val l2
    split at h1
    · cases h1
    · rename_i hz
      obtain ⟨k3, rfl, ea, e1, e2, e3, e4, _⟩ := tell_ok k2 (ha _ _) (reck_bd h2p _ _ _) h1
      unfold Ms.to at h2
      simp only [Rs.go.injEq] at h2
      obtain ⟨_, rfl⟩ := h2
      simp only [Ms.blank, List.nil_append, List.cons_append] at ea e1 e2 e3 e4 b1 b2 f7 f8 f9 f11 ⊢
      rw [ea] at f7 f8 f9 f11 ⊢
      rw [e2, e3, e4]
      simp only [accI, List.getD_cons_zero, List.getD_cons_succ] at f7 f8 f9 f11 ⊢
      have hop : x.op = 1 ∨ x.op = 2 ∨ x.op = 3 ∨ x.op = 4 ∨ x.op = 6 := by simp [isCmp] at hc; omega
      refine ⟨three_cases ?_ ?_ ?_, ?_, ?_, ?_, ?_, ?_, ?_⟩
      · rcases hop with h | h | h | h | h <;> simp [accA, cellK, cellsK, h, f0]
      · rcases hop with h | h | h | h | h <;> simp [accA, cellK, cellsK, h, f0]
      · rcases hop with h | h | h | h | h <;> simp [accA, cellK, cellsK, h, f0]
      · rcases hop with h | h | h | h | h
        · simp [doesK, h, f7, f8, f9, reck, fsub_self]
        · simp [doesK, h, f7, f8, f9, reck, fsub_self]
        · simp [doesK, h, f7, f8, f9, reck, fsub_self]
        · have hv2 : u2 ≠ 0 := fun e => hz ⟨h, e⟩
          simp [doesK, h, f7, f8, f9, reck, div_back hp b1 (not_dvd b2 hv2), fsub_self]
        · have := (same_does hp hp3 b1 b2).1
          simp [doesK, h, f7, f8, f9, f11, hintM, reck, this]
      · rcases hop with h | h | h | h | h
        · simp [moreK, h]
        · simp [moreK, h]
        · simp [moreK, h]
        · have hv2 : u2 ≠ 0 := fun e => hz ⟨h, e⟩
          simp [moreK, h, f8, f11, hintM, finv_l hp (not_dvd b2 hv2), fsub_self]
        · have := (same_does hp hp3 b1 b2).2
          simp [moreK, h, f7, f8, f9, reck, this]
      · rcases hop with h | h | h | h | h <;> simp [goesK, h, kpc]
      · rcases hop with h | h | h | h | h <;> simp [fpK, h, f0, mfp]
      · rcases hop with h | h | h | h | h <;> simp [apK, h, f1, map_]
      · rcases hop with h | h | h | h | h <;> simp [rvK, h, f2, mrv]
  split at hr
  · rename_i h
    obtain ⟨w, t, h1, h2⟩ := bind_go hr
    obtain ⟨k3, rfl, ea, e1, e2, e3, e4, _⟩ := tell_ok hb (ha _ _) (ho _) h1
    unfold Ms.to at h2
    simp only [Rs.go.injEq] at h2
    obtain ⟨_, rfl⟩ := h2
    simp only [Ms.blank, List.nil_append] at ea e1 e2 e3 e4
    simp only at f7 f8 f9 f11 ⊢
    rw [ea] at f7 f8 f9 f11 ⊢
    rw [e2, e3, e4]
    simp only [accI, List.getD_cons_zero, List.getD_cons_succ] at f7 f8 f9 f11 ⊢
    refine ⟨three_cases ?_ ?_ ?_, ?_, ?_, ?_, ?_, ?_, ?_⟩
    · simp [accA, cellK, cellsK, h, f0]
    · simp [accA, cellK, cellsK, h]
    · simp [accA, cellK, cellsK, h]
    · simp [doesK, h, f7, fof, fsub_mod_l]
    · simp [moreK, h]
    · simp [goesK, h, kpc, Ms.blank]
    · simp [fpK, h, f0, mfp]
    · simp [apK, h, f1, map_]
    · simp [rvK, h, f2, mrv]
  split at hr
  · rename_i h
    obtain ⟨u1, t1, g1, h1⟩ := bind_go hr
    obtain ⟨u2, t2, g2, h1⟩ := bind_go h1
    obtain ⟨k1, l1, rfl⟩ := look_ok hb g1
    obtain ⟨k2, l2, rfl⟩ := look_ok k1 g2
    split at h1
    · rename_i huv
      subst huv
      unfold Ms.to at h1
      simp only [Rs.go.injEq] at h1
      obtain ⟨_, rfl⟩ := h1
      simp only [Ms.blank, List.nil_append, List.cons_append, accI, List.getD_cons_zero, List.getD_cons_succ] at f7 f8 f9 f11 ⊢
      refine ⟨three_cases ?_ ?_ ?_, ?_, ?_, ?_, ?_, ?_, ?_⟩
      · simp [accA, cellK, cellsK, h, f0]
      · simp [accA, cellK, cellsK, h, f0]
      · simp [accA, cellK, cellsK, h]
      · simp [doesK, h, f7, f8, fsub_self]
      · simp [moreK, h]
      · simp [goesK, h, kpc]
      · simp [fpK, h, f0, mfp]
      · simp [apK, h, f1, map_]
      · simp [rvK, h, f2, mrv]
    · cases h1
  split at hr
  · rename_i h
    unfold Ms.to at hr
    simp only [Rs.go.injEq] at hr
    obtain ⟨_, rfl⟩ := hr
    simp only [Ms.blank, accI] at f7 f8 f9 f11 ⊢
    refine ⟨three_cases ?_ ?_ ?_, ?_, ?_, ?_, ?_, ?_, ?_⟩
    · simp [accA, cellK, cellsK, h]
    · simp [accA, cellK, cellsK, h]
    · simp [accA, cellK, cellsK, h]
    · simp [doesK, h]
    · simp [moreK, h]
    · simp [goesK, h, fof]
    · simp [fpK, h, f0, mfp]
    · simp [apK, h, f1, map_]
    · simp [rvK, h, f2, mrv]
  split at hr
  · rename_i h
    obtain ⟨u1, t1, g1, h1⟩ := bind_go hr
    obtain ⟨k1, l1, rfl⟩ := look_ok hb g1
    have b1 := hb.val l1
    unfold Ms.to at h1
    simp only [Rs.go.injEq] at h1
    obtain ⟨_, rfl⟩ := h1
    simp only [Ms.blank, List.nil_append, accI, List.getD_cons_zero, List.getD_cons_succ] at f7 f8 f9 f11 b1 ⊢
    have hz := zero_does (b := x.b) (k := k) hp hp3 b1
    refine ⟨three_cases ?_ ?_ ?_, ?_, ?_, ?_, ?_, ?_, ?_⟩
    · simp [accA, cellK, cellsK, h, f0]
    · simp [accA, cellK, cellsK, h]
    · simp [accA, cellK, cellsK, h]
    · simp [doesK, h, f7, f11, hintM, hz.1]
    · simp [moreK, h]
    · have e := hz.2
      simp only [goesK, h, f7, f11, hintM]
      simp
      rw [e, hk]
    · simp [fpK, h, f0, mfp]
    · simp [apK, h, f1, map_]
    · simp [rvK, h, f2, mrv]
  split at hr
  · rename_i h
    unfold Ms.call at hr
    obtain ⟨w1, t1, g1, h1⟩ := bind_go hr
    obtain ⟨w2, t2, g2, h1⟩ := bind_go h1
    obtain ⟨k1, rfl, a1, c1, c2, c3, c4, _⟩ := tell_ok hb hs.ap hs.fp g1
    obtain ⟨k2, rfl, a2, d1, d2, d3, d4, _⟩ := tell_ok k1 (ha _ _) (ha _ _) g2
    simp only [Rs.go.injEq] at h1
    obtain ⟨_, rfl⟩ := h1
    simp only [Ms.blank, List.nil_append] at a1 c1 c2 c3 c4
    rw [a1] at a2
    simp only [List.cons_append, List.nil_append] at a2
    simp only at f7 f8 f9 f11 ⊢
    rw [a2] at f7 f8 f9 f11 ⊢
    rw [c1] at *
    rw [c3] at *
    rw [c4] at d4
    rw [d4, d3, c3]
    simp only [accI, List.getD_cons_zero, List.getD_cons_succ] at f7 f8 f9 f11 ⊢
    refine ⟨three_cases ?_ ?_ ?_, ?_, ?_, ?_, ?_, ?_, ?_⟩
    · simp [accA, cellK, cellsK, h, f1]
    · simp [accA, cellK, cellsK, h, f1]
    · simp [accA, cellK, cellsK, h]
    · simp [doesK, h, f7, f0, fsub_self]
    · rw [hk] at f8
      simp [moreK, h, f8, fadd, fsub_mod_l]
    · simp [goesK, h, fof]
    · simp [fpK, h, f1, fadd]
    · simp [apK, h, f1, fadd]
    · simp [rvK, h, f2, mrv]
  split at hr
  · rename_i h
    unfold Ms.back at hr
    obtain ⟨u1, t1, g1, h1⟩ := bind_go hr
    obtain ⟨u2, t2, g2, h1⟩ := bind_go h1
    obtain ⟨u3, t3, g3, h1⟩ := bind_go h1
    obtain ⟨k1, l1, rfl⟩ := look_ok hb g1
    obtain ⟨k2, l2, rfl⟩ := look_ok k1 g2
    obtain ⟨k3, l3, rfl⟩ := look_ok k2 g3
    have b1 := hb.val l1
    have b2 := k1.val l2
    have b3 := k2.val l3
    simp only [Rs.go.injEq] at h1
    obtain ⟨_, rfl⟩ := h1
    simp only [Ms.blank, List.nil_append, List.cons_append, accI, List.getD_cons_zero, List.getD_cons_succ] at f7 f8 f9 f11 ⊢
    refine ⟨three_cases ?_ ?_ ?_, ?_, ?_, ?_, ?_, ?_, ?_⟩
    · simp [accA, cellK, cellsK, h, f0, fadd, fsub, Int.sub_eq_add_neg]
    · simp [accA, cellK, cellsK, h, f0, fadd, fsub, Int.sub_eq_add_neg]
    · simp [accA, cellK, cellsK, h, f0]
    · simp [doesK, h]
    · simp [moreK, h]
    · simp [goesK, h, f8, mod_small b2]
    · simp [fpK, h, f7, mod_small b1]
    · simp [apK, h, f1, map_]
    · simp [rvK, h, f9, mod_small b3]
  split at hr
  · rename_i h
    obtain ⟨w, t, h1, h2⟩ := bind_go hr
    obtain ⟨k3, rfl, ea, e1, e2, e3, e4, _⟩ := tell_ok hb (ha _ _) hs.rv h1
    unfold Ms.to at h2
    simp only [Rs.go.injEq] at h2
    obtain ⟨_, rfl⟩ := h2
    simp only [Ms.blank, List.nil_append] at ea e1 e2 e3 e4
    simp only at f7 f8 f9 f11 ⊢
    rw [ea] at f7 f8 f9 f11 ⊢
    rw [e2, e3, e4]
    simp only [accI, List.getD_cons_zero, List.getD_cons_succ] at f7 f8 f9 f11 ⊢
    refine ⟨three_cases ?_ ?_ ?_, ?_, ?_, ?_, ?_, ?_, ?_⟩
    · simp [accA, cellK, cellsK, h, f0]
    · simp [accA, cellK, cellsK, h]
    · simp [accA, cellK, cellsK, h]
    · simp [doesK, h, f7, f2, fsub_self]
    · simp [moreK, h]
    · simp [goesK, h, kpc, Ms.blank]
    · simp [fpK, h, f0, mfp]
    · simp [apK, h, f1, map_]
    · simp [rvK, h, f2, mrv]
  split at hr
  · rename_i h
    obtain ⟨u1, t1, g1, h1⟩ := bind_go hr
    obtain ⟨w2, t2, g2, h1⟩ := bind_go h1
    obtain ⟨k1, l1, rfl⟩ := look_ok hb g1
    have b1 := hb.val l1
    obtain ⟨k3, rfl, ea, e1, e2, e3, e4, _⟩ := tell_ok k1 (ha _ _) b1 g2
    unfold Ms.to at h1
    simp only [Rs.go.injEq] at h1
    obtain ⟨_, rfl⟩ := h1
    simp only [Ms.blank, List.nil_append, List.cons_append] at ea e1 e2 e3 e4
    simp only at f7 f8 f9 f11 ⊢
    rw [ea] at f7 f8 f9 f11 ⊢
    rw [e2, e3, e4]
    simp only [accI, List.getD_cons_zero, List.getD_cons_succ] at f7 f8 f9 f11 ⊢
    refine ⟨three_cases ?_ ?_ ?_, ?_, ?_, ?_, ?_, ?_, ?_⟩
    · simp [accA, cellK, cellsK, h, f0]
    · simp [accA, cellK, cellsK, h, f1]
    · simp [accA, cellK, cellsK, h]
    · simp [doesK, h, f7, f8, fsub_self]
    · simp [moreK, h]
    · simp [goesK, h, kpc, Ms.blank]
    · simp [fpK, h, f0, mfp]
    · simp [apK, h, f1, map_]
    · simp [rvK, h, f2, mrv]
  · cases hr
end Go.Att
end
