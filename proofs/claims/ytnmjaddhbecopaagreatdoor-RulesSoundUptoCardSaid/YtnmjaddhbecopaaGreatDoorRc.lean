/- RulesSound, plain: rows that break no rule and whose pairs are alike are a run, blank somewhere or to its end. No program in sight. -/
import Derived.Test.YtnmjaddhbecopaaGreatDoorRb
namespace Go.Att
/-- What rows say of a run: the instruction of each, what they ask of it, how they go on. -/
structure Says (p sz out : Int) (cd : List In4) (L : List (List Int)) (val : Int → Int) (Q : Nat → Nat) : Prop where
  q : ∀ i, i < L.length → Q i < cd.length
  did : ∀ i, i < L.length → DidM p val (nthI cd (Q i)) (Q i) (nthL L i)
  pc0 : Q 0 = 0
  fp0 : nth (nthL L 0) 0 % p = fof p 1
  ap0 : nth (nthL L 0) 1 % p = fof p (1 + sz)
  rv0 : nth (nthL L 0) 2 % p = 0
  pc : ∀ i, i + 1 < L.length → (Q (i + 1) : Int) = goesK p (nthL L i) (Q i) (nthI cd (Q i)) % p
  fp : ∀ i, i + 1 < L.length → nth (nthL L (i + 1)) 0 % p = fpK p (nthL L i) (Q i) (nthI cd (Q i)) % p
  ap : ∀ i, i + 1 < L.length → nth (nthL L (i + 1)) 1 % p = apK p (nthL L i) (Q i) (nthI cd (Q i)) % p
  rv : ∀ i, i + 1 < L.length → nth (nthL L (i + 1)) 2 % p = rvK (nthL L i) (Q i) (nthI cd (Q i)) % p
  halt : (nthI cd (Q (L.length - 1))).op = 0
  out_ : nth (nthL L (L.length - 1)) 7 % p = fof p out
section
variable {p sz out : Int} {cd : List In4} {L : List (List Int)} {val : Int → Int} {Q : Nat → Nat}
/-- Behind a last instruction all stays. -/
theorem Says.stay (h : Says p sz out cd L val Q) (hl : (cd.length : Int) ≤ p) {i : Nat} (h0 : (nthI cd (Q i)).op = 0) : ∀ d, i + d < L.length → Q (i + d) = Q i ∧ nth (nthL L (i + d)) 0 % p = nth (nthL L i) 0 % p := by
  intro d
  induction d with
  | zero => intro _; exact ⟨rfl, rfl⟩
  | succ d ih =>
    intro hd
    obtain ⟨e1, e2⟩ := ih (by omega)
    have k1 := h.pc (i + d) hd
    have k2 := h.fp (i + d) hd
    have hq := h.q (i + d) (by omega)
    have g1 : goesK p (nthL L (i + d)) (Q (i + d)) (nthI cd (Q (i + d))) = Q (i + d) := by rw [e1]; simp [goesK, h0]
    have g2 : fpK p (nthL L (i + d)) (Q (i + d)) (nthI cd (Q (i + d))) = nth (nthL L (i + d)) 0 := by rw [e1]; simp [fpK, h0]
    rw [g1, Int.emod_eq_of_lt (by omega) (by omega)] at k1
    rw [g2] at k2
    rw [← Nat.add_assoc]
    exact ⟨by omega, k2.trans e2⟩
theorem Says.halts (h : Says p sz out cd L val Q) (_hp : Pr p) (hl : (cd.length : Int) ≤ p) (m i : Nat) (l : List Stp) (mem acc : List (Int × Int)) (hi : i + m + 1 = L.length) (hg : Good val mem) (h0 : (nthI cd (Q i)).op = 0) :
    runM p cd m l ⟨Q i, nth (nthL L i) 0 % p, nth (nthL L i) 1 % p, nth (nthL L i) 2 % p, mem, acc⟩ = .no 10 ∨ ∃ l' mem', runM p cd m l ⟨Q i, nth (nthL L i) 0 % p, nth (nthL L i) 1 % p, nth (nthL L i) 2 % p, mem, acc⟩ = .done l' (fof p out) mem' := by
  have hq := h.q i (by omega)
  rw [runM_way]
  simp only [Int.toNat_natCast]
  rw [if_neg (by omega), if_pos h0]
  simp only [Ms.blank, fadd_ml]
  obtain ⟨e1, e2⟩ := h.stay hl h0 m (by omega)
  have hv : val (fadd p (nth (nthL L i) 0) (nthI cd (Q i)).a) = fof p out := by
    have hc := (h.did (i + m) (by omega)).cell 0 (by omega)
    have ho := h.out_
    rw [show L.length - 1 = i + m by omega] at ho
    rw [Nat.add_zero, ho, e1] at hc
    rw [← hc]
    simp only [cellK, cellsK, h0]
    simp
    rw [fadd_m, ← fadd_ml (nth (nthL L i) 0), ← fadd_ml (nth (nthL L (i + m)) 0), e2]
  rcases look_val (pc := Q i) (fp := nth (nthL L i) 0 % p) (ap := nth (nthL L i) 1 % p) (rv := nth (nthL L i) 2 % p) (c := []) hg (fadd p (nth (nthL L i) 0) (nthI cd (Q i)).a) with e | ⟨c, e⟩
  · rw [e]; exact .inl rfl
  · rw [e, hv]
    exact .inr ⟨_, _, rfl⟩
theorem Says.run (h : Says p sz out cd L val Q) (hp : Pr p) (hl : (cd.length : Int) ≤ p) : ∀ (m i : Nat) (l : List Stp) (mem acc : List (Int × Int)), i + m + 1 = L.length → Good val mem →
    runM p cd m l ⟨Q i, nth (nthL L i) 0 % p, nth (nthL L i) 1 % p, nth (nthL L i) 2 % p, mem, acc⟩ = .no 10 ∨ ∃ l' mem', runM p cd m l ⟨Q i, nth (nthL L i) 0 % p, nth (nthL L i) 1 % p, nth (nthL L i) 2 % p, mem, acc⟩ = .done l' (fof p out) mem' := by
  intro m
  induction m with
  | zero =>
    intro i l mem acc hi hg
    exact h.halts hp hl 0 i l mem acc hi hg (by rw [show i = L.length - 1 by omega]; exact h.halt)
  | succ m ih =>
    intro i l mem acc hi hg
    by_cases h0 : (nthI cd (Q i)).op = 0
    · exact h.halts hp hl (m + 1) i l mem acc hi hg h0
    · have hq := h.q i (by omega)
      rw [runM_way]
      simp only [Int.toNat_natCast]
      rw [if_neg (by omega), if_neg h0]
      have hr := one_read hp (h.did i (by omega)) h0 hg (by omega)
      simp only [Ms.blank]
      rcases hr with hr | ⟨v, m', c, hr, hg'⟩
      · rw [hr]; exact .inl rfl
      · rw [hr]
        simp only
        rw [← h.pc i (by omega), ← h.fp i (by omega), ← h.ap i (by omega), ← h.rv i (by omega)]
        exact ih (i + 1) _ m' c (by omega) hg'
/-- What the rules that hold say. -/
theorem rule_zero (hb : ∀ k i, k < cd.length + 26 → i < L.length → badB p sz out cd L k i = false) {i k : Nat} (hi : i < L.length) (hk : k < cd.length + 26) (hs : speakB L.length (kindR cd.length k) i = true) : ruleD p sz out cd (nthL L i) (nthL L ((i + 1) % L.length)) k = 0 := by
  have := hb k i hk hi
  unfold badB at this
  rw [hs, Bool.true_and] at this
  simpa using this
theorem tail_zero (hb : ∀ k i, k < cd.length + 26 → i < L.length → badB p sz out cd L k i = false) {i : Nat} (t : Nat) (hi : i < L.length) (ht : t < 26) (h1 : 12 ≤ t → t < 18 → i + 1 < L.length) (h2 : 18 ≤ t → t < 24 → i = 0) (h3 : 24 ≤ t → i + 1 = L.length) :
    (tailK p sz out cd (nthL L i) (nthL L ((i + 1) % L.length))).getD t 0 = 0 := by
  rw [tail_same ht]
  have := rule_zero hb hi (k := cd.length + t) (by omega) (by
    unfold speakB
    by_cases a1 : t < 12
    · rw [show kindR cd.length (cd.length + t) = 0 by unfold kindR; rw [if_pos (by omega)]]; rfl
    by_cases a2 : t < 18
    · rw [show kindR cd.length (cd.length + t) = 1 by unfold kindR; rw [if_neg (by omega), if_pos (by omega)], if_pos rfl]; exact decide_eq_true (h1 (by omega) a2)
    by_cases a3 : t < 24
    · rw [show kindR cd.length (cd.length + t) = 2 by unfold kindR; rw [if_neg (by omega), if_neg (by omega), if_pos (by omega)], if_neg (by decide), if_pos rfl]; exact beq_iff_eq.2 (h2 (by omega) a3)
    · rw [show kindR cd.length (cd.length + t) = 3 by unfold kindR; rw [if_neg (by omega), if_neg (by omega), if_neg (by omega)], if_neg (by decide), if_neg (by decide), if_pos rfl]; exact beq_iff_eq.2 (h3 (by omega)))
  unfold ruleD at this
  rw [if_neg (by omega), show cd.length + t - cd.length = t by omega] at this
  exact this
theorem prs_mem {L : List (List Int)} {a v i j : Nat} (hi : i < L.length) (hj : j < 4) : (fof p (nth (nthL L i) (a + j)), fof p (nth (nthL L i) (v + j))) ∈ prsL p L a v := by
  unfold prsL
  rw [List.mem_flatMap]
  refine ⟨nthL L i, by rw [nthL_eq hi]; exact List.getElem_mem hi, ?_⟩
  unfold prsR
  rw [List.mem_map]
  exact ⟨j, List.mem_range.2 hj, rfl⟩
theorem prs_nth {a v : Nat} : ∀ {L : List (List Int)} {i j : Nat}, i < L.length → j < 4 → nthP (prsL p L a v) (4 * i + j) = (fof p (nth (nthL L i) (a + j)), fof p (nth (nthL L i) (v + j))) := by
  intro L
  induction L with
  | nil => intro i j hi; simp at hi
  | cons r L ih =>
    intro i j hi hj
    have e : prsL p (r :: L) a v = prsR p r a v ++ prsL p L a v := rfl
    have hl := prsR_length p r a v
    rw [e]
    cases i with
    | zero =>
      unfold nthP
      rw [List.getD_eq_getElem?_getD, List.getElem?_append_left (by omega), Nat.mul_zero, Nat.zero_add, List.getElem?_eq_getElem (by omega)]
      simp [prsR, nthL]
    | succ i =>
      have := ih (i := i) (j := j) (by simpa using hi) hj
      unfold nthP at this ⊢
      rw [List.getD_eq_getElem?_getD, List.getElem?_append_right (by omega), hl, show 4 * (i + 1) + j - 4 = 4 * i + j by omega, ← List.getD_eq_getElem?_getD, this]
      simp [nthL]
theorem ord_rows (hp : Pr p) (hb : ∀ k i, k < cd.length + 26 → i < L.length → badB p sz out cd L k i = false) (h1 : 1 ≤ L.length) (h4 : (4 * L.length : Int) ≤ p) : Ord1 p (prsL p L 12 16) := by
  have hlen := prsL_length p L 12 16
  refine ⟨?_, fun j hj => ?_, by rw [hlen]; omega⟩
  · have k1 := tail_zero hb (i := 0) 22 (by omega) (by omega) (by omega) (by omega) (by omega)
    have k2 := tail_zero hb (i := 0) 23 (by omega) (by omega) (by omega) (by omega) (by omega)
    have := prs_nth (p := p) (a := 12) (v := 16) (L := L) (i := 0) (j := 0) (by omega) (by omega)
    rw [Nat.mul_zero, Nat.zero_add] at this
    rw [this]
    exact Prod.ext k1 k2
  · rw [hlen] at hj
    obtain ⟨i, t, rfl, ht⟩ : ∃ i t, j = 4 * i + t ∧ t < 4 := ⟨j / 4, j % 4, by omega, by omega⟩
    have hi : i < L.length := by omega
    have key : ∀ {b w c x : Int}, fmul p (fsub p c b) (fsub p (fsub p c b) 1) = 0 → fmul p (fsub p (fsub p c b) 1) (fsub p x w) = 0 →
        (fof p c, fof p x) = (fof p b, fof p w) ∨ fof p c = (fof p b + 1) % p := fun a1 a2 => by
      rcases ord_says hp a1 a2 with ⟨e1, e2⟩ | e
      · left; unfold fof; rw [e1, e2]
      · right; unfold fof; rw [e]; simp
    by_cases h3 : t < 3
    · rw [show 4 * i + t + 1 = 4 * i + (t + 1) by omega, prs_nth hi (by omega), prs_nth hi (by omega)]
      have k1 := tail_zero hb (i := i) (6 + 2 * t) hi (by omega) (by omega) (by omega) (by omega)
      have k2 := tail_zero hb (i := i) (7 + 2 * t) hi (by omega) (by omega) (by omega) (by omega)
      have ht3 : t = 0 ∨ t = 1 ∨ t = 2 := by omega
      rcases ht3 with rfl | rfl | rfl <;> exact key k1 k2
    · have hn : i + 1 < L.length := by omega
      obtain rfl : t = 3 := by omega
      rw [show 4 * i + 3 + 1 = 4 * (i + 1) + 0 by omega, prs_nth hn (by omega), prs_nth hi (by omega)]
      have k1 := tail_zero hb (i := i) 16 hi (by omega) (by omega) (by omega) (by omega)
      have k2 := tail_zero hb (i := i) 17 hi (by omega) (by omega) (by omega) (by omega)
      rw [Nat.mod_eq_of_lt hn] at k1 k2
      exact key k1 k2
theorem rows_say (hp : Pr p) (hl : (cd.length : Int) ≤ p) (hb : ∀ k i, k < cd.length + 26 → i < L.length → badB p sz out cd L k i = false) (h1 : 1 ≤ L.length) (h4 : (4 * L.length : Int) ≤ p) (ha : (prsL p L 3 7).Perm (prsL p L 12 16)) :
    ∃ val Q, Says p sz out cd L val Q ∧ val 0 = 0 := by
  have h2p := hp.two
  have hO := ord_rows hp hb h1 h4
  have hot : ∀ i, i < L.length → ∃ q, q < cd.length ∧ ∀ k, k < cd.length → nth (nthL L i) (20 + k) % p = if k = q then 1 else 0 := fun i hi =>
    hot_row hp hl (fun k hk => by
      have := rule_zero hb hi (k := k) (by omega) (by unfold speakB; rw [show kindR cd.length k = 0 by unfold kindR; rw [if_pos (by omega)]]; rfl)
      unfold ruleD at this
      rwa [if_pos hk] at this) (tail_zero hb (i := i) 0 hi (by omega) (by omega) (by omega) (by omega))
  obtain ⟨Q, hQ⟩ : ∃ Q : Nat → Nat, ∀ i, i < L.length → Q i < cd.length ∧ ∀ k, k < cd.length → nth (nthL L i) (20 + k) % p = if k = Q i then 1 else 0 := by
    have : ∀ i, ∃ q, i < L.length → q < cd.length ∧ ∀ k, k < cd.length → nth (nthL L i) (20 + k) % p = if k = q then 1 else 0 := fun i => by
      by_cases hi : i < L.length
      · obtain ⟨q, hq⟩ := hot i hi; exact ⟨q, fun _ => hq⟩
      · exact ⟨0, fun h => absurd h hi⟩
    exact ⟨fun i => Classical.choose (this i), fun i => Classical.choose_spec (this i)⟩
  have hsum : ∀ i, i < L.length → ∀ g : Nat → In4 → Int, sumK p (nthL L i) cd g cd.length = g (Q i) (nthI cd (Q i)) % p := fun i hi g => by
    rw [sum_hot2 (hQ i hi).2 g _ (Nat.le_refl _), if_pos (hQ i hi).1]
  have nx : ∀ i, i + 1 < L.length → ∀ t, 12 ≤ t → t < 18 → (tailK p sz out cd (nthL L i) (nthL L (i + 1))).getD t 0 = 0 := fun i hi t ht1 ht2 => by
    have := tail_zero hb (i := i) t (by omega) (by omega) (fun _ _ => hi) (by omega) (by omega)
    rwa [Nat.mod_eq_of_lt hi] at this
  have reg : ∀ {a b : Int}, fsub p a (b % p) = 0 → a % p = b % p := fun h => by rw [fsub_mr] at h; exact fsub_eq h
  refine ⟨valP (prsL p L 12 16), Q, ⟨fun i hi => (hQ i hi).1, fun i hi => ⟨fun j hj => ?_, ?_, ?_⟩, ?_, ?_, ?_, ?_, fun i hi => ?_, fun i hi => ?_, fun i hi => ?_, fun i hi => ?_, ?_, ?_⟩, hO.val0 (by rw [prsL_length]; omega)⟩
  · have hm := ha.mem_iff.1 (prs_mem (p := p) (a := 3) (v := 7) hi (show j < 4 by omega))
    have hv := hO.val hm
    have hc : nth (nthL L i) (3 + j) % p = cellK p (nthL L i) j (Q i) (nthI cd (Q i)) % p := by
      have k1 := tail_zero hb (i := i) (1 + j) hi (by omega) (by omega) (by omega) (by omega)
      have h3 : j = 0 ∨ j = 1 ∨ j = 2 := by omega
      rcases h3 with rfl | rfl | rfl
      · have k1 : fsub p (nth (nthL L i) 3) (sumK p (nthL L i) cd (cellK p (nthL L i) 0) cd.length) = 0 := k1
        rw [hsum i hi] at k1; exact reg k1
      · have k1 : fsub p (nth (nthL L i) 4) (sumK p (nthL L i) cd (cellK p (nthL L i) 1) cd.length) = 0 := k1
        rw [hsum i hi] at k1; exact reg k1
      · have k1 : fsub p (nth (nthL L i) 5) (sumK p (nthL L i) cd (cellK p (nthL L i) 2) cd.length) = 0 := k1
        rw [hsum i hi] at k1; exact reg k1
    rw [← hc]
    exact hv.symm
  · have k1 : sumK p (nthL L i) cd (doesK p (nthL L i)) cd.length = 0 := tail_zero hb (i := i) 4 hi (by omega) (by omega) (by omega) (by omega)
    rwa [hsum i hi] at k1
  · have k1 : sumK p (nthL L i) cd (moreK p (nthL L i)) cd.length = 0 := tail_zero hb (i := i) 5 hi (by omega) (by omega) (by omega) (by omega)
    rwa [hsum i hi] at k1
  · have k1 : fsub p (nth (nthL L 0) 20) 1 = 0 := tail_zero hb (i := 0) 18 (by omega) (by omega) (by omega) (by omega) (by omega)
    have k2 := fsub_eq k1
    have k3 := (hQ 0 (by omega)).2 0 (by have := (hQ 0 (by omega)).1; omega)
    rw [Nat.add_zero, k2, Int.emod_eq_of_lt (by omega) (by omega)] at k3
    split at k3
    · rename_i e; exact e.symm
    · omega
  · have k1 : fsub p (nth (nthL L 0) 0) 1 = 0 := tail_zero hb (i := 0) 19 (by omega) (by omega) (by omega) (by omega) (by omega)
    exact fsub_eq k1
  · have k1 : fsub p (fsub p (nth (nthL L 0) 1) 1) sz = 0 := tail_zero hb (i := 0) 20 (by omega) (by omega) (by omega) (by omega) (by omega)
    have k2 : fsub p (nth (nthL L 0) 1 - 1) sz = 0 := by rw [← fsub_ml]; exact k1
    have k3 := fsub_eq k2
    unfold fof
    have e : nth (nthL L 0) 1 = 1 + (nth (nthL L 0) 1 - 1) := by omega
    rw [e, Int.add_emod, k3, ← Int.add_emod]
  · exact tail_zero hb (i := 0) 21 (by omega) (by omega) (by omega) (by omega) (by omega)
  · have k1 : fsub p (numK p (nthL L (i + 1)) cd.length) (sumK p (nthL L i) cd (goesK p (nthL L i)) cd.length) = 0 := nx i hi 12 (by omega) (by omega)
    have hq := (hQ (i + 1) hi).1
    rw [hsum i (by omega), num_hot2 (hQ (i + 1) hi).2 _ (Nat.le_refl _), if_pos hq] at k1
    have k2 := reg k1
    rwa [Int.emod_emod, Int.emod_eq_of_lt (by omega) (by omega)] at k2
  · have k1 : fsub p (nth (nthL L (i + 1)) 0) (sumK p (nthL L i) cd (fpK p (nthL L i)) cd.length) = 0 := nx i hi 13 (by omega) (by omega)
    rw [hsum i (by omega)] at k1; exact reg k1
  · have k1 : fsub p (nth (nthL L (i + 1)) 1) (sumK p (nthL L i) cd (apK p (nthL L i)) cd.length) = 0 := nx i hi 14 (by omega) (by omega)
    rw [hsum i (by omega)] at k1; exact reg k1
  · have k1 : fsub p (nth (nthL L (i + 1)) 2) (sumK p (nthL L i) cd (rvK (nthL L i)) cd.length) = 0 := nx i hi 15 (by omega) (by omega)
    rw [hsum i (by omega)] at k1; exact reg k1
  · have k1 : fsub p (sumK p (nthL L (L.length - 1)) cd haltK cd.length) 1 = 0 := tail_zero hb (i := L.length - 1) 24 (by omega) (by omega) (by omega) (by omega) (by omega)
    rw [hsum _ (by omega)] at k1
    have k2 := fsub_eq k1
    unfold haltK at k2
    split at k2
    · assumption
    · rw [Int.emod_emod, Int.emod_eq_of_lt (a := 1) (by omega) (by omega)] at k2; simp at k2
  · have k1 : fsub p (nth (nthL L (L.length - 1)) 7) out = 0 := tail_zero hb (i := L.length - 1) 25 (by omega) (by omega) (by omega) (by omega) (by omega)
    exact fsub_eq k1
/-- Rows that break no rule and whose pairs are alike are a run. -/
theorem rows_run (hp : Pr p) (hf : faultM p sz cd.length ((L.length : Int) - 1) = 0) (hb : ∀ k i, k < cd.length + 26 → i < L.length → badB p sz out cd L k i = false) (h1 : 1 ≤ L.length) (h4 : (4 * L.length : Int) ≤ p) (ha : alikeB p L = true) :
    walkM p sz cd ((L.length : Int) - 1) = .no 10 ∨ ∃ l mem, walkM p sz cd ((L.length : Int) - 1) = .done l (fof p out) mem := by
  have hl : (cd.length : Int) ≤ p := by
    unfold faultM at hf
    split at hf
    · omega
    · omega
  have hperm : (prsL p L 3 7).Perm (prsL p L 12 16) := by
    unfold alikeB at ha
    rw [Bool.and_eq_true] at ha
    by_cases h : (prsL p L 3 7).Perm (prsL p L 12 16)
    · exact h
    · have := ha.2; rw [permB_false h] at this; cases this
  obtain ⟨val, Q, hS, h0⟩ := rows_say hp hl hb h1 h4 hperm
  unfold walkM
  rw [if_pos hf]
  have hr := hS.run hp hl ((L.length : Int) - 1).toNat 0 [] [(0, 0)] [] (by omega) (fun a v hv => by
    unfold lk at hv
    simp only [List.find?_cons, List.find?_nil] at hv
    split at hv
    · rename_i e
      simp only [Option.map_some, Option.some.injEq] at hv
      simp only [beq_iff_eq] at e
      rw [← hv, ← e]; exact h0.symm
    · cases hv)
  rw [hS.pc0, hS.fp0, hS.ap0, hS.rv0] at hr
  exact hr
end
end Go.Att
