/- RulesSound, plain: what the rules that hold ask of a row: one mark; each cell has one value. No program in sight. -/
import Derived.Test.YtnmjaddhbecopaaGreatDoorZx9
import Derived.Test.YtnmjaddhbecopaaGreatDoorA2
namespace Go.Att
section
variable {p : Int}
theorem fadd_ml (a b : Int) : fadd p (a % p) b = fadd p a b := by simp [fadd]
theorem fadd_mr (a b : Int) : fadd p a (b % p) = fadd p a b := by simp [fadd]
theorem fmul_ml (a b : Int) : fmul p (a % p) b = fmul p a b := by unfold fmul; rw [Int.mul_emod, Int.emod_emod, ← Int.mul_emod]
theorem fmul_mr (a b : Int) : fmul p a (b % p) = fmul p a b := by rw [fmul_comm, fmul_ml, fmul_comm]
theorem fsub_ml (a b : Int) : fsub p (a % p) b = fsub p a b := by unfold fsub; rw [Int.sub_emod, Int.emod_emod, ← Int.sub_emod]
theorem fsub_mr (a b : Int) : fsub p a (b % p) = fsub p a b := by unfold fsub; rw [Int.sub_emod, Int.emod_emod, ← Int.sub_emod]
theorem fof_m (a : Int) : fof p (a % p) = fof p a := by simp [fof]
theorem fadd_m (a b : Int) : fadd p a b % p = fadd p a b := by simp [fadd]
theorem fmul_m (a b : Int) : fmul p a b % p = fmul p a b := by simp [fmul]
theorem fsub_m (a b : Int) : fsub p a b % p = fsub p a b := by simp [fsub]
theorem fof_mm (a : Int) : fof p a % p = fof p a := by simp [fof]
theorem fsub_eq {a b : Int} (h : fsub p a b = 0) : a % p = b % p := by
  unfold fsub at h
  have e : a = (a - b) + b := by omega
  rw [e, Int.add_emod, h]
  simp
/-- A mark is 0 or 1. -/
theorem bit_mod (hp : Pr p) {s : Int} (h : fsub p (fmul p s s) s = 0) : s % p = 0 ∨ s % p = 1 := by
  have h1 := fsub_eq h
  unfold fmul at h1
  rw [Int.emod_emod] at h1
  have hd : p ∣ s * (s - 1) := by
    have e : s * (s - 1) = s * s - s := by rw [Int.mul_sub]; simp
    rw [e]
    exact Int.dvd_of_emod_eq_zero (Int.emod_eq_emod_iff_emod_sub_eq_zero.1 h1)
  rcases hp.euclid hd with h2 | h2
  · exact .inl (Int.emod_eq_zero_of_dvd h2)
  · right
    have := Int.emod_eq_emod_iff_emod_sub_eq_zero.2 (Int.emod_eq_zero_of_dvd h2)
    rw [this]
    exact Int.emod_eq_of_lt (by omega) (by have := hp.two; omega)
/-- How many marks there are. -/
def cntK (p : Int) (r : List Int) : Nat → Nat
  | 0 => 0
  | k + 1 => cntK p r k + if nth r (20 + k) % p = 1 then 1 else 0
theorem cntK_le (r : List Int) (m : Nat) : cntK p r m ≤ m := by
  induction m with
  | zero => exact Nat.le_refl _
  | succ m ih => unfold cntK; split <;> omega
theorem cntK_none {r : List Int} {m : Nat} (h : cntK p r m = 0) : ∀ k, k < m → nth r (20 + k) % p ≠ 1 := by
  induction m with
  | zero => intro k hk; omega
  | succ m ih =>
    unfold cntK at h
    intro k hk
    split at h
    · omega
    · rename_i hn
      by_cases e : k = m
      · subst e; exact hn
      · exact ih (by omega) k (by omega)
theorem cntK_one {r : List Int} {m : Nat} (h : cntK p r m = 1) : ∃ q, q < m ∧ nth r (20 + q) % p = 1 ∧ ∀ k, k < m → k ≠ q → nth r (20 + k) % p ≠ 1 := by
  induction m with
  | zero => cases h
  | succ m ih =>
    unfold cntK at h
    split at h
    · rename_i hn
      have h0 := cntK_none (p := p) (r := r) (m := m) (by omega)
      exact ⟨m, by omega, hn, fun k hk hne => h0 k (by omega)⟩
    · rename_i hn
      obtain ⟨q, hq, h1, h2⟩ := ih (by omega)
      refine ⟨q, by omega, h1, fun k hk hne => ?_⟩
      by_cases e : k = m
      · subst e; exact hn
      · exact h2 k (by omega) hne
theorem sum_cnt {r : List Int} {cd : List In4} (hb : ∀ k, k < cd.length → nth r (20 + k) % p = 0 ∨ nth r (20 + k) % p = 1) : ∀ m, m ≤ cd.length → sumK p r cd oneK m = (cntK p r m : Int) % p := by
  intro m
  induction m with
  | zero => intro _; simp [sumK, cntK]
  | succ m ih =>
    intro hm
    rw [sumK, ih (by omega)]
    show _ = ((cntK p r m + if nth r (20 + m) % p = 1 then 1 else 0 : Nat) : Int) % p
    unfold oneK
    rw [← fmul_ml]
    rcases hb m (by omega) with h | h
    · rw [h, if_neg (by omega)]; simp [fadd, fmul]
    · rw [h, if_pos rfl]; simp [fadd, fmul]
/-- One mark. -/
theorem hot_row (hp : Pr p) {r : List Int} {cd : List In4} (hl : (cd.length : Int) ≤ p) (hh : ∀ k, k < cd.length → fsub p (fmul p (nth r (20 + k)) (nth r (20 + k))) (nth r (20 + k)) = 0)
    (ho : fsub p (sumK p r cd oneK cd.length) 1 = 0) : ∃ q, q < cd.length ∧ ∀ k, k < cd.length → nth r (20 + k) % p = if k = q then 1 else 0 := by
  have hb := fun k hk => bit_mod hp (hh k hk)
  have h2 := hp.two
  have hs := fsub_eq ho
  rw [sum_cnt hb _ (Nat.le_refl _), Int.emod_emod, Int.emod_eq_of_lt (a := 1) (by omega) (by omega)] at hs
  have hle := cntK_le (p := p) r cd.length
  have hc : cntK p r cd.length = 1 := by
    by_cases e : (cntK p r cd.length : Int) = p
    · rw [e] at hs; simp at hs
    · rw [Int.emod_eq_of_lt (by omega) (by omega)] at hs; omega
  obtain ⟨q, hq, h1, h3⟩ := cntK_one hc
  refine ⟨q, hq, fun k hk => ?_⟩
  split
  · rename_i e; rw [e]; exact h1
  · rename_i e
    rcases hb k hk with h | h
    · exact h
    · exact absurd h (h3 k hk e)
theorem sum_hot2 {r : List Int} {cd : List In4} {q : Nat} (hr : ∀ k, k < cd.length → nth r (20 + k) % p = if k = q then 1 else 0) (g : Nat → In4 → Int) :
    ∀ m, m ≤ cd.length → sumK p r cd g m = if q < m then g q (nthI cd q) % p else 0 := by
  intro m
  induction m with
  | zero => intro _; rfl
  | succ m ih =>
    intro hm
    rw [sumK, ih (by omega), ← fmul_ml, hr m (by omega)]
    by_cases e : m = q
    · subst e
      rw [if_pos rfl, if_neg (by omega), if_pos (by omega)]
      simp [fadd, fmul]
    · rw [if_neg e]
      by_cases e2 : q < m
      · rw [if_pos e2, if_pos (by omega)]
        simp [fadd, fmul]
      · rw [if_neg e2, if_neg (by omega)]
        simp [fadd, fmul]
theorem num_hot2 {r : List Int} {L q : Nat} (hr : ∀ k, k < L → nth r (20 + k) % p = if k = q then 1 else 0) :
    ∀ m, m ≤ L → numK p r m = if q < m then (q : Int) % p else 0 := by
  intro m
  induction m with
  | zero => intro _; rfl
  | succ m ih =>
    intro hm
    rw [numK, ih (by omega), ← fmul_mr, hr m (by omega)]
    by_cases e : m = q
    · subst e
      rw [if_pos rfl, if_neg (by omega), if_pos (by omega)]
      simp [fadd, fmul]
    · rw [if_neg e]
      by_cases e2 : q < m
      · rw [if_pos e2, if_pos (by omega)]
        simp [fadd, fmul]
      · rw [if_neg e2, if_neg (by omega)]
        simp [fadd, fmul]
theorem fsub_one (a b : Int) : fsub p (fsub p a b) 1 = fsub p a (b + 1) := by
  show fsub p ((a - b) % p) 1 = _
  rw [fsub_ml]
  unfold fsub
  rw [show a - b - 1 = a - (b + 1) by omega]
/-- What the rules of an order say. -/
theorem ord_says (hp : Pr p) {b w c x : Int} (h0 : fmul p (fsub p c b) (fsub p (fsub p c b) 1) = 0) (h1 : fmul p (fsub p (fsub p c b) 1) (fsub p x w) = 0) :
    (c % p = b % p ∧ x % p = w % p) ∨ c % p = (b + 1) % p := by
  have hmul : ∀ {a b : Int}, fmul p a b = 0 → a % p = 0 ∨ b % p = 0 := fun h => by
    unfold fmul at h
    rcases hp.euclid (Int.dvd_of_emod_eq_zero h) with h | h
    · exact .inl (Int.emod_eq_zero_of_dvd h)
    · exact .inr (Int.emod_eq_zero_of_dvd h)
  have h2 := hp.two
  have k2 : fsub p (fsub p c b) 1 = 0 → c % p = (b + 1) % p := fun h => by
    rw [fsub_one] at h
    exact fsub_eq h
  rcases hmul h1 with h3 | h3
  · rw [fsub_m] at h3
    exact .inr (k2 h3)
  · rw [fsub_m] at h3
    rcases hmul h0 with h4 | h4
    · rw [fsub_m] at h4
      exact .inl ⟨fsub_eq h4, fsub_eq h3⟩
    · rw [fsub_m] at h4
      exact .inr (k2 h4)
end
/-- Pairs in order: each tells one value. -/
structure Ord1 (p : Int) (S : List (Int × Int)) : Prop where
  z : nthP S 0 = (0, 0)
  nx : ∀ j, j + 1 < S.length → nthP S (j + 1) = nthP S j ∨ (nthP S (j + 1)).1 = ((nthP S j).1 + 1) % p
  le : (S.length : Int) ≤ p
section
variable {p : Int} {S : List (Int × Int)}
theorem Ord1.bd (h : Ord1 p S) : ∀ j, j < S.length → 0 ≤ (nthP S j).1 ∧ (nthP S j).1 ≤ j := by
  intro j
  induction j with
  | zero => intro _; rw [h.z]; simp
  | succ j ih =>
    intro hj
    have hi := ih (by omega)
    rcases h.nx j hj with e | e
    · rw [e]; omega
    · have := h.le
      rw [e, Int.emod_eq_of_lt (by omega) (by omega)]; omega
theorem Ord1.up (h : Ord1 p S) {i : Nat} : ∀ d, i + d < S.length → (nthP S i).1 < (nthP S (i + d)).1 ∨ nthP S (i + d) = nthP S i := by
  intro d
  induction d with
  | zero => intro _; exact .inr rfl
  | succ d ih =>
    intro hd
    have hi := ih (by omega)
    rcases h.nx (i + d) hd with e | e
    · rw [← Nat.add_assoc, e]; exact hi
    · have hb := h.bd (i + d) (by omega)
      have := h.le
      rw [Int.emod_eq_of_lt (by omega) (by omega)] at e
      rw [← Nat.add_assoc, e]
      left
      rcases hi with hi | hi
      · omega
      · rw [hi]; omega
theorem Ord1.same (h : Ord1 p S) {a b : Int × Int} (ha : a ∈ S) (hb : b ∈ S) (e : a.1 = b.1) : a = b := by
  obtain ⟨i, hi, rfl⟩ := List.getElem_of_mem ha
  obtain ⟨j, hj, rfl⟩ := List.getElem_of_mem hb
  rw [← nthP_eq hi, ← nthP_eq hj] at e ⊢
  rcases Nat.le_total i j with hij | hij
  · obtain ⟨d, rfl⟩ := Nat.le.dest hij
    rcases h.up (i := i) d hj with h1 | h1
    · omega
    · exact h1.symm
  · obtain ⟨d, rfl⟩ := Nat.le.dest hij
    rcases h.up (i := j) d hi with h1 | h1
    · omega
    · exact h1
/-- What a place is. -/
def valP (S : List (Int × Int)) (a : Int) : Int := (lk S a).getD 0
theorem Ord1.val (h : Ord1 p S) {c : Int × Int} (hc : c ∈ S) : c.2 = valP S c.1 := by
  unfold valP
  cases hl : lk S c.1 with
  | none =>
    exfalso
    unfold lk at hl
    rw [Option.map_eq_none_iff, List.find?_eq_none] at hl
    exact hl c hc (by simp)
  | some v =>
    have hm := lk_mem hl
    have := h.same hm hc rfl
    rw [← this]; rfl
theorem Ord1.val0 (h : Ord1 p S) (hl : 0 < S.length) : valP S 0 = 0 := by
  have hm : ((0, 0) : Int × Int) ∈ S := by
    have h1 := List.getElem_mem (l := S) hl
    rw [← nthP_eq hl, h.z] at h1
    exact h1
  exact (h.val hm).symm
end
end Go.Att
