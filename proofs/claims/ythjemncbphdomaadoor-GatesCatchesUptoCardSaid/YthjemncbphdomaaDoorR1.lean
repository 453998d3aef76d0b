/- What is not so is seen by nearly all numbers: plain laws. -/
import Derived.Test.YthjemncbphdomaaDoorQ2
import Derived.Test.YthjemncbphdomaaDoorP7
import Derived.Test.YthjemncbphdomaaDoorFc
namespace Go.Att
theorem PolyN.sub {m : Nat} {f g : Int → Int} (h1 : PolyN m f) (h2 : PolyN m g) : PolyN m fun t => f t - g t :=
  (h1.add (h2.smul (-1))).congr fun t => by omega
theorem eq_mod_sub {p a b : Int} (h : a % p = b % p) : (a - b) % p = 0 := Int.emod_eq_emod_iff_emod_sub_eq_zero.1 h
theorem mod_sub_eq {p a b : Int} (h : (a - b) % p = 0) : a % p = b % p := Int.emod_eq_emod_iff_emod_sub_eq_zero.2 h
theorem idx_apart {p : Int} (n : Nat) (hn : (n : Int) ≤ p) (m i : Nat) (hm : m < n) (hi : i < n) (h : i ≠ m) : ¬ p ∣ nth (idxL n) m - nth (idxL n) i := by
  rw [idxL_nth n m hm, idxL_nth n i hi]
  intro ⟨k, hk⟩
  have h1 : ((m : Int) - i) < p := by omega
  have h2 : -p < ((m : Int) - i) := by omega
  rw [hk] at h1 h2
  have k0 : k = 0 := by
    rcases Int.lt_trichotomy k 0 with h | h | h
    · have : p * k ≤ p * (-1) := Int.mul_le_mul_of_nonneg_left (by omega) (by omega)
      omega
    · exact h
    · have : p * 1 ≤ p * k := Int.mul_le_mul_of_nonneg_left (by omega) (by omega)
      omega
  rw [k0] at hk
  omega
/-- A claim about a layer's sum that is not so, and any three numbers that have its sum: at most two elements hide it. -/
theorem catch1 {p : Int} (hp : Pr p) (h3 : 3 ≤ p) (l : List Gt) (n : Nat) (hn : 1 ≤ n) (t z told : List Int) (k : Nat) (ht : told.length = 3) (hc : fadd p (nth told 0) (nth told 1) ≠ partS l n t z [] k % p) :
    cntN (fun r => ev (fitL p (idxL told.length) told) (r : Int) % p == partS l n t z [(r : Int)] k % p) p.toNat ≤ 2 := by
  have h1 : PolyN 3 (fun r => ev (fitL p (idxL told.length) told) r) := PolyN.mono ⟨_, rfl, fun _ => rfl⟩ (by have := fitL_length p (idxL told.length) told; rw [idxL_length] at this; omega)
  have h2 := h1.sub (partS_one l n t z k hn)
  have h4 := few_roots hp h2 (fun r => ev (fitL p (idxL told.length) told) (r : Int) % p == partS l n t z [(r : Int)] k % p) p.toNat (by omega) (fun i _ hP => eq_mod_sub (by simpa using hP))
  rcases h4 with h | h
  · omega
  · exfalso
    apply hc
    have e0 := mod_sub_eq (h 0)
    have e1 := mod_sub_eq (h 1)
    have f0 := fit_at hp (idxL told.length) told 0 (by rw [idxL_length, ht]; decide) (fun i hi hne => by rw [idxL_length] at hi; exact idx_apart _ (by omega) 0 i (by omega) hi hne)
    have f1 := fit_at hp (idxL told.length) told 1 (by rw [idxL_length, ht]; decide) (fun i hi hne => by rw [idxL_length] at hi; exact idx_apart _ (by omega) 1 i (by omega) hi hne)
    rw [idxL_nth _ _ (by omega)] at f0 f1
    have g0 : ev (fitL p (idxL told.length) told) 0 % p = nth told 0 % p := f0
    have g1 : ev (fitL p (idxL told.length) told) 1 % p = nth told 1 % p := f1
    have sn := partS_snoc l n t z [] k (by simp; omega)
    rw [List.nil_append, List.nil_append] at sn
    rw [sn]
    exact (madd (g0.symm.trans e0) (g1.symm.trans e1))
/-- Is one of the first unlike, up to a place? -/
def unlN (P : Nat → Bool) (v : Nat) : Nat → Bool
  | 0 => false
  | t + 1 => unlN P v t || (decide (t ≤ v) && !P t)
theorem unlN_true {P : Nat → Bool} {v n : Nat} (h : unlN P v n = true) : ∃ s, s < n ∧ s ≤ v ∧ P s = false := by
  induction n with
  | zero => cases h
  | succ n ih =>
    simp only [unlN, Bool.or_eq_true, Bool.and_eq_true, decide_eq_true_eq, Bool.not_eq_true'] at h
    rcases h with h | h
    · obtain ⟨s, h1, h2⟩ := ih h; exact ⟨s, by omega, h2⟩
    · exact ⟨n, by omega, h.1, h.2⟩
theorem unlN_false {P : Nat → Bool} {v n : Nat} (h : unlN P v n = false) : ∀ s, s < n → s ≤ v → P s = true := by
  induction n with
  | zero => intro s hs; omega
  | succ n ih =>
    simp only [unlN, Bool.or_eq_false_iff] at h
    intro s hs hv
    by_cases e : s = n
    · subst e
      have := h.2
      rw [decide_eq_true hv] at this
      simpa using this
    · exact ih h.1 s (by omega) hv
/-- A line that is not so: at most as many elements hide it as there are variables. -/
theorem catch2 {p : Int} (hp : Pr p) (T x y line : List Int) (v : Nat) (hx : x.length = v) (hy : y.length = v) (hl : line.length = v + 1) (P : Nat → Bool)
    (hP : ∀ s, P s = (ev (fitL p (idxL line.length) line) (s : Int) % p == ext T (onL p x y (s : Int)) % p)) :
    (unlN P v p.toNat = false → cntN P p.toNat = p.toNat) ∧ (unlN P v p.toNat = true → cntN P p.toNat ≤ v) := by
  have hp2 := hp.two
  have h1 : PolyN (v + 1) (fun t => ev (fitL p (idxL line.length) line) t) := PolyN.mono ⟨_, rfl, fun _ => rfl⟩ (by have := fitL_length p (idxL line.length) line; rw [idxL_length] at this; omega)
  have h2 := h1.sub (hx ▸ ext_line T x y (by omega))
  have hR : ∀ i : Nat, P i = true → ((ev (fitL p (idxL line.length) line) (i : Int)) - ext T (lineZ x y (i : Int))) % p = 0 := fun i h => by
    rw [hP] at h
    exact eq_mod_sub ((by simpa using h : _ = _).trans (ext_on p T x y i (by omega)))
  have hB : (∀ t, ((ev (fitL p (idxL line.length) line) t) - ext T (lineZ x y t)) % p = 0) → ∀ i : Nat, P i = true := fun h i => by
    rw [hP, beq_iff_eq, ext_on p T x y i (by omega)]
    exact mod_sub_eq (h i)
  constructor
  · intro hu
    have hall := unlN_false hu
    by_cases hv : (v : Int) < p
    · have h4 := few_roots hp h2 P (v + 1) (by omega) (fun i _ h => hR i h)
      rw [cntN_all (fun i hi => hall i (by omega) (by omega))] at h4
      rcases h4 with h4 | h4
      · omega
      · exact cntN_all fun i _ => hB h4 i
    · exact cntN_all fun i hi => hall i hi (by omega)
  · intro hu
    obtain ⟨s, s1, s2, s3⟩ := unlN_true hu
    have h4 := few_roots hp h2 P p.toNat (by omega) (fun i _ h => hR i h)
    rcases h4 with h4 | h4
    · omega
    · rw [hB h4 s] at s3; cases s3
end Go.Att
