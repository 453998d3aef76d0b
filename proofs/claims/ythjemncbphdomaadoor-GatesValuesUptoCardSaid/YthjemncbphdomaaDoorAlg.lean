/- Plain algebra modulo a prime: Euclid's lemma, inverses, roots of polynomials; the operations of the field. No program in sight. -/
namespace Go.Att

/-- A prime, by trial division. -/
structure Pr (p : Int) : Prop where
  two : 2 ≤ p
  no : ∀ d : Int, 2 ≤ d → d * d ≤ p → ¬ d ∣ p

/-- No divisor strictly between 1 and p. -/
theorem Pr.no_div {p : Int} (h : Pr p) {d : Int} (h1 : 2 ≤ d) (h2 : d < p) : ¬ d ∣ p := by
  intro ⟨e, he⟩
  have hp := h.two
  have he1 : 2 ≤ e := by
    rcases Int.lt_or_le e 2 with hlt | hle
    · exfalso
      rcases Int.lt_or_le e 1 with h0 | h0
      · have : d * e ≤ 0 := Int.mul_nonpos_of_nonneg_of_nonpos (by omega) (by omega)
        omega
      · have : e = 1 := by omega
        subst this; omega
    · exact hle
  rcases Int.le_total d e with hde | hde
  · exact h.no d h1 (by rw [he]; exact Int.mul_le_mul_of_nonneg_left hde (by omega)) ⟨e, he⟩
  · exact h.no e he1 (by rw [he]; exact Int.mul_le_mul_of_nonneg_right hde (by omega)) ⟨d, by rw [he]; exact Int.mul_comm _ _⟩

theorem Pr.gcd {p : Int} (h : Pr p) {a : Int} (ha : ¬ p ∣ a) : Int.gcd p a = 1 := by
  have hp := h.two
  have hd : ((Int.gcd p a : Nat) : Int) ∣ p := Int.gcd_dvd_left ..
  have hda : ((Int.gcd p a : Nat) : Int) ∣ a := Int.gcd_dvd_right ..
  have hle : ((Int.gcd p a : Nat) : Int) ≤ p := Int.le_of_dvd (by omega) hd
  have hne : ((Int.gcd p a : Nat) : Int) ≠ p := fun e => ha (e ▸ hda)
  have h0 : Int.gcd p a ≠ 0 := by
    intro e; rw [Int.gcd_eq_zero_iff] at e; omega
  rcases Nat.lt_or_ge (Int.gcd p a) 2 with h2 | h2
  · omega
  · exact absurd hd (h.no_div (by omega) (by omega))

theorem Pr.euclid {p : Int} (h : Pr p) {a b : Int} (hab : p ∣ a * b) : p ∣ a ∨ p ∣ b := by
  by_cases ha : p ∣ a
  · exact .inl ha
  · right
    have hg := h.gcd ha
    have h1 : p.natAbs ∣ a.natAbs * b.natAbs := by rw [← Int.natAbs_mul]; exact Int.natAbs_dvd_natAbs.2 hab
    have h2 : Nat.Coprime p.natAbs a.natAbs := hg
    exact Int.natAbs_dvd_natAbs.1 (h2.dvd_of_dvd_mul_left h1)

/-- What a list of coefficients comes to at x, the least place first. -/
def ev : List Int → Int → Int
  | [], _ => 0
  | c :: l, x => c + x * ev l x

/-- Division by (x - a): the quotient. -/
def quot : List Int → Int → List Int
  | [], _ => []
  | [_], _ => []
  | _ :: d :: l, a => ev (d :: l) a :: quot (d :: l) a

theorem quot_length (l : List Int) (a : Int) : (quot l a).length = l.length - 1 := by
  induction l with
  | nil => rfl
  | cons c l ih =>
    cases l with
    | nil => rfl
    | cons d l => simp only [quot, List.length_cons] at *; omega

theorem quot_spec (l : List Int) (a x : Int) : ev l x - ev l a = (x - a) * ev (quot l a) x := by
  induction l with
  | nil => simp [ev, quot]
  | cons c l ih =>
    cases l with
    | nil => simp [ev, quot]
    | cons d l =>
      simp only [quot, ev] at *
      grind

/-- If all coefficients of the quotient vanish, all of the list but the first do. -/
theorem quot_zero {p : Int} (l : List Int) (a : Int) (h : ∀ c ∈ quot l a, p ∣ c) : ∀ c ∈ l.tail, p ∣ c := by
  induction l with
  | nil => simp
  | cons c l ih =>
    cases l with
    | nil => simp
    | cons d l =>
      intro e he
      simp only [List.tail_cons] at he
      have h1 : p ∣ ev (d :: l) a := h _ (by simp [quot])
      have h2 : ∀ c ∈ quot (d :: l) a, p ∣ c := fun c hc => h c (by simp [quot, hc])
      have h3 := ih h2
      rcases List.mem_cons.1 he with rfl | he'
      · have h4 : p ∣ ev l a := by
          clear ih h h1 h2 he
          simp only [List.tail_cons] at h3
          induction l with
          | nil => exact Int.dvd_zero _
          | cons f l ih => exact Int.dvd_add (h3 _ (by simp)) (Int.dvd_mul_of_dvd_right (ih (fun c hc => h3 c (by simp [hc]))))
        have h5 : e = ev (e :: l) a - a * ev l a := by simp only [ev]; omega
        rw [h5]
        exact Int.dvd_sub h1 (Int.dvd_mul_of_dvd_right h4)
      · exact h3 e (by simpa using he')

/-- A polynomial that is not 0 has fewer roots than coefficients. -/
theorem roots {p : Int} (hp : Pr p) (l : List Int) (hl : ∃ c ∈ l, ¬ p ∣ c) (xs : List Int) (hx : xs.Pairwise fun a b => ¬ p ∣ a - b) (hr : ∀ x ∈ xs, p ∣ ev l x) :
    xs.length < l.length := by
  induction xs generalizing l with
  | nil =>
    obtain ⟨c, hc, _⟩ := hl
    exact List.length_pos_of_mem hc
  | cons a xs ih =>
    have ha := hr a (by simp)
    by_cases hq : ∃ c ∈ quot l a, ¬ p ∣ c
    · have := ih (quot l a) hq (List.pairwise_cons.1 hx).2 (fun x hxm => by
        have h1 : p ∣ ev l x - ev l a := Int.dvd_sub (hr x (by simp [hxm])) ha
        rw [quot_spec] at h1
        refine (hp.euclid h1).resolve_left ?_
        have := (List.pairwise_cons.1 hx).1 x hxm
        intro h; apply this
        have e : a - x = -(x - a) := by omega
        rw [e]; exact Int.dvd_neg.2 h)
      rw [quot_length] at this
      simp only [List.length_cons]
      omega
    · exfalso
      have hq' : ∀ c ∈ quot l a, p ∣ c := fun c hc => Classical.byContradiction fun hn => hq ⟨c, hc, hn⟩
      have ht := quot_zero l a hq'
      obtain ⟨c, hc, hn⟩ := hl
      cases l with
      | nil => simp at hc
      | cons d l =>
        rcases List.mem_cons.1 hc with rfl | hc'
        · apply hn
          have : p ∣ ev l a := by
            clear ih hr ha hq hq' hn hc
            simp only [List.tail_cons] at ht
            induction l with
            | nil => exact Int.dvd_zero _
            | cons f l ih => exact Int.dvd_add (ht _ (by simp)) (Int.dvd_mul_of_dvd_right (ih (fun c hc => ht c (by simp [hc]))))
          have h5 : c = ev (c :: l) a - a * ev l a := by simp only [ev]; omega
          rw [h5]
          exact Int.dvd_sub ha (Int.dvd_mul_of_dvd_right this)
        · exact hn (ht c hc')

/-! The operations. -/
def fof (p n : Int) : Int := n % p
def fadd (p a b : Int) : Int := (a + b) % p
def fsub (p a b : Int) : Int := (a - b) % p
def fmul (p a b : Int) : Int := (a * b) % p
def fpow (p a : Int) (n : Nat) : Int := a ^ n % p
def finv (p a : Int) : Int := a ^ (p - 2).toNat % p
def fdiv (p a b : Int) : Int := (a * finv p b) % p

section
variable {p : Int} (hp : 2 ≤ p)
include hp
theorem mod_bd (a : Int) : 0 ≤ a % p ∧ a % p < p := ⟨Int.emod_nonneg a (by omega), Int.emod_lt_of_pos a (by omega)⟩
theorem fof_bd (a : Int) : 0 ≤ fof p a ∧ fof p a < p := mod_bd hp _
theorem fadd_bd (a b : Int) : 0 ≤ fadd p a b ∧ fadd p a b < p := mod_bd hp _
theorem fsub_bd (a b : Int) : 0 ≤ fsub p a b ∧ fsub p a b < p := mod_bd hp _
theorem fmul_bd (a b : Int) : 0 ≤ fmul p a b ∧ fmul p a b < p := mod_bd hp _
theorem fpow_bd (a : Int) (n : Nat) : 0 ≤ fpow p a n ∧ fpow p a n < p := mod_bd hp _
theorem finv_bd (a : Int) : 0 ≤ finv p a ∧ finv p a < p := mod_bd hp _
theorem fdiv_bd (a b : Int) : 0 ≤ fdiv p a b ∧ fdiv p a b < p := mod_bd hp _

/-- Go's remainder, and what makes an element of it. -/
theorem tm (n : Int) : -p < n.tmod p ∧ n.tmod p < p ∧ (n.tmod p < 0 → n.tmod p + p = fof p n) ∧ (0 ≤ n.tmod p → n.tmod p = fof p n) := by
  have h1 := Int.emod_nonneg n (show p ≠ 0 by omega)
  have h2 := Int.emod_lt_of_pos n (show 0 < p by omega)
  have h3 := Int.tmod_eq_emod (a := n) (b := p)
  unfold fof
  by_cases h : 0 ≤ n ∨ p ∣ n
  · rw [if_pos h] at h3
    omega
  · rw [if_neg h] at h3
    have : n % p ≠ 0 := fun e => h (.inr (Int.dvd_of_emod_eq_zero e))
    omega
/-- The product of two elements is small. -/
theorem mul_small {x y : Int} (h31 : p ≤ 2147483647) (hx : 0 ≤ x ∧ x < p) (hy : 0 ≤ y ∧ y < p) : 0 ≤ x * y ∧ x * y ≤ 4611686014132420609 := by
  refine ⟨Int.mul_nonneg hx.1 hy.1, ?_⟩
  have : x * y ≤ 2147483647 * 2147483647 := Int.mul_le_mul (by omega) (by omega) hy.1 (by omega)
  omega
end

theorem fadd_of (p a b : Int) : (fof p a + fof p b) % p = fadd p a b := by simp [fof, fadd]
theorem fsub_of (p a b : Int) : fof p (fof p a - fof p b) = fsub p a b := by simp [fof, fsub, Int.sub_emod]
theorem fsub_of' (p a b : Int) : (fof p a + p - fof p b) % p = fsub p a b := by
  have e : fof p a + p - fof p b = (fof p a - fof p b) + p := by omega
  rw [e]; simp [fof, fsub, Int.sub_emod]
theorem fmul_of (p a b : Int) : (fof p a * fof p b) % p = fmul p a b := by simp [fof, fmul, Int.mul_emod]
theorem mod_of_eq {p a b : Int} (h : a % p = b % p) (c : Int) : (a * c) % p = (b * c) % p := by rw [Int.mul_emod, h, ← Int.mul_emod]
theorem fdiv_of (p a b : Int) : fmul p a (finv p b) = fdiv p a b := rfl
theorem finv_eq (p a : Int) : fpow p a (p - 2).toNat = finv p a := rfl

theorem pow_mod (p a : Int) (n : Nat) : (a % p) ^ n % p = a ^ n % p := by
  induction n with
  | zero => simp
  | succ n ih => rw [Int.pow_succ, Int.pow_succ, Int.mul_emod, ih, Int.emod_emod, ← Int.mul_emod]
theorem pow_sq (a : Int) (n : Nat) : (a * a) ^ n = a ^ (2 * n) := by
  rw [Int.pow_mul]; congr 1; simp [Int.pow_succ]
/-- Powers by squares: the step of the loop. -/
theorem pow_step {p x a c : Int} {n : Nat} (h : (x * a ^ n) % p = c) :
    (((x * a ^ (n % 2)) % p) * (a * a % p) ^ (n / 2)) % p = c := by
  rw [← h]
  have e : a ^ n = a ^ (n % 2) * (a * a) ^ (n / 2) := by
    rw [pow_sq, ← Int.pow_add]
    congr 1; omega
  rw [e, ← Int.mul_assoc]
  rw [Int.mul_emod, Int.emod_emod, pow_mod, ← Int.mul_emod]
end Go.Att
