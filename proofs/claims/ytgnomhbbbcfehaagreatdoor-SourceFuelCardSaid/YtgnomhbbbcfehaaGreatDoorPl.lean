/- Plain algebra modulo a prime: Euclid's lemma, inverses, roots of polynomials; the operations of the field. No program in sight. -/

/-! Plain algebra modulo a prime: Euclid's lemma, inverses, roots of polynomials; the operations of the field. No program in sight. -/
namespace Go.Att

structure Pr (p : Int) : Prop where
  two : 2 ≤ p
  no : ∀ d : Int, 2 ≤ d → d * d ≤ p → ¬ d ∣ p

theorem Pr.no_div {p : Int} (h : Pr p) {d : Int} (h1 : 2 ≤ d) (h2 : d < p) : ¬ d ∣ p := by
  intro ⟨e, he⟩
  have hp := h.two
  have he1 : 2 ≤ e := by
    rcases Int.lt_or_le e 2 with hlt | hle
    · exfalso
      rcases Int.lt_or_le e 1 with h0 | h0
      · have : d * e ≤ 0 := Int.mul_nonpos_of_nonneg_of_nonpos (by omega) (by omega)
        omega
      · have : e = 1 := by omega
        subst this; omega
    · exact hle
  rcases Int.le_total d e with hde | hde
  · exact h.no d h1 (by rw [he]; exact Int.mul_le_mul_of_nonneg_left hde (by omega)) ⟨e, he⟩
  · exact h.no e he1 (by rw [he]; exact Int.mul_le_mul_of_nonneg_right hde (by omega)) ⟨d, by rw [he]; exact Int.mul_comm _ _⟩

theorem Pr.gcd {p : Int} (h : Pr p) {a : Int} (ha : ¬ p ∣ a) : Int.gcd p a = 1 := by
  have hp := h.two
  have hd : ((Int.gcd p a : Nat) : Int) ∣ p := Int.gcd_dvd_left ..
  have hda : ((Int.gcd p a : Nat) : Int) ∣ a := Int.gcd_dvd_right ..
  have hle : ((Int.gcd p a : Nat) : Int) ≤ p := Int.le_of_dvd (by omega) hd
  have hne : ((Int.gcd p a : Nat) : Int) ≠ p := fun e => ha (e ▸ hda)
  have h0 : Int.gcd p a ≠ 0 := by
    intro e; rw [Int.gcd_eq_zero_iff] at e; omega
  rcases Nat.lt_or_ge (Int.gcd p a) 2 with h2 | h2
  · omega
  · exact absurd hd (h.no_div (by omega) (by omega))

theorem Pr.euclid {p : Int} (h : Pr p) {a b : Int} (hab : p ∣ a * b) : p ∣ a ∨ p ∣ b := by
  by_cases ha : p ∣ a
  · exact .inl ha
  · right
    have hg := h.gcd ha
    have h1 : p.natAbs ∣ a.natAbs * b.natAbs := by rw [← Int.natAbs_mul]; exact Int.natAbs_dvd_natAbs.2 hab
    have h2 : Nat.Coprime p.natAbs a.natAbs := hg
    exact Int.natAbs_dvd_natAbs.1 (h2.dvd_of_dvd_mul_left h1)

def ev : List Int → Int → Int
  | [], _ => 0
  | c :: l, x => c + x * ev l x

def quot : List Int → Int → List Int
  | [], _ => []
  | [_], _ => []
  | _ :: d :: l, a => ev (d :: l) a :: quot (d :: l) a

theorem quot_length (l : List Int) (a : Int) : (quot l a).length = l.length - 1 := by
  induction l with
  | nil => rfl
  | cons c l ih =>
    cases l with
    | nil => rfl
    | cons d l => simp only [quot, List.length_cons] at *; omega

theorem quot_spec (l : List Int) (a x : Int) : ev l x - ev l a = (x - a) * ev (quot l a) x := by
  induction l with
  | nil => simp [ev, quot]
  | cons c l ih =>
    cases l with
    | nil => simp [ev, quot]
    | cons d l =>
      simp only [quot, ev] at *
      grind

theorem quot_zero {p : Int} (l : List Int) (a : Int) (h : ∀ c ∈ quot l a, p ∣ c) : ∀ c ∈ l.tail, p ∣ c := by
  induction l with
  | nil => simp
  | cons c l ih =>
    cases l with
    | nil => simp
    | cons d l =>
      intro e he
      simp only [List.tail_cons] at he
      have h1 : p ∣ ev (d :: l) a := h _ (by simp [quot])
      have h2 : ∀ c ∈ quot (d :: l) a, p ∣ c := fun c hc => h c (by simp [quot, hc])
      have h3 := ih h2
      rcases List.mem_cons.1 he with rfl | he'
      · have h4 : p ∣ ev l a := by
          clear ih h h1 h2 he
          simp only [List.tail_cons] at h3
          induction l with
          | nil => exact Int.dvd_zero _
          | cons f l ih => exact Int.dvd_add (h3 _ (by simp)) (Int.dvd_mul_of_dvd_right (ih (fun c hc => h3 c (by simp [hc]))))
        have h5 : e = ev (e :: l) a - a * ev l a := by simp only [ev]; omega
        rw [h5]
        exact Int.dvd_sub h1 (Int.dvd_mul_of_dvd_right h4)
      · exact h3 e (by simpa using he')

theorem roots {p : Int} (hp : Pr p) (l : List Int) (hl : ∃ c ∈ l, ¬ p ∣ c) (xs : List Int) (hx : xs.Pairwise fun a b => ¬ p ∣ a - b) (hr : ∀ x ∈ xs, p ∣ ev l x) :
    xs.length < l.length := by
  induction xs generalizing l with
  | nil =>
    obtain ⟨c, hc, _⟩ := hl
    exact List.length_pos_of_mem hc
  | cons a xs ih =>
    have ha := hr a (by simp)
    by_cases hq : ∃ c ∈ quot l a, ¬ p ∣ c
    · have := ih (quot l a) hq (List.pairwise_cons.1 hx).2 (fun x hxm => by
        have h1 : p ∣ ev l x - ev l a := Int.dvd_sub (hr x (by simp [hxm])) ha
        rw [quot_spec] at h1
        refine (hp.euclid h1).resolve_left ?_
        have := (List.pairwise_cons.1 hx).1 x hxm
        intro h; apply this
        have e : a - x = -(x - a) := by omega
        rw [e]; exact Int.dvd_neg.2 h)
      rw [quot_length] at this
      simp only [List.length_cons]
      omega
    · exfalso
      have hq' : ∀ c ∈ quot l a, p ∣ c := fun c hc => Classical.byContradiction fun hn => hq ⟨c, hc, hn⟩
      have ht := quot_zero l a hq'
      obtain ⟨c, hc, hn⟩ := hl
      cases l with
      | nil => simp at hc
      | cons d l =>
        rcases List.mem_cons.1 hc with rfl | hc'
        · apply hn
          have : p ∣ ev l a := by
            clear ih hr ha hq hq' hn hc
            simp only [List.tail_cons] at ht
            induction l with
            | nil => exact Int.dvd_zero _
            | cons f l ih => exact Int.dvd_add (ht _ (by simp)) (Int.dvd_mul_of_dvd_right (ih (fun c hc => ht c (by simp [hc]))))
          have h5 : c = ev (c :: l) a - a * ev l a := by simp only [ev]; omega
          rw [h5]
          exact Int.dvd_sub ha (Int.dvd_mul_of_dvd_right this)
        · exact hn (ht c hc')

/-! The operations. -/
def fof (p n : Int) : Int := n % p
def fadd (p a b : Int) : Int := (a + b) % p
def fsub (p a b : Int) : Int := (a - b) % p
def fmul (p a b : Int) : Int := (a * b) % p
def fpow (p a : Int) (n : Nat) : Int := a ^ n % p
def finv (p a : Int) : Int := a ^ (p - 2).toNat % p
def fdiv (p a b : Int) : Int := (a * finv p b) % p

section
variable {p : Int} (hp : 2 ≤ p)
include hp
theorem mod_bd (a : Int) : 0 ≤ a % p ∧ a % p < p := ⟨Int.emod_nonneg a (by omega), Int.emod_lt_of_pos a (by omega)⟩
theorem fof_bd (a : Int) : 0 ≤ fof p a ∧ fof p a < p := mod_bd hp _
theorem fadd_bd (a b : Int) : 0 ≤ fadd p a b ∧ fadd p a b < p := mod_bd hp _
theorem fsub_bd (a b : Int) : 0 ≤ fsub p a b ∧ fsub p a b < p := mod_bd hp _
theorem fmul_bd (a b : Int) : 0 ≤ fmul p a b ∧ fmul p a b < p := mod_bd hp _
theorem fdiv_bd (a b : Int) : 0 ≤ fdiv p a b ∧ fdiv p a b < p := mod_bd hp _

theorem tm (n : Int) : -p < n.tmod p ∧ n.tmod p < p ∧ (n.tmod p < 0 → n.tmod p + p = fof p n) ∧ (0 ≤ n.tmod p → n.tmod p = fof p n) := by
  have h1 := Int.emod_nonneg n (show p ≠ 0 by omega)
  have h2 := Int.emod_lt_of_pos n (show 0 < p by omega)
  have h3 := Int.tmod_eq_emod (a := n) (b := p)
  unfold fof
  by_cases h : 0 ≤ n ∨ p ∣ n
  · rw [if_pos h] at h3
    omega
  · rw [if_neg h] at h3
    have : n % p ≠ 0 := fun e => h (.inr (Int.dvd_of_emod_eq_zero e))
    omega
theorem mul_small {x y : Int} (h31 : p ≤ 2147483647) (hx : 0 ≤ x ∧ x < p) (hy : 0 ≤ y ∧ y < p) : 0 ≤ x * y ∧ x * y ≤ 4611686014132420609 := by
  refine ⟨Int.mul_nonneg hx.1 hy.1, ?_⟩
  have : x * y ≤ 2147483647 * 2147483647 := Int.mul_le_mul (by omega) (by omega) hy.1 (by omega)
  omega
end

theorem fadd_of (p a b : Int) : (fof p a + fof p b) % p = fadd p a b := by simp [fof, fadd]
theorem fsub_of (p a b : Int) : fof p (fof p a - fof p b) = fsub p a b := by simp [fof, fsub, Int.sub_emod]
theorem fmul_of (p a b : Int) : (fof p a * fof p b) % p = fmul p a b := by simp [fof, fmul, Int.mul_emod]
theorem finv_eq (p a : Int) : fpow p a (p - 2).toNat = finv p a := rfl

theorem pow_mod (p a : Int) (n : Nat) : (a % p) ^ n % p = a ^ n % p := by
  induction n with
  | zero => simp
  | succ n ih => rw [Int.pow_succ, Int.pow_succ, Int.mul_emod, ih, Int.emod_emod, ← Int.mul_emod]
theorem pow_sq (a : Int) (n : Nat) : (a * a) ^ n = a ^ (2 * n) := by
  rw [Int.pow_mul]; congr 1; simp [Int.pow_succ]
theorem pow_step {p x a c : Int} {n : Nat} (h : (x * a ^ n) % p = c) :
    (((x * a ^ (n % 2)) % p) * (a * a % p) ^ (n / 2)) % p = c := by
  rw [← h]
  have e : a ^ n = a ^ (n % 2) * (a * a) ^ (n / 2) := by
    rw [pow_sq, ← Int.pow_add]
    congr 1; omega
  rw [e, ← Int.mul_assoc]
  rw [Int.mul_emod, Int.emod_emod, pow_mod, ← Int.mul_emod]
end Go.Att
/-! Remainders within sums and products. -/
namespace Go.Att
end Go.Att
/-! Fermat's theorem and the existence of a generator modulo a prime. Plain algebra, no program. -/
namespace Go.Att

/-! Lists that are permutations of one another. -/
theorem perm_of_nodup_subset {l1 l2 : List Int} (h1 : l1.Nodup) (h2 : ∀ x ∈ l1, x ∈ l2) (h3 : l2.length ≤ l1.length) : l1.Perm l2 := by
  induction l1 generalizing l2 with
  | nil =>
    have : l2 = [] := List.eq_nil_of_length_eq_zero (by simpa using h3)
    rw [this]
  | cons x t ih =>
    obtain ⟨hx, ht⟩ := List.nodup_cons.1 h1
    have hm : x ∈ l2 := h2 x (by simp)
    have hp := List.perm_cons_erase hm
    refine (List.Perm.cons x (ih ht (fun y hy => ?_) ?_)).trans hp.symm
    · have hne : y ≠ x := fun e => hx (e ▸ hy)
      exact (List.mem_erase_of_ne hne).2 (h2 y (by simp [hy]))
    · have := List.length_erase_of_mem hm
      simp only [List.length_cons] at h3
      omega

def prodL (l : List Int) : Int := l.foldr (· * ·) 1
theorem prodL_perm {l1 l2 : List Int} (h : l1.Perm l2) : prodL l1 = prodL l2 := by
  induction h with
  | nil => rfl
  | cons x _ ih => simp only [prodL, List.foldr_cons] at *; rw [ih]
  | swap x y l => simp only [prodL, List.foldr_cons]; rw [← Int.mul_assoc, Int.mul_comm y x, Int.mul_assoc]
  | trans _ _ h1 h2 => exact h1.trans h2
theorem prodL_map_mul (a : Int) (l : List Int) : prodL (l.map (a * ·)) = a ^ l.length * prodL l := by
  induction l with
  | nil => simp [prodL]
  | cons x l ih =>
    simp only [prodL, List.map_cons, List.foldr_cons, List.length_cons, Int.pow_succ] at *
    rw [ih]; grind
theorem prodL_map_mod (p : Int) (l : List Int) : prodL (l.map (· % p)) % p = prodL l % p := by
  induction l with
  | nil => rfl
  | cons x l ih =>
    simp only [prodL, List.map_cons, List.foldr_cons] at *
    rw [Int.mul_emod, ih, Int.emod_emod, ← Int.mul_emod]
theorem prodL_unit {p : Int} (hp : Pr p) (l : List Int) (h : ∀ x ∈ l, ¬ p ∣ x) : ¬ p ∣ prodL l := by
  induction l with
  | nil =>
    simp only [prodL, List.foldr_nil]
    intro hd; have := Int.le_of_dvd (by decide) hd; have := hp.two; omega
  | cons x l ih =>
    simp only [prodL, List.foldr_cons]
    intro hd
    rcases hp.euclid hd with h1 | h1
    · exact h x (by simp) h1
    · exact ih (fun y hy => h y (by simp [hy])) h1

theorem mod_eq_of_dvd_sub {p a b : Int} (h : p ∣ a - b) : a % p = b % p := Int.emod_eq_emod_iff_emod_sub_eq_zero.2 (Int.emod_eq_zero_of_dvd h)
theorem dvd_sub_of_mod_eq {p a b : Int} (h : a % p = b % p) : p ∣ a - b := Int.dvd_of_emod_eq_zero (Int.emod_eq_emod_iff_emod_sub_eq_zero.1 h)

theorem fermat {p : Int} (hp : Pr p) {a : Int} (ha : ¬ p ∣ a) : a ^ (p - 1).toNat % p = 1 := by
  have h2 := hp.two
  let L : List Int := (List.range (p - 1).toNat).map (fun i => ((i + 1 : Nat) : Int))
  have hL : ∀ x, x ∈ L ↔ 1 ≤ x ∧ x < p := by
    intro x
    simp only [L, List.mem_map, List.mem_range]
    constructor
    · rintro ⟨i, hi, rfl⟩; omega
    · intro h; exact ⟨(x - 1).toNat, by omega, by omega⟩
  have hlen : L.length = (p - 1).toNat := by simp [L]
  have hu : ∀ x ∈ L, ¬ p ∣ x := by
    intro x hx hd
    have := (hL x).1 hx
    have := Int.le_of_dvd (by omega) hd
    omega
  have hnod : L.Nodup := by
    simp only [L, List.Nodup, List.pairwise_map]
    exact List.Pairwise.imp (fun h => by omega) List.nodup_range
  let M : List Int := (L.map (a * ·)).map (· % p)
  have hMn : M.Nodup := by
    simp only [M, List.Nodup, List.pairwise_map]
    refine List.Pairwise.imp_of_mem ?_ hnod
    intro x y hx hy hne heq
    have hd := dvd_sub_of_mod_eq heq
    rw [← Int.mul_sub] at hd
    rcases hp.euclid hd with h | h
    · exact ha h
    · have b1 := (hL x).1 hx
      have b2 := (hL y).1 hy
      rcases Int.lt_trichotomy x y with hlt | he | hgt
      · have := Int.le_of_dvd (by omega) (show p ∣ y - x by have := Int.dvd_neg.2 h; rwa [Int.neg_sub] at this)
        omega
      · exact hne he
      · have := Int.le_of_dvd (by omega) h
        omega
  have hMs : ∀ x ∈ M, x ∈ L := by
    intro x hx
    simp only [M, List.mem_map] at hx
    obtain ⟨_, ⟨z, hz, rfl⟩, rfl⟩ := hx
    refine (hL _).2 ?_
    have b := mod_bd h2 (a * z)
    refine ⟨?_, b.2⟩
    rcases Int.lt_or_eq_of_le b.1 with h | h
    · omega
    · exact absurd (Int.dvd_of_emod_eq_zero h.symm) (fun hd => by rcases hp.euclid hd with h1 | h1; exact ha h1; exact hu z hz h1)
  have hperm : M.Perm L := perm_of_nodup_subset hMn hMs (by simp [M])
  have h5 : prodL L % p = a ^ (p - 1).toNat * prodL L % p := by
    have e1 : prodL M % p = a ^ (p - 1).toNat * prodL L % p := by simp only [M]; rw [prodL_map_mod, prodL_map_mul, hlen]
    rw [← e1, prodL_perm hperm]
  have h6 := dvd_sub_of_mod_eq h5
  have h7 : p ∣ (a ^ (p - 1).toNat - 1) * prodL L := by
    have e : (a ^ (p - 1).toNat - 1) * prodL L = -(prodL L - a ^ (p - 1).toNat * prodL L) := by grind
    rw [e]; exact Int.dvd_neg.2 h6
  have h8 := (hp.euclid h7).resolve_right (prodL_unit hp L hu)
  rw [mod_eq_of_dvd_sub h8]
  exact Int.emod_eq_of_lt (by decide) (by omega)

theorem one_mod {p : Int} (hp : 2 ≤ p) : (1 : Int) % p = 1 := Int.emod_eq_of_lt (by decide) (by omega)
theorem pow_one_mul {p a : Int} (hp : 2 ≤ p) {m : Nat} (h : a ^ m % p = 1) (k : Nat) : a ^ (m * k) % p = 1 := by
  rw [Int.pow_mul, ← pow_mod, h, Int.one_pow, one_mod hp]
theorem pow_one_add {p a : Int} {m n : Nat} (_hp : 2 ≤ p) (h : a ^ m % p = 1) : a ^ (m + n) % p = a ^ n % p := by
  rw [Int.pow_add, Int.mul_emod, h, Int.one_mul, Int.emod_emod]
theorem pow_one_mod {p a : Int} (hp : 2 ≤ p) {m n : Nat} (h : a ^ m % p = 1) : a ^ (n % m) % p = a ^ n % p := by
  conv => rhs; rw [← Nat.div_add_mod n m]
  rw [pow_one_add hp (pow_one_mul hp h _)]
theorem pow_one_gcd {p a : Int} (hp : 2 ≤ p) {m n : Nat} (h1 : a ^ m % p = 1) (h2 : a ^ n % p = 1) : a ^ (Nat.gcd m n) % p = 1 := by
  induction m, n using Nat.gcd.induction with
  | H0 n => simpa using h2
  | H1 m n hm ih =>
    rw [Nat.gcd_rec]
    exact ih (by rw [pow_one_mod hp h1]; exact h2) h1

theorem ev_zeros (k : Nat) (x : Int) : ev (List.replicate k 0 ++ [1]) x = x ^ k := by
  induction k with
  | zero => simp [ev]
  | succ k ih => rw [List.replicate_succ, List.cons_append, ev, ih, Int.pow_succ]; grind
theorem some_not_one {p : Int} (hp : Pr p) (k : Nat) (hk : 0 < k) (hkp : k < (p - 1).toNat) : ∃ x : Int, 1 ≤ x ∧ x < p ∧ x ^ k % p ≠ 1 := by
  have h2 := hp.two
  refine Classical.byContradiction fun hn => ?_
  have hall : ∀ x : Int, 1 ≤ x → x < p → x ^ k % p = 1 := fun x h1 h2 => Classical.byContradiction fun h => hn ⟨x, h1, h2, h⟩
  have := roots hp (-1 :: (List.replicate (k - 1) 0 ++ [1])) ⟨1, by simp, fun hd => by have := Int.le_of_dvd (by decide) hd; omega⟩
    ((List.range (p - 1).toNat).map (fun i => ((i + 1 : Nat) : Int))) ?_ ?_
  · simp at this; omega
  · rw [List.pairwise_map]
    refine List.Pairwise.imp_of_mem ?_ (List.pairwise_lt_range)
    intro i j hi hj hlt hd
    simp at hi hj
    have := Int.le_of_dvd (by omega) (show p ∣ ((j + 1 : Nat) : Int) - ((i + 1 : Nat) : Int) by have := Int.dvd_neg.2 hd; rwa [Int.neg_sub] at this)
    omega
  · intro x hx
    simp only [List.mem_map, List.mem_range] at hx
    obtain ⟨i, hi, rfl⟩ := hx
    have h1 := hall ((i + 1 : Nat) : Int) (by omega) (by omega)
    rw [ev, ev_zeros]
    have e : (-1 : Int) + ((i + 1 : Nat) : Int) * ((i + 1 : Nat) : Int) ^ (k - 1) = ((i + 1 : Nat) : Int) ^ k - 1 := by
      have : k = (k - 1) + 1 := by omega
      conv => rhs; rw [this, Int.pow_succ]
      grind
    rw [e]
    exact dvd_sub_of_mod_eq (by rw [h1, one_mod h2])

def PrN (q : Nat) : Prop := 2 ≤ q ∧ ∀ d, d ∣ q → d = 1 ∨ d = q
theorem PrN.coprime {q m : Nat} (h : PrN q) (hm : ¬ q ∣ m) : Nat.gcd q m = 1 := by
  rcases h.2 _ (Nat.gcd_dvd_left q m) with h1 | h1
  · exact h1
  · exact absurd (h1 ▸ Nat.gcd_dvd_right q m) hm
theorem exists_prime {n : Nat} (hn : 2 ≤ n) : ∃ q, PrN q ∧ q ∣ n := by
  induction n using Nat.strongRecOn with
  | _ n ih =>
    by_cases h : ∃ d, d ∣ n ∧ d ≠ 1 ∧ d ≠ n
    · obtain ⟨d, hd, h1, h2⟩ := h
      have hle := Nat.le_of_dvd (by omega) hd
      have h0 : d ≠ 0 := by rintro rfl; rw [Nat.zero_dvd] at hd; omega
      obtain ⟨q, hq, hqd⟩ := ih d (by omega) (by omega)
      exact ⟨q, hq, Nat.dvd_trans hqd hd⟩
    · exact ⟨n, ⟨hn, fun d hd => Classical.byContradiction fun hh => h ⟨d, hd, fun e => hh (.inl e), fun e => hh (.inr e)⟩⟩, Nat.dvd_refl n⟩
theorem strip {q : Nat} (hq : 2 ≤ q) {n : Nat} (hn : 0 < n) : ∃ e m, n = q ^ e * m ∧ ¬ q ∣ m := by
  induction n using Nat.strongRecOn with
  | _ n ih =>
    by_cases h : q ∣ n
    · obtain ⟨k, hk⟩ := h
      have hk0 : 0 < k := by rcases Nat.eq_zero_or_pos k with h0 | h0; (subst h0; omega); exact h0
      have hkn : k < n := by rw [hk]; have := Nat.mul_le_mul_right k hq; omega
      obtain ⟨e, m, h1, h2⟩ := ih k hkn hk0
      exact ⟨e + 1, m, by rw [hk, h1, Nat.pow_succ, ← Nat.mul_assoc, Nat.mul_comm q]; , h2⟩
    · exact ⟨0, n, by simp, h⟩

theorem gen_of_list {p : Int} (hp : Pr p) (hp3 : 3 ≤ p) (fs : List Nat) (hf : ∀ q ∈ fs, PrN q ∧ q ∣ (p - 1).toNat) (hnd : fs.Nodup) :
    ∃ g : Int, ¬ p ∣ g ∧ (∀ q ∈ fs, g ^ ((p - 1).toNat / q) % p ≠ 1) ∧ (∀ r, PrN r → r ∣ (p - 1).toNat → r ∉ fs → g ^ ((p - 1).toNat / r) % p = 1) := by
  have h2 := hp.two
  induction fs with
  | nil => exact ⟨1, fun hd => by have := Int.le_of_dvd (by decide) hd; omega, by simp, fun r _ _ _ => by rw [Int.one_pow, one_mod h2]⟩
  | cons q fs ih =>
    obtain ⟨g, hg0, hg1, hg2⟩ := ih (fun r hr => hf r (by simp [hr])) (List.nodup_cons.1 hnd).2
    obtain ⟨hq, hqn⟩ := hf q (by simp)
    have hqfs := (List.nodup_cons.1 hnd).1
    generalize hN : (p - 1).toNat = N at *
    have hN2 : 2 ≤ N := by omega
    obtain ⟨e, m, hem, hqm⟩ := strip hq.1 (show 0 < N by omega)
    have he : e ≠ 0 := by rintro rfl; simp at hem; exact hqm (hem ▸ hqn)
    obtain ⟨e', rfl⟩ : ∃ e', e = e' + 1 := ⟨e - 1, by omega⟩
    have hNq : N / q = q ^ e' * m := by
      rw [hem, Nat.pow_succ, Nat.mul_comm (q ^ e') q, Nat.mul_assoc]
      exact Nat.mul_div_cancel_left _ (by have := hq.1; omega)
    have hNq' : N = q * (N / q) := (Nat.mul_div_cancel' hqn).symm
    have hpos : 0 < N / q := Nat.div_pos (Nat.le_of_dvd (by omega) hqn) (by have := hq.1; omega)
    have hlt : N / q < N := Nat.div_lt_self (by omega) hq.1
    obtain ⟨x, hx1, hx2, hx⟩ := some_not_one hp (N / q) hpos (by omega)
    have hxp : ¬ p ∣ x := fun hd => by have := Int.le_of_dvd (by omega) hd; omega
    have hfx : x ^ N % p = 1 := by rw [← hN]; exact fermat hp hxp
    have hym : ∀ r, PrN r → r ∣ N → r ≠ q → (x ^ m) ^ (N / r) % p = 1 := by
      intro r hr hrN hne
      have hrm : r ∣ m := by
        have hc : Nat.Coprime r (q ^ (e' + 1)) := by
          refine Nat.Coprime.pow_right _ ?_
          refine hr.coprime fun hd => ?_
          rcases hq.2 r hd with h1 | h1
          · have := hr.1; omega
          · exact hne h1
        exact hc.dvd_of_dvd_mul_left (hem ▸ hrN)
      obtain ⟨k, hk⟩ := hrm
      rw [← Int.pow_mul]
      have e1 : m * (N / r) = N * k := by
        have : N = r * (N / r) := (Nat.mul_div_cancel' hrN).symm
        calc m * (N / r) = r * k * (N / r) := by rw [hk]
          _ = (r * (N / r)) * k := by rw [Nat.mul_assoc, Nat.mul_comm k, ← Nat.mul_assoc]
          _ = N * k := by rw [← this]
      rw [e1]; exact pow_one_mul h2 hfx k
    have hyq : (x ^ m) ^ (N / q) % p ≠ 1 := by
      intro h
      rw [← Int.pow_mul, Nat.mul_comm, Int.pow_mul, ← pow_mod] at h
      have hu : (x ^ (N / q) % p) ^ q % p = 1 := by
        rw [pow_mod, ← Int.pow_mul, Nat.mul_comm, ← hNq']; exact hfx
      have hg := pow_one_gcd h2 hu h
      rw [hq.coprime hqm, Int.pow_succ, Int.pow_zero, Int.one_mul, Int.emod_emod] at hg
      exact hx hg
    have hmul : ∀ k, (g * x ^ m) ^ k % p = (g ^ k % p) * ((x ^ m) ^ k % p) % p := fun k => by rw [Int.mul_pow, Int.mul_emod]
    have hpp : ∀ (y : Int) k, ¬ p ∣ y → ¬ p ∣ y ^ k := by
      intro y k hy
      induction k with
      | zero => intro hd; rw [Int.pow_zero] at hd; have := Int.le_of_dvd (by decide) hd; omega
      | succ k ihk => intro hd; rw [Int.pow_succ] at hd; rcases hp.euclid hd with h1 | h1; exact ihk h1; exact hy h1
    refine ⟨g * x ^ m, fun hd => by rcases hp.euclid hd with h1 | h1; exact hg0 h1; exact hpp x m hxp h1, ?_, ?_⟩
    · intro r hr
      rw [hmul]
      rcases List.mem_cons.1 hr with rfl | hr'
      · rw [hg2 r hq hqn hqfs, Int.one_mul, Int.emod_emod]; exact hyq
      · have hrp := hf r (by simp [hr'])
        rw [hym r hrp.1 hrp.2 (fun e => hqfs (e ▸ hr')), Int.mul_one, Int.emod_emod]
        exact hg1 r hr'
    · intro r hr hrN hrm
      rw [hmul, hg2 r hr hrN (fun h => hrm (by simp [h])), hym r hr hrN (fun e => hrm (by simp [e]))]
      simpa using one_mod h2

def IsGen (p g : Int) : Prop := ¬ p ∣ g ∧ ∀ n : Nat, 0 < n → n < (p - 1).toNat → g ^ n % p ≠ 1
theorem isGen_of_primes {p : Int} (hp : Pr p) (_hp3 : 3 ≤ p) {g : Int} (h0 : ¬ p ∣ g) (h : ∀ q, PrN q → q ∣ (p - 1).toNat → g ^ ((p - 1).toNat / q) % p ≠ 1) : IsGen p g := by
  refine ⟨h0, fun n hn hlt h1 => ?_⟩
  have h2 := hp.two
  have hg := pow_one_gcd h2 h1 (fermat hp h0)
  generalize (p - 1).toNat = N at *
  have hd := Nat.gcd_dvd_right n N
  have hle := Nat.gcd_le_left N hn
  obtain ⟨k, hk⟩ := hd
  have hk2 : 2 ≤ k := by
    rcases Nat.lt_or_ge k 2 with hk2 | hk2
    · exfalso
      have : k = 0 ∨ k = 1 := by omega
      rcases this with rfl | rfl <;> omega
    · exact hk2
  obtain ⟨q, hq, j, hj⟩ := exists_prime hk2
  have hq2 := hq.1
  have e : N / q = Nat.gcd n N * j := by
    conv => lhs; rw [hk, hj, ← Nat.mul_assoc, Nat.mul_comm _ q, Nat.mul_assoc]
    exact Nat.mul_div_cancel_left _ (by omega)
  refine h q hq ⟨Nat.gcd n N * j, ?_⟩ (by rw [e]; exact pow_one_mul h2 hg j)
  conv => lhs; rw [hk, hj]
  rw [← Nat.mul_assoc, Nat.mul_comm _ q, Nat.mul_assoc]
theorem exists_gen {p : Int} (hp : Pr p) (hp3 : 3 ≤ p) : ∃ g : Int, 1 ≤ g ∧ g < p ∧ IsGen p g := by
  have h2 := hp.two
  let fs := ((List.range ((p - 1).toNat + 1)).filter (fun q => @decide (PrN q ∧ q ∣ (p - 1).toNat) (Classical.propDecidable _)))
  obtain ⟨g, h0, h1, _⟩ := gen_of_list hp hp3 fs (fun q hq => by simpa using (List.mem_filter.1 hq).2) (List.Nodup.sublist List.filter_sublist List.nodup_range)
  have hb := mod_bd h2 g
  have hne : g % p ≠ 0 := fun e => h0 (Int.dvd_of_emod_eq_zero e)
  refine ⟨g % p, by omega, hb.2, isGen_of_primes hp hp3 (fun hd => by have := Int.le_of_dvd (by omega) hd; omega) fun q hq hqn => ?_⟩
  rw [pow_mod]
  exact h1 q (List.mem_filter.2 ⟨by have := Nat.le_of_dvd (by omega) hqn; simp; omega, @decide_eq_true _ (Classical.propDecidable _) ⟨hq, hqn⟩⟩)
end Go.Att
