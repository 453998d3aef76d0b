/- Plain algebra modulo a prime: Euclid's lemma, inverses, roots of polynomials; the operations of the field. No program in sight. Words for what a world holds: slices that read as lists, blocks that are as they were. No program in sight. -/
import Derived.WalkKit
import Derived.WalkSpells
import Derived.Lib.Hide
import Derived.Deep.QuietTactic
import Derived.BigQuiet
import Derived.Deep.CutRange
import Derived.Laws.Slices
section
/-! Plain algebra modulo a prime: Euclid's lemma, inverses, roots of polynomials; the operations of the field. No program in sight. -/
namespace Go.Att

structure Pr (p : Int) : Prop where
  two : 2 ≤ p
  no : ∀ d : Int, 2 ≤ d → d * d ≤ p → ¬ d ∣ p

theorem Pr.no_div {p : Int} (h : Pr p) {d : Int} (h1 : 2 ≤ d) (h2 : d < p) : ¬ d ∣ p := by
  intro ⟨e, he⟩
  have hp := h.two
  have he1 : 2 ≤ e := by
    rcases Int.lt_or_le e 2 with hlt | hle
    · exfalso
      rcases Int.lt_or_le e 1 with h0 | h0
      · have : d * e ≤ 0 := Int.mul_nonpos_of_nonneg_of_nonpos (by omega) (by omega)
        omega
      · have : e = 1 := by omega
        subst this; omega
    · exact hle
  rcases Int.le_total d e with hde | hde
  · exact h.no d h1 (by rw [he]; exact Int.mul_le_mul_of_nonneg_left hde (by omega)) ⟨e, he⟩
  · exact h.no e he1 (by rw [he]; exact Int.mul_le_mul_of_nonneg_right hde (by omega)) ⟨d, by rw [he]; exact Int.mul_comm _ _⟩

theorem Pr.gcd {p : Int} (h : Pr p) {a : Int} (ha : ¬ p ∣ a) : Int.gcd p a = 1 := by
  have hp := h.two
  have hd : ((Int.gcd p a : Nat) : Int) ∣ p := Int.gcd_dvd_left ..
  have hda : ((Int.gcd p a : Nat) : Int) ∣ a := Int.gcd_dvd_right ..
  have hle : ((Int.gcd p a : Nat) : Int) ≤ p := Int.le_of_dvd (by omega) hd
  have hne : ((Int.gcd p a : Nat) : Int) ≠ p := fun e => ha (e ▸ hda)
  have h0 : Int.gcd p a ≠ 0 := by
    intro e; rw [Int.gcd_eq_zero_iff] at e; omega
  rcases Nat.lt_or_ge (Int.gcd p a) 2 with h2 | h2
  · omega
  · exact absurd hd (h.no_div (by omega) (by omega))

theorem Pr.euclid {p : Int} (h : Pr p) {a b : Int} (hab : p ∣ a * b) : p ∣ a ∨ p ∣ b := by
  by_cases ha : p ∣ a
  · exact .inl ha
  · right
    have hg := h.gcd ha
    have h1 : p.natAbs ∣ a.natAbs * b.natAbs := by rw [← Int.natAbs_mul]; exact Int.natAbs_dvd_natAbs.2 hab
    have h2 : Nat.Coprime p.natAbs a.natAbs := hg
    exact Int.natAbs_dvd_natAbs.1 (h2.dvd_of_dvd_mul_left h1)

def ev : List Int → Int → Int
  | [], _ => 0
  | c :: l, x => c + x * ev l x

def quot : List Int → Int → List Int
  | [], _ => []
  | [_], _ => []
  | _ :: d :: l, a => ev (d :: l) a :: quot (d :: l) a

theorem quot_length (l : List Int) (a : Int) : (quot l a).length = l.length - 1 := by
  induction l with
  | nil => rfl
  | cons c l ih =>
    cases l with
    | nil => rfl
    | cons d l => simp only [quot, List.length_cons] at *; omega

theorem quot_spec (l : List Int) (a x : Int) : ev l x - ev l a = (x - a) * ev (quot l a) x := by
  induction l with
  | nil => simp [ev, quot]
  | cons c l ih =>
    cases l with
    | nil => simp [ev, quot]
    | cons d l =>
      simp only [quot, ev] at *
      grind

theorem quot_zero {p : Int} (l : List Int) (a : Int) (h : ∀ c ∈ quot l a, p ∣ c) : ∀ c ∈ l.tail, p ∣ c := by
  induction l with
  | nil => simp
  | cons c l ih =>
    cases l with
    | nil => simp
    | cons d l =>
      intro e he
      simp only [List.tail_cons] at he
      have h1 : p ∣ ev (d :: l) a := h _ (by simp [quot])
      have h2 : ∀ c ∈ quot (d :: l) a, p ∣ c := fun c hc => h c (by simp [quot, hc])
      have h3 := ih h2
      rcases List.mem_cons.1 he with rfl | he'
      · have h4 : p ∣ ev l a := by
          clear ih h h1 h2 he
          simp only [List.tail_cons] at h3
          induction l with
          | nil => exact Int.dvd_zero _
          | cons f l ih => exact Int.dvd_add (h3 _ (by simp)) (Int.dvd_mul_of_dvd_right (ih (fun c hc => h3 c (by simp [hc]))))
        have h5 : e = ev (e :: l) a - a * ev l a := by simp only [ev]; omega
        rw [h5]
        exact Int.dvd_sub h1 (Int.dvd_mul_of_dvd_right h4)
      · exact h3 e (by simpa using he')

theorem roots {p : Int} (hp : Pr p) (l : List Int) (hl : ∃ c ∈ l, ¬ p ∣ c) (xs : List Int) (hx : xs.Pairwise fun a b => ¬ p ∣ a - b) (hr : ∀ x ∈ xs, p ∣ ev l x) :
    xs.length < l.length := by
  induction xs generalizing l with
  | nil =>
    obtain ⟨c, hc, _⟩ := hl
    exact List.length_pos_of_mem hc
  | cons a xs ih =>
    have ha := hr a (by simp)
    by_cases hq : ∃ c ∈ quot l a, ¬ p ∣ c
    · have := ih (quot l a) hq (List.pairwise_cons.1 hx).2 (fun x hxm => by
        have h1 : p ∣ ev l x - ev l a := Int.dvd_sub (hr x (by simp [hxm])) ha
        rw [quot_spec] at h1
        refine (hp.euclid h1).resolve_left ?_
        have := (List.pairwise_cons.1 hx).1 x hxm
        intro h; apply this
        have e : a - x = -(x - a) := by omega
        rw [e]; exact Int.dvd_neg.2 h)
      rw [quot_length] at this
      simp only [List.length_cons]
      omega
    · exfalso
      have hq' : ∀ c ∈ quot l a, p ∣ c := fun c hc => Classical.byContradiction fun hn => hq ⟨c, hc, hn⟩
      have ht := quot_zero l a hq'
      obtain ⟨c, hc, hn⟩ := hl
      cases l with
      | nil => simp at hc
      | cons d l =>
        rcases List.mem_cons.1 hc with rfl | hc'
        · apply hn
          have : p ∣ ev l a := by
            clear ih hr ha hq hq' hn hc
            simp only [List.tail_cons] at ht
            induction l with
            | nil => exact Int.dvd_zero _
            | cons f l ih => exact Int.dvd_add (ht _ (by simp)) (Int.dvd_mul_of_dvd_right (ih (fun c hc => ht c (by simp [hc]))))
          have h5 : c = ev (c :: l) a - a * ev l a := by simp only [ev]; omega
          rw [h5]
          exact Int.dvd_sub ha (Int.dvd_mul_of_dvd_right this)
        · exact hn (ht c hc')

/-! The operations. -/
def fof (p n : Int) : Int := n % p
def fadd (p a b : Int) : Int := (a + b) % p
def fsub (p a b : Int) : Int := (a - b) % p
def fmul (p a b : Int) : Int := (a * b) % p
def fpow (p a : Int) (n : Nat) : Int := a ^ n % p
def finv (p a : Int) : Int := a ^ (p - 2).toNat % p
def fdiv (p a b : Int) : Int := (a * finv p b) % p

section
variable {p : Int} (hp : 2 ≤ p)
include hp
theorem mod_bd (a : Int) : 0 ≤ a % p ∧ a % p < p := ⟨Int.emod_nonneg a (by omega), Int.emod_lt_of_pos a (by omega)⟩
theorem fof_bd (a : Int) : 0 ≤ fof p a ∧ fof p a < p := mod_bd hp _
theorem fadd_bd (a b : Int) : 0 ≤ fadd p a b ∧ fadd p a b < p := mod_bd hp _
theorem fsub_bd (a b : Int) : 0 ≤ fsub p a b ∧ fsub p a b < p := mod_bd hp _
theorem fmul_bd (a b : Int) : 0 ≤ fmul p a b ∧ fmul p a b < p := mod_bd hp _
theorem fdiv_bd (a b : Int) : 0 ≤ fdiv p a b ∧ fdiv p a b < p := mod_bd hp _

theorem tm (n : Int) : -p < n.tmod p ∧ n.tmod p < p ∧ (n.tmod p < 0 → n.tmod p + p = fof p n) ∧ (0 ≤ n.tmod p → n.tmod p = fof p n) := by
  have h1 := Int.emod_nonneg n (show p ≠ 0 by omega)
  have h2 := Int.emod_lt_of_pos n (show 0 < p by omega)
  have h3 := Int.tmod_eq_emod (a := n) (b := p)
  unfold fof
  by_cases h : 0 ≤ n ∨ p ∣ n
  · rw [if_pos h] at h3
    omega
  · rw [if_neg h] at h3
    have : n % p ≠ 0 := fun e => h (.inr (Int.dvd_of_emod_eq_zero e))
    omega
theorem mul_small {x y : Int} (h31 : p ≤ 2147483647) (hx : 0 ≤ x ∧ x < p) (hy : 0 ≤ y ∧ y < p) : 0 ≤ x * y ∧ x * y ≤ 4611686014132420609 := by
  refine ⟨Int.mul_nonneg hx.1 hy.1, ?_⟩
  have : x * y ≤ 2147483647 * 2147483647 := Int.mul_le_mul (by omega) (by omega) hy.1 (by omega)
  omega
end

theorem fadd_of (p a b : Int) : (fof p a + fof p b) % p = fadd p a b := by simp [fof, fadd]
theorem fsub_of (p a b : Int) : fof p (fof p a - fof p b) = fsub p a b := by simp [fof, fsub, Int.sub_emod]
theorem fsub_of' (p a b : Int) : (fof p a + p - fof p b) % p = fsub p a b := by
  have e : fof p a + p - fof p b = (fof p a - fof p b) + p := by omega
  rw [e]; simp [fof, fsub, Int.sub_emod]
theorem fmul_of (p a b : Int) : (fof p a * fof p b) % p = fmul p a b := by simp [fof, fmul, Int.mul_emod]
theorem fdiv_of (p a b : Int) : fmul p a (finv p b) = fdiv p a b := rfl
theorem finv_eq (p a : Int) : fpow p a (p - 2).toNat = finv p a := rfl

theorem pow_mod (p a : Int) (n : Nat) : (a % p) ^ n % p = a ^ n % p := by
  induction n with
  | zero => simp
  | succ n ih => rw [Int.pow_succ, Int.pow_succ, Int.mul_emod, ih, Int.emod_emod, ← Int.mul_emod]
theorem pow_sq (a : Int) (n : Nat) : (a * a) ^ n = a ^ (2 * n) := by
  rw [Int.pow_mul]; congr 1; simp [Int.pow_succ]
theorem pow_step {p x a c : Int} {n : Nat} (h : (x * a ^ n) % p = c) :
    (((x * a ^ (n % 2)) % p) * (a * a % p) ^ (n / 2)) % p = c := by
  rw [← h]
  have e : a ^ n = a ^ (n % 2) * (a * a) ^ (n / 2) := by
    rw [pow_sq, ← Int.pow_add]
    congr 1; omega
  rw [e, ← Int.mul_assoc]
  rw [Int.mul_emod, Int.emod_emod, pow_mod, ← Int.mul_emod]
end Go.Att
/-! Remainders within sums and products. -/
namespace Go.Att
theorem e_idem (a p : Int) : a % p % p = a % p := Int.emod_emod_of_dvd _ (Int.dvd_refl _)
theorem ea_l (p a b : Int) : (a % p + b) % p = (a + b) % p := by rw [Int.add_emod, e_idem, ← Int.add_emod]
theorem ea_r (p a b : Int) : (a + b % p) % p = (a + b) % p := by rw [Int.add_emod, e_idem, ← Int.add_emod]
theorem es_r (p a b : Int) : (a - b % p) % p = (a - b) % p := by rw [Int.sub_emod, e_idem, ← Int.sub_emod]
theorem em_l (p a b : Int) : (a % p * b) % p = (a * b) % p := by rw [Int.mul_emod, e_idem, ← Int.mul_emod]
theorem em_r (p a b : Int) : (a * (b % p)) % p = (a * b) % p := by rw [Int.mul_emod, e_idem, ← Int.mul_emod]
end Go.Att
/-! Fermat's theorem and the existence of a generator modulo a prime. Plain algebra, no program. -/
namespace Go.Att

/-! Lists that are permutations of one another. -/
theorem perm_of_nodup_subset {l1 l2 : List Int} (h1 : l1.Nodup) (h2 : ∀ x ∈ l1, x ∈ l2) (h3 : l2.length ≤ l1.length) : l1.Perm l2 := by
  induction l1 generalizing l2 with
  | nil =>
    have : l2 = [] := List.eq_nil_of_length_eq_zero (by simpa using h3)
    rw [this]
  | cons x t ih =>
    obtain ⟨hx, ht⟩ := List.nodup_cons.1 h1
    have hm : x ∈ l2 := h2 x (by simp)
    have hp := List.perm_cons_erase hm
    refine (List.Perm.cons x (ih ht (fun y hy => ?_) ?_)).trans hp.symm
    · have hne : y ≠ x := fun e => hx (e ▸ hy)
      exact (List.mem_erase_of_ne hne).2 (h2 y (by simp [hy]))
    · have := List.length_erase_of_mem hm
      simp only [List.length_cons] at h3
      omega

def prodL (l : List Int) : Int := l.foldr (· * ·) 1
theorem prodL_perm {l1 l2 : List Int} (h : l1.Perm l2) : prodL l1 = prodL l2 := by
  induction h with
  | nil => rfl
  | cons x _ ih => simp only [prodL, List.foldr_cons] at *; rw [ih]
  | swap x y l => simp only [prodL, List.foldr_cons]; rw [← Int.mul_assoc, Int.mul_comm y x, Int.mul_assoc]
  | trans _ _ h1 h2 => exact h1.trans h2
theorem prodL_map_mul (a : Int) (l : List Int) : prodL (l.map (a * ·)) = a ^ l.length * prodL l := by
  induction l with
  | nil => simp [prodL]
  | cons x l ih =>
    simp only [prodL, List.map_cons, List.foldr_cons, List.length_cons, Int.pow_succ] at *
    rw [ih]; grind
theorem prodL_map_mod (p : Int) (l : List Int) : prodL (l.map (· % p)) % p = prodL l % p := by
  induction l with
  | nil => rfl
  | cons x l ih =>
    simp only [prodL, List.map_cons, List.foldr_cons] at *
    rw [Int.mul_emod, ih, Int.emod_emod, ← Int.mul_emod]
theorem prodL_unit {p : Int} (hp : Pr p) (l : List Int) (h : ∀ x ∈ l, ¬ p ∣ x) : ¬ p ∣ prodL l := by
  induction l with
  | nil =>
    simp only [prodL, List.foldr_nil]
    intro hd; have := Int.le_of_dvd (by decide) hd; have := hp.two; omega
  | cons x l ih =>
    simp only [prodL, List.foldr_cons]
    intro hd
    rcases hp.euclid hd with h1 | h1
    · exact h x (by simp) h1
    · exact ih (fun y hy => h y (by simp [hy])) h1

theorem mod_eq_of_dvd_sub {p a b : Int} (h : p ∣ a - b) : a % p = b % p := Int.emod_eq_emod_iff_emod_sub_eq_zero.2 (Int.emod_eq_zero_of_dvd h)
theorem dvd_sub_of_mod_eq {p a b : Int} (h : a % p = b % p) : p ∣ a - b := Int.dvd_of_emod_eq_zero (Int.emod_eq_emod_iff_emod_sub_eq_zero.1 h)

theorem fermat {p : Int} (hp : Pr p) {a : Int} (ha : ¬ p ∣ a) : a ^ (p - 1).toNat % p = 1 := by
  have h2 := hp.two
  let L : List Int := (List.range (p - 1).toNat).map (fun i => ((i + 1 : Nat) : Int))
  have hL : ∀ x, x ∈ L ↔ 1 ≤ x ∧ x < p := by
    intro x
    simp only [L, List.mem_map, List.mem_range]
    constructor
    · rintro ⟨i, hi, rfl⟩; omega
    · intro h; exact ⟨(x - 1).toNat, by omega, by omega⟩
  have hlen : L.length = (p - 1).toNat := by simp [L]
  have hu : ∀ x ∈ L, ¬ p ∣ x := by
    intro x hx hd
    have := (hL x).1 hx
    have := Int.le_of_dvd (by omega) hd
    omega
  have hnod : L.Nodup := by
    simp only [L, List.Nodup, List.pairwise_map]
    exact List.Pairwise.imp (fun h => by omega) List.nodup_range
  let M : List Int := (L.map (a * ·)).map (· % p)
  have hMn : M.Nodup := by
    simp only [M, List.Nodup, List.pairwise_map]
    refine List.Pairwise.imp_of_mem ?_ hnod
    intro x y hx hy hne heq
    have hd := dvd_sub_of_mod_eq heq
    rw [← Int.mul_sub] at hd
    rcases hp.euclid hd with h | h
    · exact ha h
    · have b1 := (hL x).1 hx
      have b2 := (hL y).1 hy
      rcases Int.lt_trichotomy x y with hlt | he | hgt
      · have := Int.le_of_dvd (by omega) (show p ∣ y - x by have := Int.dvd_neg.2 h; rwa [Int.neg_sub] at this)
        omega
      · exact hne he
      · have := Int.le_of_dvd (by omega) h
        omega
  have hMs : ∀ x ∈ M, x ∈ L := by
    intro x hx
    simp only [M, List.mem_map] at hx
    obtain ⟨_, ⟨z, hz, rfl⟩, rfl⟩ := hx
    refine (hL _).2 ?_
    have b := mod_bd h2 (a * z)
    refine ⟨?_, b.2⟩
    rcases Int.lt_or_eq_of_le b.1 with h | h
    · omega
    · exact absurd (Int.dvd_of_emod_eq_zero h.symm) (fun hd => by rcases hp.euclid hd with h1 | h1; exact ha h1; exact hu z hz h1)
  have hperm : M.Perm L := perm_of_nodup_subset hMn hMs (by simp [M])
  have h5 : prodL L % p = a ^ (p - 1).toNat * prodL L % p := by
    have e1 : prodL M % p = a ^ (p - 1).toNat * prodL L % p := by simp only [M]; rw [prodL_map_mod, prodL_map_mul, hlen]
    rw [← e1, prodL_perm hperm]
  have h6 := dvd_sub_of_mod_eq h5
  have h7 : p ∣ (a ^ (p - 1).toNat - 1) * prodL L := by
    have e : (a ^ (p - 1).toNat - 1) * prodL L = -(prodL L - a ^ (p - 1).toNat * prodL L) := by grind
    rw [e]; exact Int.dvd_neg.2 h6
  have h8 := (hp.euclid h7).resolve_right (prodL_unit hp L hu)
  rw [mod_eq_of_dvd_sub h8]
  exact Int.emod_eq_of_lt (by decide) (by omega)

theorem one_mod {p : Int} (hp : 2 ≤ p) : (1 : Int) % p = 1 := Int.emod_eq_of_lt (by decide) (by omega)
theorem pow_one_mul {p a : Int} (hp : 2 ≤ p) {m : Nat} (h : a ^ m % p = 1) (k : Nat) : a ^ (m * k) % p = 1 := by
  rw [Int.pow_mul, ← pow_mod, h, Int.one_pow, one_mod hp]
theorem pow_one_add {p a : Int} {m n : Nat} (_hp : 2 ≤ p) (h : a ^ m % p = 1) : a ^ (m + n) % p = a ^ n % p := by
  rw [Int.pow_add, Int.mul_emod, h, Int.one_mul, Int.emod_emod]
theorem pow_one_mod {p a : Int} (hp : 2 ≤ p) {m n : Nat} (h : a ^ m % p = 1) : a ^ (n % m) % p = a ^ n % p := by
  conv => rhs; rw [← Nat.div_add_mod n m]
  rw [pow_one_add hp (pow_one_mul hp h _)]
theorem pow_one_gcd {p a : Int} (hp : 2 ≤ p) {m n : Nat} (h1 : a ^ m % p = 1) (h2 : a ^ n % p = 1) : a ^ (Nat.gcd m n) % p = 1 := by
  induction m, n using Nat.gcd.induction with
  | H0 n => simpa using h2
  | H1 m n hm ih =>
    rw [Nat.gcd_rec]
    exact ih (by rw [pow_one_mod hp h1]; exact h2) h1

theorem ev_zeros (k : Nat) (x : Int) : ev (List.replicate k 0 ++ [1]) x = x ^ k := by
  induction k with
  | zero => simp [ev]
  | succ k ih => rw [List.replicate_succ, List.cons_append, ev, ih, Int.pow_succ]; grind
theorem some_not_one {p : Int} (hp : Pr p) (k : Nat) (hk : 0 < k) (hkp : k < (p - 1).toNat) : ∃ x : Int, 1 ≤ x ∧ x < p ∧ x ^ k % p ≠ 1 := by
  have h2 := hp.two
  refine Classical.byContradiction fun hn => ?_
  have hall : ∀ x : Int, 1 ≤ x → x < p → x ^ k % p = 1 := fun x h1 h2 => Classical.byContradiction fun h => hn ⟨x, h1, h2, h⟩
  have := roots hp (-1 :: (List.replicate (k - 1) 0 ++ [1])) ⟨1, by simp, fun hd => by have := Int.le_of_dvd (by decide) hd; omega⟩
    ((List.range (p - 1).toNat).map (fun i => ((i + 1 : Nat) : Int))) ?_ ?_
  · simp at this; omega
  · rw [List.pairwise_map]
    refine List.Pairwise.imp_of_mem ?_ (List.pairwise_lt_range)
    intro i j hi hj hlt hd
    simp at hi hj
    have := Int.le_of_dvd (by omega) (show p ∣ ((j + 1 : Nat) : Int) - ((i + 1 : Nat) : Int) by have := Int.dvd_neg.2 hd; rwa [Int.neg_sub] at this)
    omega
  · intro x hx
    simp only [List.mem_map, List.mem_range] at hx
    obtain ⟨i, hi, rfl⟩ := hx
    have h1 := hall ((i + 1 : Nat) : Int) (by omega) (by omega)
    rw [ev, ev_zeros]
    have e : (-1 : Int) + ((i + 1 : Nat) : Int) * ((i + 1 : Nat) : Int) ^ (k - 1) = ((i + 1 : Nat) : Int) ^ k - 1 := by
      have : k = (k - 1) + 1 := by omega
      conv => rhs; rw [this, Int.pow_succ]
      grind
    rw [e]
    exact dvd_sub_of_mod_eq (by rw [h1, one_mod h2])

def PrN (q : Nat) : Prop := 2 ≤ q ∧ ∀ d, d ∣ q → d = 1 ∨ d = q
theorem PrN.coprime {q m : Nat} (h : PrN q) (hm : ¬ q ∣ m) : Nat.gcd q m = 1 := by
  rcases h.2 _ (Nat.gcd_dvd_left q m) with h1 | h1
  · exact h1
  · exact absurd (h1 ▸ Nat.gcd_dvd_right q m) hm
theorem exists_prime {n : Nat} (hn : 2 ≤ n) : ∃ q, PrN q ∧ q ∣ n := by
  induction n using Nat.strongRecOn with
  | _ n ih =>
    by_cases h : ∃ d, d ∣ n ∧ d ≠ 1 ∧ d ≠ n
    · obtain ⟨d, hd, h1, h2⟩ := h
      have hle := Nat.le_of_dvd (by omega) hd
      have h0 : d ≠ 0 := by rintro rfl; rw [Nat.zero_dvd] at hd; omega
      obtain ⟨q, hq, hqd⟩ := ih d (by omega) (by omega)
      exact ⟨q, hq, Nat.dvd_trans hqd hd⟩
    · exact ⟨n, ⟨hn, fun d hd => Classical.byContradiction fun hh => h ⟨d, hd, fun e => hh (.inl e), fun e => hh (.inr e)⟩⟩, Nat.dvd_refl n⟩
theorem strip {q : Nat} (hq : 2 ≤ q) {n : Nat} (hn : 0 < n) : ∃ e m, n = q ^ e * m ∧ ¬ q ∣ m := by
  induction n using Nat.strongRecOn with
  | _ n ih =>
    by_cases h : q ∣ n
    · obtain ⟨k, hk⟩ := h
      have hk0 : 0 < k := by rcases Nat.eq_zero_or_pos k with h0 | h0; (subst h0; omega); exact h0
      have hkn : k < n := by rw [hk]; have := Nat.mul_le_mul_right k hq; omega
      obtain ⟨e, m, h1, h2⟩ := ih k hkn hk0
      exact ⟨e + 1, m, by rw [hk, h1, Nat.pow_succ, ← Nat.mul_assoc, Nat.mul_comm q]; , h2⟩
    · exact ⟨0, n, by simp, h⟩

theorem gen_of_list {p : Int} (hp : Pr p) (hp3 : 3 ≤ p) (fs : List Nat) (hf : ∀ q ∈ fs, PrN q ∧ q ∣ (p - 1).toNat) (hnd : fs.Nodup) :
    ∃ g : Int, ¬ p ∣ g ∧ (∀ q ∈ fs, g ^ ((p - 1).toNat / q) % p ≠ 1) ∧ (∀ r, PrN r → r ∣ (p - 1).toNat → r ∉ fs → g ^ ((p - 1).toNat / r) % p = 1) := by
  have h2 := hp.two
  induction fs with
  | nil => exact ⟨1, fun hd => by have := Int.le_of_dvd (by decide) hd; omega, by simp, fun r _ _ _ => by rw [Int.one_pow, one_mod h2]⟩
  | cons q fs ih =>
    obtain ⟨g, hg0, hg1, hg2⟩ := ih (fun r hr => hf r (by simp [hr])) (List.nodup_cons.1 hnd).2
    obtain ⟨hq, hqn⟩ := hf q (by simp)
    have hqfs := (List.nodup_cons.1 hnd).1
    generalize hN : (p - 1).toNat = N at *
    have hN2 : 2 ≤ N := by omega
    obtain ⟨e, m, hem, hqm⟩ := strip hq.1 (show 0 < N by omega)
    have he : e ≠ 0 := by rintro rfl; simp at hem; exact hqm (hem ▸ hqn)
    obtain ⟨e', rfl⟩ : ∃ e', e = e' + 1 := ⟨e - 1, by omega⟩
    have hNq : N / q = q ^ e' * m := by
      rw [hem, Nat.pow_succ, Nat.mul_comm (q ^ e') q, Nat.mul_assoc]
      exact Nat.mul_div_cancel_left _ (by have := hq.1; omega)
    have hNq' : N = q * (N / q) := (Nat.mul_div_cancel' hqn).symm
    have hpos : 0 < N / q := Nat.div_pos (Nat.le_of_dvd (by omega) hqn) (by have := hq.1; omega)
    have hlt : N / q < N := Nat.div_lt_self (by omega) hq.1
    obtain ⟨x, hx1, hx2, hx⟩ := some_not_one hp (N / q) hpos (by omega)
    have hxp : ¬ p ∣ x := fun hd => by have := Int.le_of_dvd (by omega) hd; omega
    have hfx : x ^ N % p = 1 := by rw [← hN]; exact fermat hp hxp
    have hym : ∀ r, PrN r → r ∣ N → r ≠ q → (x ^ m) ^ (N / r) % p = 1 := by
      intro r hr hrN hne
      have hrm : r ∣ m := by
        have hc : Nat.Coprime r (q ^ (e' + 1)) := by
          refine Nat.Coprime.pow_right _ ?_
          refine hr.coprime fun hd => ?_
          rcases hq.2 r hd with h1 | h1
          · have := hr.1; omega
          · exact hne h1
        exact hc.dvd_of_dvd_mul_left (hem ▸ hrN)
      obtain ⟨k, hk⟩ := hrm
      rw [← Int.pow_mul]
      have e1 : m * (N / r) = N * k := by
        have : N = r * (N / r) := (Nat.mul_div_cancel' hrN).symm
        calc m * (N / r) = r * k * (N / r) := by rw [hk]
          _ = (r * (N / r)) * k := by rw [Nat.mul_assoc, Nat.mul_comm k, ← Nat.mul_assoc]
          _ = N * k := by rw [← this]
      rw [e1]; exact pow_one_mul h2 hfx k
    have hyq : (x ^ m) ^ (N / q) % p ≠ 1 := by
      intro h
      rw [← Int.pow_mul, Nat.mul_comm, Int.pow_mul, ← pow_mod] at h
      have hu : (x ^ (N / q) % p) ^ q % p = 1 := by
        rw [pow_mod, ← Int.pow_mul, Nat.mul_comm, ← hNq']; exact hfx
      have hg := pow_one_gcd h2 hu h
      rw [hq.coprime hqm, Int.pow_succ, Int.pow_zero, Int.one_mul, Int.emod_emod] at hg
      exact hx hg
    have hmul : ∀ k, (g * x ^ m) ^ k % p = (g ^ k % p) * ((x ^ m) ^ k % p) % p := fun k => by rw [Int.mul_pow, Int.mul_emod]
    have hpp : ∀ (y : Int) k, ¬ p ∣ y → ¬ p ∣ y ^ k := by
      intro y k hy
      induction k with
      | zero => intro hd; rw [Int.pow_zero] at hd; have := Int.le_of_dvd (by decide) hd; omega
      | succ k ihk => intro hd; rw [Int.pow_succ] at hd; rcases hp.euclid hd with h1 | h1; exact ihk h1; exact hy h1
    refine ⟨g * x ^ m, fun hd => by rcases hp.euclid hd with h1 | h1; exact hg0 h1; exact hpp x m hxp h1, ?_, ?_⟩
    · intro r hr
      rw [hmul]
      rcases List.mem_cons.1 hr with rfl | hr'
      · rw [hg2 r hq hqn hqfs, Int.one_mul, Int.emod_emod]; exact hyq
      · have hrp := hf r (by simp [hr'])
        rw [hym r hrp.1 hrp.2 (fun e => hqfs (e ▸ hr')), Int.mul_one, Int.emod_emod]
        exact hg1 r hr'
    · intro r hr hrN hrm
      rw [hmul, hg2 r hr hrN (fun h => hrm (by simp [h])), hym r hr hrN (fun e => hrm (by simp [e]))]
      simpa using one_mod h2

def IsGen (p g : Int) : Prop := ¬ p ∣ g ∧ ∀ n : Nat, 0 < n → n < (p - 1).toNat → g ^ n % p ≠ 1
theorem isGen_of_primes {p : Int} (hp : Pr p) (_hp3 : 3 ≤ p) {g : Int} (h0 : ¬ p ∣ g) (h : ∀ q, PrN q → q ∣ (p - 1).toNat → g ^ ((p - 1).toNat / q) % p ≠ 1) : IsGen p g := by
  refine ⟨h0, fun n hn hlt h1 => ?_⟩
  have h2 := hp.two
  have hg := pow_one_gcd h2 h1 (fermat hp h0)
  generalize (p - 1).toNat = N at *
  have hd := Nat.gcd_dvd_right n N
  have hle := Nat.gcd_le_left N hn
  obtain ⟨k, hk⟩ := hd
  have hk2 : 2 ≤ k := by
    rcases Nat.lt_or_ge k 2 with hk2 | hk2
    · exfalso
      have : k = 0 ∨ k = 1 := by omega
      rcases this with rfl | rfl <;> omega
    · exact hk2
  obtain ⟨q, hq, j, hj⟩ := exists_prime hk2
  have hq2 := hq.1
  have e : N / q = Nat.gcd n N * j := by
    conv => lhs; rw [hk, hj, ← Nat.mul_assoc, Nat.mul_comm _ q, Nat.mul_assoc]
    exact Nat.mul_div_cancel_left _ (by omega)
  refine h q hq ⟨Nat.gcd n N * j, ?_⟩ (by rw [e]; exact pow_one_mul h2 hg j)
  conv => lhs; rw [hk, hj]
  rw [← Nat.mul_assoc, Nat.mul_comm _ q, Nat.mul_assoc]
theorem exists_gen {p : Int} (hp : Pr p) (hp3 : 3 ≤ p) : ∃ g : Int, 1 ≤ g ∧ g < p ∧ IsGen p g := by
  have h2 := hp.two
  let fs := ((List.range ((p - 1).toNat + 1)).filter (fun q => @decide (PrN q ∧ q ∣ (p - 1).toNat) (Classical.propDecidable _)))
  obtain ⟨g, h0, h1, _⟩ := gen_of_list hp hp3 fs (fun q hq => by simpa using (List.mem_filter.1 hq).2) (List.Nodup.sublist List.filter_sublist List.nodup_range)
  have hb := mod_bd h2 g
  have hne : g % p ≠ 0 := fun e => h0 (Int.dvd_of_emod_eq_zero e)
  refine ⟨g % p, by omega, hb.2, isGen_of_primes hp hp3 (fun hd => by have := Int.le_of_dvd (by omega) hd; omega) fun q hq hqn => ?_⟩
  rw [pow_mod]
  exact h1 q (List.mem_filter.2 ⟨by have := Nat.le_of_dvd (by omega) hqn; simp; omega, @decide_eq_true _ (Classical.propDecidable _) ⟨hq, hqn⟩⟩)
end Go.Att
end
section
/-! Words for what a world holds: slices that read as lists, blocks that are as they were. No program in sight. -/
namespace Go.Att
open Go.RowKit

theorem ret_int {k : IntKind} {a b : Int} (h : a = b) : Ending.returned (.int k a) = .returned (.int k b) := by rw [h]
theorem ret_bool {a b : Bool} (h : a = b) : Ending.returned (.bool a) = .returned (.bool b) := by rw [h]
theorem i64_and_nat (a b : Nat) (ha : a < 9223372036854775808) (hb : b < 9223372036854775808) : bits .and .i64 (a : Int) (b : Int) = ((a &&& b : Nat) : Int) := by
  have hx : a &&& b < 2 ^ 63 := Nat.and_lt_two_pow _ (by omega)
  have h1 : (BitVec.ofInt 64 (a : Int)).toNat = a := by
    rw [BitVec.ofInt_natCast, BitVec.toNat_ofNat]; exact Nat.mod_eq_of_lt (by omega)
  have h2 : (BitVec.ofInt 64 (b : Int)).toNat = b := by
    rw [BitVec.ofInt_natCast, BitVec.toNat_ofNat]; exact Nat.mod_eq_of_lt (by omega)
  show IntKind.i64.wrap ((BitVec.ofInt 64 (a : Int) &&& BitVec.ofInt 64 (b : Int)).toNat : Int) = _
  rw [BitVec.toNat_and, h1, h2, IntKind.wrap_i64]
  omega
theorem i64_and_one (a : Nat) (ha : a < 9223372036854775808) : bits .and .i64 (a : Int) 1 = ((a % 2 : Nat) : Int) := by
  have := i64_and_nat a 1 ha (by omega)
  rw [Nat.and_one_is_mod] at this
  exact this

def Ext (w w' : World) : Prop := Below w.heap.size w w'

theorem Ext.refl (w : World) : Ext w w := Below.refl _ _
theorem Ext.trans {a b c : World} (h : Ext a b) (k : Ext b c) : Ext a c := Below.trans h (Below.mono k h.size)
theorem Ext.alloc (w : World) (o : Obj) : Ext w (w.alloc o) := (Below.refl _ _).alloc (Nat.le_refl _) o
theorem Ext.drew (w : World) : Ext w w.drew := (Below.refl _ _).drew
theorem Ext.drewN (w : World) (n : Nat) : Ext w (w.drewN n) := ⟨rfl, rfl, rfl, Nat.le_refl _, fun _ _ => rfl⟩
abbrev Rd (w : World) (v : Value) : Ending → World → Prop := fun e w' => e = .returned v ∧ ∃ m, w' = w.drewN m
theorem Rd.ext {w w' : World} {v : Value} {e : Ending} (h : Rd w v e w') : e = .returned v ∧ Ext w w' := ⟨h.1, by obtain ⟨m, rfl⟩ := h.2; exact Ext.drewN _ _⟩
theorem Rd.same {w : World} {v : Value} {e : Ending} (h : e = .returned v) : Rd w v e w := ⟨h, 0, rfl⟩
theorem Rd.more {w : World} {v : Value} {e : Ending} (n : Nat) (h : e = .returned v) : Rd w v e (w.drewN n) := ⟨h, n, rfl⟩
def Gives (w : World) (φ : Value → World → Prop) (e : Ending) (w' : World) : Prop := ∃ v, e = .returned v ∧ Ext w w' ∧ φ v w'
theorem Gives.mk {w w' : World} {φ : Value → World → Prop} {e : Ending} (v : Value) (h1 : e = .returned v) (h2 : Ext w w') (h3 : φ v w') : Gives w φ e w' := ⟨v, h1, h2, h3⟩
def RdI (w : World) (φ : Int → Prop) (e : Ending) (w' : World) : Prop := ∃ r, φ r ∧ e = .returned (.int .i64 r) ∧ ∃ m, w' = w.drewN m
theorem Ext.size {w w' : World} (h : Ext w w') : w.heap.size ≤ w'.heap.size := Below.size h
theorem Ext.cell {w w' : World} (h : Ext w w') {p : Addr} {v : Value} (hc : w.cell? p = some v) : w'.cell? p = some v :=
  (Below.cell h (World.block_lt_of_cell? w p hc)).trans hc
theorem Ext.below {w w' : World} (h : Ext w w') : Below w.heap.size w w' := h

def Sl (w : World) (sz : Nat) (v : Value) (n : Nat) (cs : List Value) : Prop :=
  ∃ ao cap, v = .slice ao n cap ∧ cs.length = n * sz ∧ n ≤ cap ∧ cap ≤ maxLen ∧
    ∀ i (h : i < cs.length), ∃ b off, ao = some ⟨b, off, none⟩ ∧ w.cell? ⟨b, off + i, none⟩ = some cs[i]

def elt (v : Value) (i sz : Nat) : Addr := match v with
  | .slice (some a) _ _ => a.add (i * sz)
  | _ => default

theorem Sl.ext {w w' : World} {sz n : Nat} {v : Value} {cs : List Value} (h : Sl w sz v n cs) (hx : Ext w w') : Sl w' sz v n cs := by
  obtain ⟨ao, cap, h1, h2, h3, h4, h5⟩ := h
  exact ⟨ao, cap, h1, h2, h3, h4, fun i hi => let ⟨b, off, e, hc⟩ := h5 i hi; ⟨b, off, e, hx.cell hc⟩⟩
theorem Sl.len {w : World} {sz n : Nat} {v : Value} {cs : List Value} (h : Sl w sz v n cs) : n ≤ maxLen := by
  obtain ⟨ao, cap, h1, h2, h3, h4, h5⟩ := h; omega
theorem Sl.length {w : World} {sz n : Nat} {v : Value} {cs : List Value} (h : Sl w sz v n cs) : cs.length = n * sz := by
  obtain ⟨ao, cap, h1, h2, h3, h4, h5⟩ := h; exact h2
theorem Sl.cell {w : World} {sz n : Nat} {v : Value} {cs : List Value} (h : Sl w sz v n cs) (i k : Nat) (hi : i < n) (hk : k < sz) : w.cell? ((elt v i sz).add k) = cs[i * sz + k]? := by
  obtain ⟨ao, cap, rfl, h2, h3, h4, h5⟩ := h
  have hlt : i * sz + k < cs.length := by
    have : (i + 1) * sz ≤ n * sz := Nat.mul_le_mul_right _ hi
    rw [Nat.succ_mul] at this; omega
  obtain ⟨b, off, rfl, hc⟩ := h5 _ hlt
  simp only [elt, Addr.add_lit]
  rw [List.getElem?_eq_getElem hlt, ← hc, Nat.add_assoc]

structure SlT (P : Program) (t e sz bytes : Nat) (z : Value) : Prop where
  und : P.underlying t = some (.slice e)
  inf : ∃ i, P.info? e = some i ∧ i.zero = some z ∧ i.size = sz ∧ i.bytes = bytes
  pos : 0 < sz

theorem SlT.mk' {P : Program} {t e sz bytes : Nat} {z : Value} (h : P.underlying t = some (.slice e)) (h2 : (P.info? e).map (fun i => (i.zero, i.size, i.bytes)) = some (some z, sz, bytes)) (h3 : 0 < sz) : SlT P t e sz bytes z :=
  ⟨h, info_parts h2, h3⟩

section
variable {P : Program}
theorem SlT.run_size {t e sz bytes : Nat} {z : Value} (h : SlT P t e sz bytes z) (w : World) : (sizeOf e).run P w = .ok sz w := by
  obtain ⟨i, h1, h2, h3, h4⟩ := h.inf
  simp [sizeOf, typeInfo, h1, h3]
theorem Sl.run_len {w : World} {sz n : Nat} {v : Value} {cs : List Value} (h : Sl w sz v n cs) {t e bytes : Nat} {z : Value} (ht : SlT P t e sz bytes z) (ty : TypeId) (w' : World) :
    (Builtin.len_ #[t] ty #[v]).run P w' = .ok (.int .i64 n) w' := by
  obtain ⟨ao, cap, rfl, h2, h3, h4, h5⟩ := h
  simp [Builtin.len_, run_underlying ht.und, goInt]
theorem Sl.run_index {w : World} {sz n : Nat} {v : Value} {cs : List Value} (h : Sl w sz v n cs) {t e bytes : Nat} {z : Value} (ht : SlT P t e sz bytes z) (i : Int) (h0 : 0 ≤ i) (hi : i < n) (w' : World) :
    (Instr.indexAt t v (.int .i64 i)).run P w' = .ok (.pointer (some (elt v i.toNat sz))) w' := by
  obtain ⟨ao, cap, rfl, h2, h3, h4, h5⟩ := h
  have hlt : i.toNat * sz < cs.length := by
    have h6 : (i.toNat + 1) * sz ≤ n * sz := Nat.mul_le_mul_right _ (by omega)
    rw [Nat.succ_mul] at h6; have := ht.pos; omega
  obtain ⟨b, off, rfl, hc⟩ := h5 _ hlt
  simp [Instr.indexAt, run_underlying ht.und, asIntOf, h0, hi, elt, ht.run_size]
end

def Ints (w : World) (v : Value) (l : List Int) : Prop := Sl w 1 v l.length (l.map (Value.int .i64))
theorem Ints.ext {w w' : World} {v : Value} {l : List Int} (h : Ints w v l) (hx : Ext w w') : Ints w' v l := Sl.ext h hx
def nth (l : List Int) (i : Nat) : Int := l.getD i 0
theorem Ints.cell {w : World} {v : Value} {l : List Int} (h : Ints w v l) (i : Nat) (hi : i < l.length) : w.cell? (elt v i 1) = some (.int .i64 (nth l i)) := by
  have := Sl.cell h i 0 hi (by omega)
  simp [Addr.add] at this
  rw [this]
  simp [nth, List.getElem?_eq_getElem hi]


theorem nth_eq {l : List Int} {i : Nat} (h : i < l.length) : nth l i = l[i] := by simp [nth, h]
theorem nth_mem {l : List Int} {i : Nat} (h : i < l.length) : nth l i ∈ l := by rw [nth_eq h]; exact List.getElem_mem h
theorem Ints.shape {w : World} {v : Value} {l : List Int} (h : Ints w v l) : ∃ ao cap, v = .slice ao l.length cap := by
  obtain ⟨ao, cap, h1, _⟩ := h; exact ⟨ao, cap, h1⟩
theorem Ints.run_len {P : Program} {w : World} {v : Value} {l : List Int} (h : Ints w v l) {t e bytes : Nat} {z : Value} (ht : SlT P t e 1 bytes z) (ty : TypeId) (w' : World) :
    (Builtin.len_ #[t] ty #[v]).run P w' = .ok (.int .i64 l.length) w' := Sl.run_len h ht ty w'
theorem Ints.run_index {P : Program} {w : World} {v : Value} {l : List Int} (h : Ints w v l) {t e bytes : Nat} {z : Value} (ht : SlT P t e 1 bytes z) (i : Nat) (hi : i < l.length) (w' : World) :
    (Instr.indexAt t v (.int .i64 i)).run P w' = .ok (.pointer (some (elt v i 1))) w' := Sl.run_index h ht i (by omega) (by omega) w'
theorem Ints.len {w : World} {v : Value} {l : List Int} (h : Ints w v l) : l.length ≤ 9223372036854775807 := by have := Sl.len h; unfold maxLen at this; omega

structure Fld (w : World) (f : Value) (p g : Int) (fs : List Int) : Prop where
  at_ : ∃ b v, f = .pointer (some ⟨b, 0, none⟩) ∧ w.cell? ⟨b, 0, none⟩ = some (.int .i64 p) ∧ w.cell? ⟨b, 1, none⟩ = some v ∧ Ints w v fs ∧ w.cell? ⟨b, 2, none⟩ = some (.int .i64 g)
  pr : Pr p
  lo : 3 ≤ p
  hi : p ≤ 2147483647
theorem Fld.ptr {w : World} {f : Value} {p g : Int} {fs : List Int} (h : Fld w f p g fs) : ∃ b, f = .pointer (some ⟨b, 0, none⟩) := by
  obtain ⟨b, v, h1, _⟩ := h.at_; exact ⟨b, h1⟩
theorem Fld.ext {w w' : World} {f : Value} {p g : Int} {fs : List Int} (h : Fld w f p g fs) (hx : Ext w w') : Fld w' f p g fs := by
  obtain ⟨⟨b, v, h1, h2, h3, h4, h5⟩, h6, h7, h8⟩ := h
  exact ⟨⟨b, v, h1, hx.cell h2, hx.cell h3, h4.ext hx, hx.cell h5⟩, h6, h7, h8⟩
theorem Fld.drewN {w : World} {f : Value} {p g : Int} {fs : List Int} (h : Fld w f p g fs) (n : Nat) : Fld (w.drewN n) f p g fs := h.ext (Ext.drewN _ _)
theorem Ints.drewN {w : World} {v : Value} {l : List Int} (h : Ints w v l) (n : Nat) : Ints (w.drewN n) v l := h.ext (Ext.drewN _ _)
theorem Fld.two {w : World} {f : Value} {p g : Int} {fs : List Int} (h : Fld w f p g fs) : 2 ≤ p := by have := h.lo; omega
end Go.Att
/-! Slices of the call's own: append, make, store, in the words of XVoc. -/
namespace Go.Att
open Go.RowKit

theorem own_ext {w w' : World} {B e sz n : Nat} {v : Value} {xs : List Value} (h : w.ownsRow B e sz v n xs) (hx : Ext w w') : w'.ownsRow B e sz v n xs := by
  refine ⟨h.1, ?_⟩
  rcases h.2 with h2 | ⟨g, cap, cur, hv, hb, hg, hr⟩
  · exact .inl h2
  · exact .inr ⟨g, cap, cur, hv, hb, by rw [hx.below.block g (Array.getElem?_eq_some_iff.1 hg).1]; exact hg, hr⟩

theorem Sl.of_own {w : World} {B e sz n : Nat} {v : Value} {xs : List Value} (h : w.ownsRow B e sz v n xs) (_hsz : 0 < sz) : Sl w sz v n xs := by
  obtain ⟨h1, h2⟩ := h
  rcases h2 with ⟨rfl, rfl⟩ | ⟨g, cap, cur, rfl, hb, hg, hn, hm, hs, ht⟩
  · have : xs = [] := List.eq_nil_of_length_eq_zero (by simpa using h1)
    subst this
    exact ⟨none, 0, rfl, by simp, Nat.le_refl _, Nat.zero_le _, fun i hi => by simp at hi⟩
  · refine ⟨some ⟨g, 0, none⟩, cap, rfl, h1, hn, hm, fun i hi => ⟨g, 0, rfl, ?_⟩⟩
    rw [Nat.zero_add, cell_of_row w g i cur e (0, 0) hg]
    have h3 : xs[i]? = cur[i]? := by
      rw [← ht, List.getElem?_take, if_pos (by omega)]; simp
    rw [← h3, List.getElem?_eq_getElem hi]
theorem Ints.of_own {w : World} {B e n : Nat} {v : Value} {l : List Int} (h : w.ownsRow B e 1 v n (l.map (Value.int .i64))) : Ints w v l := by
  have hl : n = l.length := by have := h.1; simp at this; omega
  subst hl
  exact Sl.of_own h (by omega)
theorem Ints.nil (w : World) : Ints w (.slice none 0 0) [] := ⟨none, 0, rfl, by simp, Nat.le_refl _, Nat.zero_le _, fun i hi => by simp at hi⟩

section
variable {P : Program} {ops : Array Oper} {rest : List Oper} {o : Oper} {a : Act} {Q : Exit → Act → World → Prop}
theorem wpList_app1 {W : World} (hgd : o.guard = none) (s x : Operand) (t : TypeId)
    (ho : o.op = .call { callee := .builtin .append, args := #[s, x], argTypes := #[t, t] })
    {e bytes : Nat} {z : Value} (ht : SlT P t e 1 bytes z) (hz : z.oneCell' = true) {w0 : World} (hx0 : Ext w0 W) {v : Value} {n : Nat} {xs : List Value} (hown : W.ownsRow w0.heap.size e 1 v n xs)
    (hs : a.eval s = v) (u : Value) (hu : u.oneCell' = true) (hx : a.eval x = .slice (some ⟨W.heap.size, 0, none⟩) 1 1) (h63 : n + 1 ≤ 4294967296) (hby : bytes ≤ 4096)
    (h : ∀ v' w', w'.ownsRow w0.heap.size e 1 v' (n + 1) (xs ++ [u]) → Ext w0 w' → W.grownBy w' v.ownBlock → wpList P ops Q rest (a.put o.dst v') w') : wpList P ops Q (o :: rest) a (W.alloc (.cells #[u] e)) := by
  obtain ⟨i, hi, hiz, his, hib⟩ := ht.inf
  have hB : (n + 1) * bytes ≤ 4294967296 * 4096 := Nat.mul_le_mul h63 hby
  refine wpList_append_own (P := P) _ hgd s x t ho w0.heap.size e i z 1 bytes ht.und hi hiz his hib ?_ (by omega) v n xs hs (hown.alloc _) ⟨W.heap.size, 0, none⟩ 1 1 [u] hx rfl ?_ ?_ ?_ ?_ ?_ ?_
  · cases z <;> first | rfl | simp [Value.oneCell'] at hz
  · intro j y hy
    cases j with
    | zero => simp at hy; subst hy; simp [Addr.add]
    | succ j => simp at hy
  · intro y hy; simp at hy; subst hy; exact hu
  · unfold maxLen; omega
  · omega
  · have := hx0.size; simp; omega
  · intro v' w' h1 h2 h3
    have hg : W.grownBy w' v.ownBlock := ⟨h2.os, h2.tape, h2.output, by have := h2.size; simp at this; omega, fun k hk hne => by
      rw [h2.block k (by simp; omega) hne]; exact heap_alloc_old W _ hk⟩
    refine h v' w' h1 ?_ hg
    exact Below.grown hx0.below hg hx0.size (fun k hk => (hown.lt k hk).1)
end

def flatP (l : List (Int × Int)) : List Value := l.flatMap fun c => [.int .i64 c.1, .int .i64 c.2]
theorem flatP_get (l : List (Int × Int)) (i : Nat) (h : i < l.length) : (flatP l)[i * 2]? = some (.int .i64 l[i].1) ∧ (flatP l)[i * 2 + 1]? = some (.int .i64 l[i].2) := by
  induction l generalizing i with
  | nil => simp at h
  | cons c l ih =>
    cases i with
    | zero => simp [flatP]
    | succ i =>
      have := ih i (by simpa using h)
      have e : (i + 1) * 2 = i * 2 + 2 := by omega
      simp only [flatP, List.flatMap_cons, List.cons_append, List.nil_append, e] at *
      exact this
def Prs (w : World) (v : Value) (l : List (Int × Int)) : Prop := Sl w 2 v l.length (flatP l)
def nthP (l : List (Int × Int)) (i : Nat) : Int × Int := l.getD i (0, 0)
theorem nthP_eq {l : List (Int × Int)} {i : Nat} (h : i < l.length) : nthP l i = l[i] := by simp [nthP, h]
theorem Prs.ext {w w' : World} {v : Value} {l : List (Int × Int)} (h : Prs w v l) (hx : Ext w w') : Prs w' v l := Sl.ext h hx
theorem Prs.len {w : World} {v : Value} {l : List (Int × Int)} (h : Prs w v l) : l.length ≤ 9223372036854775807 := by have := Sl.len h; unfold maxLen at this; omega
theorem Prs.run_len {P : Program} {w : World} {v : Value} {l : List (Int × Int)} (h : Prs w v l) {t e bytes : Nat} {z : Value} (ht : SlT P t e 2 bytes z) (ty : TypeId) (w' : World) :
    (Builtin.len_ #[t] ty #[v]).run P w' = .ok (.int .i64 l.length) w' := Sl.run_len h ht ty w'
theorem Prs.run_index {P : Program} {w : World} {v : Value} {l : List (Int × Int)} (h : Prs w v l) {t e bytes : Nat} {z : Value} (ht : SlT P t e 2 bytes z) (i : Nat) (hi : i < l.length) (w' : World) :
    (Instr.indexAt t v (.int .i64 i)).run P w' = .ok (.pointer (some (elt v i 2))) w' := Sl.run_index h ht i (by omega) (by omega) w'
theorem Prs.snd {w : World} {v : Value} {l : List (Int × Int)} (h : Prs w v l) (i : Nat) (hi : i < l.length) : w.cell? ⟨(elt v i 2).block, (elt v i 2).off + 1, none⟩ = some (.int .i64 (nthP l i).2) := by
  have := Sl.cell h i 1 hi (by omega)
  simp only [Addr.add] at this
  rw [if_neg (by omega)] at this
  rw [this, (flatP_get l i hi).2, nthP_eq hi]
end Go.Att
/-! Slices of the call's own, more: a store into an element, append of a whole slice, make. -/
namespace Go.Att
open Go.RowKit

section
variable {P : Program} {ops : Array Oper} {rest : List Oper} {o : Oper} {a : Act} {Q : Exit → Act → World → Prop}

theorem elt_own {w : World} {B e sz n : Nat} {v : Value} {xs : List Value} (h : w.ownsRow B e sz v n xs) {i : Nat} (hi : i < n) : ∃ g cap cur, v = .slice (some ⟨g, 0, none⟩) n cap ∧ B ≤ g ∧ w.heap[g]? = some (.cells cur e (0, 0)) ∧ n ≤ cap ∧ cap ≤ maxLen ∧ cur.size = cap * sz ∧ cur.toList.take (n * sz) = xs ∧ elt v i sz = ⟨g, i * sz, none⟩ := by
  rcases h.2 with ⟨rfl, rfl⟩ | ⟨g, cap, cur, rfl, h1, h2, h3, h4, h5, h6⟩
  · omega
  · exact ⟨g, cap, cur, rfl, h1, h2, h3, h4, h5, h6, by simp [elt, Addr.add_lit]⟩

theorem run_set {W : World} {t e sz bytes : Nat} {z : Value} (ht : SlT P t e sz bytes z) {B n : Nat} {v : Value} {xs : List Value} (hown : W.ownsRow B e sz v n xs) (i : Nat) (hi : i < n) (val : Value) (hus : val.cells.toList.length = sz) (h1 : ∀ u ∈ val.cells.toList, u.oneCell' = true) :
    ∃ w', (Instr.storeAt e (.pointer (some (elt v i sz))) val).run P W = .ok () w' ∧ w'.ownsRow B e sz v n (xs.take (i * sz) ++ val.cells.toList ++ xs.drop (i * sz + sz)) ∧ W.grownBy w' v.ownBlock := by
  obtain ⟨g, cap, cur, rfl, hb, hg, hn, hm, hs, htk, he⟩ := elt_own hown hi
  have hle : (i + 1) * sz ≤ cap * sz := Nat.mul_le_mul_right _ (by omega)
  have hle2 : (i + 1) * sz ≤ n * sz := Nat.mul_le_mul_right _ (by omega)
  rw [Nat.succ_mul] at hle hle2
  have hle3 : n * sz ≤ cap * sz := Nat.mul_le_mul_right _ hn
  have hst := run_storeCells_at (P := P) g (i * sz) e val.cells.toList 0 cur W hg (by rw [hus]; omega) h1
  have hxl : xs.length = n * sz := hown.1
  refine ⟨W.setRow g (cur.toList.take (i * sz + 0) ++ val.cells.toList ++ cur.toList.drop (i * sz + 0 + val.cells.toList.length)).toArray, ?_, ?_, ?_⟩
  rotate_left
  · refine ⟨?_, .inr ⟨g, cap, _, rfl, hb, setRow_heap W g cur (cur.toList.take (i * sz + 0) ++ val.cells.toList ++ cur.toList.drop (i * sz + 0 + val.cells.toList.length)).toArray e (0, 0) hg, hn, hm, ?_, ?_⟩⟩
    · simp only [List.length_append, List.length_take, List.length_drop, hus]; omega
    · simp only [List.size_toArray, List.length_append, List.length_take, List.length_drop, hus, Array.length_toList]; omega
    · rw [hus, Nat.add_zero, ← htk]
      apply List.ext_getElem?
      intro j
      simp only [List.getElem?_append, List.getElem?_take, List.getElem?_drop, List.length_append, List.length_take, Array.length_toList, hus]
      by_cases h2 : j < n * sz
      · rw [if_pos h2]
        by_cases h3 : j < i * sz
        · rw [if_pos (by omega), if_pos (by omega), if_pos h3, if_pos (by omega), if_pos (by omega), if_pos h3, if_pos h2]
        · by_cases h4 : j < i * sz + sz
          · rw [if_pos (by omega), if_neg (by omega), if_pos (by omega), if_neg (by omega)]; congr 1; omega
          · rw [if_neg (by omega), if_neg (by omega), if_pos (by omega)]; congr 1; omega
      · rw [if_neg h2, if_neg (by omega), if_neg (by omega)]
  · exact ⟨rfl, rfl, rfl, by simp, fun k _ hk => setRow_other W g k _ (fun e => hk (by simp [Value.ownBlock, e]))⟩
  · have hsz : val.cells.size = sz := by rw [← Array.length_toList, hus]
    simp [Instr.storeAt, Instr.sureAddr, he, storeVar, ht.run_size, hsz, hst]

theorem wpList_set {W : World} (hgd : o.guard = none) (hd : o.dst = none) (ad x : Operand) (e : Nat) (ho : o.op = .store e ad x) {t sz bytes : Nat} {z : Value} (ht : SlT P t e sz bytes z) {B n : Nat} {v : Value} {xs : List Value} (hown : W.ownsRow B e sz v n xs) (i : Nat) (hi : i < n)
    (ha : a.eval ad = .pointer (some (elt v i sz))) (val : Value) (hx : a.eval x = val) (hus : val.cells.toList.length = sz) (h1 : ∀ u ∈ val.cells.toList, u.oneCell' = true)
    (h : ∀ w', w'.ownsRow B e sz v n (xs.take (i * sz) ++ val.cells.toList ++ xs.drop (i * sz + sz)) → W.grownBy w' v.ownBlock → wpList P ops Q rest a w') : wpList P ops Q (o :: rest) a W := by
  refine wpList_plain hgd fun K hK => ?_
  obtain ⟨w', hr, h2, h3⟩ := run_set (P := P) ht hown i hi val hus h1
  unfold Oper.wp
  simp [execOp, ho, ha, hx, hr, Result.andThen, Oper.upon, hd, Act.put]
  exact hK _ _ (h w' h2 h3)

theorem run_append_none {w : World} (base : Nat) (t ty e : TypeId) (i : TypeInfo) (size : Nat) (ht : P.underlying t = some (.slice e)) (hi : P.info? e = some i)
    (v : Value) (n : Nat) (xs : List Value) (c : Nat) (hown : w.ownsRow base e size v n xs) :
    (Builtin.append_ #[t, t] ty #[v, .slice none 0 c]).run P w = .ok v w := by
  rcases hown.2 with ⟨rfl, rfl⟩ | ⟨g, cap, cur, rfl, _, _, hnc, _⟩
  · simp [Builtin.append_, run_underlying ht, sizeOf, typeInfo, hi, Builtin.lenOf, Builtin.firstCells]
  · simp [Builtin.append_, run_underlying ht, sizeOf, typeInfo, hi, Builtin.lenOf, Builtin.firstCells, hnc, storeCells]
theorem wpList_appSl {W : World} (hgd : o.guard = none) (s x : Operand) (t : TypeId)
    (ho : o.op = .call { callee := .builtin .append, args := #[s, x], argTypes := #[t, t] })
    {e sz bytes : Nat} {z : Value} (ht : SlT P t e sz bytes z) (hz : z.cells.size = sz) {w0 : World} (hx0 : Ext w0 W) {v : Value} {n : Nat} {xs : List Value} (hown : W.ownsRow w0.heap.size e sz v n xs)
    (hs : a.eval s = v) {vl : Value} {m : Nat} {cs : List Value} (hl : Sl W sz vl m cs) (h1 : ∀ u ∈ cs, u.oneCell' = true) (hx : a.eval x = vl) (h63 : n + m ≤ 4294967296) (hby : bytes ≤ 4096)
    (h : ∀ v' w', w'.ownsRow w0.heap.size e sz v' (n + m) (xs ++ cs) → Ext w0 w' → W.grownBy w' v.ownBlock → wpList P ops Q rest (a.put o.dst v') w') : wpList P ops Q (o :: rest) a W := by
  obtain ⟨i, hi, hiz, his, hib⟩ := ht.inf
  have hB : (n + m) * bytes ≤ 4294967296 * 4096 := Nat.mul_le_mul h63 hby
  obtain ⟨ao, cap, rfl, h2, h3, h4, h5⟩ := hl
  have fin : ∀ v' w', w'.ownsRow w0.heap.size e sz v' (n + m) (xs ++ cs) → W.grownBy w' v.ownBlock → wpList P ops Q rest (a.put o.dst v') w' := fun v' w' k1 k2 =>
    h v' w' k1 (Below.grown hx0.below k2 hx0.size (fun k hk => (hown.lt k hk).1)) k2
  have go : ∀ ad : Addr, ad.spot = none → (∀ j u, cs[j]? = some u → W.cell? (ad.add j) = some u) → a.eval x = .slice (some ad) m cap → wpList P ops Q (o :: rest) a W := by
    intro ad _ hc hx'
    refine wpList_append_own (P := P) _ hgd s x t ho w0.heap.size e i z sz bytes ht.und hi hiz his hib hz ht.pos v n xs hs hown ad m cap cs hx' h2 hc h1 (by unfold maxLen; omega) (by omega) hx0.size ?_
    intro v' w' k1 k2 _
    exact fin v' w' k1 k2
  cases ao with
  | some ad =>
    rcases Nat.eq_zero_or_pos cs.length with h0 | h0
    · -- nothing is appended
      have : cs = [] := List.eq_nil_of_length_eq_zero h0
      subst this
      by_cases hsp : ad.spot = none
      · exact go ad hsp (fun j u hu => by simp at hu) hx
      · refine wpList_append_own (P := P) _ hgd s x t ho w0.heap.size e i z sz bytes ht.und hi hiz his hib hz ht.pos v n xs hs hown ad m cap [] hx h2 (fun j u hu => by simp at hu) (fun u hu => by simp at hu) (by unfold maxLen; omega) (by omega) hx0.size ?_
        intro v' w' k1 k2 _
        exact fin v' w' k1 k2
    · obtain ⟨b, off, hb, _⟩ := h5 0 h0
      obtain rfl := Option.some.inj hb
      refine go _ rfl (fun j u hu => ?_) hx
      obtain ⟨hj, rfl⟩ := List.getElem?_eq_some_iff.1 hu
      obtain ⟨b', off', hb', hc'⟩ := h5 j hj
      obtain ⟨rfl, rfl⟩ : b = b' ∧ off = off' := by simpa using hb'
      rw [Addr.add_lit]; exact hc'
  | none =>
    have h0 : cs.length = 0 := by
      rcases Nat.eq_zero_or_pos cs.length with h0 | h0
      · exact h0
      · obtain ⟨b, off, hb, _⟩ := h5 0 h0; simp at hb
    have hcs : cs = [] := List.eq_nil_of_length_eq_zero h0
    subst hcs
    have hm0 : m = 0 := by
      have hp := ht.pos
      rcases Nat.eq_zero_or_pos m with h6 | h6
      · exact h6
      · have : 0 < m * sz := Nat.mul_pos h6 hp
        simp at h2; omega
    subst hm0
    refine wpList_plain hgd fun K hK => ?_
    have hrun := run_append_none (P := P) w0.heap.size t o.type e i sz ht.und hi v n xs cap hown
    unfold Oper.wp
    simp [execOp, ho, resolve, invoke, builtin, hs, hx, hrun, Result.andThen]
    exact hK _ _ (fin _ W (by simpa using hown) (World.grownBy.refl _ _))
end
end Go.Att
/-! Slices of the call's own, more: make; slices of slices. -/
namespace Go.Att
open Go.RowKit
section
variable {P : Program} {ops : Array Oper} {rest : List Oper} {o : Oper} {a : Act} {Q : Exit → Act → World → Prop}
theorem wpList_mk0 {W : World} (hgd : o.guard = none) (l c : Operand) (t : TypeId) (hop : o.op = Op.makeSlice t l c) {e sz bytes : Nat} {z : Value} (ht : SlT P t e sz bytes z) {w0 : World} (hx0 : Ext w0 W)
    {kl kc : IntKind} {C : Int} (hl : a.eval l = .int kl 0) (hc : a.eval c = .int kc C) (h0 : 0 ≤ C) (h1 : C ≤ 4294967296) (hby : bytes ≤ 65536)
    (h : ∀ v w', w'.ownsRow w0.heap.size e sz v 0 [] → Ext w0 w' → W.grownBy w' none → wpList P ops Q rest (a.put o.dst v) w') : wpList P ops Q (o :: rest) a W := by
  obtain ⟨i, hi, hiz, his, hib⟩ := ht.inf
  obtain ⟨n, rfl⟩ := Int.eq_ofNat_of_zero_le h0
  have hB : i.bytes * n ≤ 65536 * 4294967296 := Nat.mul_le_mul (by omega) (by omega)
  refine wpList_make_own W hgd l c t hop w0.heap.size e i z sz ht.und hi hiz his kl kc n n hl hc rfl (by omega) (by unfold maxLen; omega) hx0.size ?_
  intro w' h2 h3
  exact h _ w' h2 (Below.grown hx0.below h3 hx0.size (fun k hk => by cases hk)) h3
theorem wpList_mkn {W : World} (hgd : o.guard = none) (l c : Operand) (t : TypeId) (hop : o.op = Op.makeSlice t l c) {e sz bytes : Nat} {z : Value} (ht : SlT P t e sz bytes z) {w0 : World} (hx0 : Ext w0 W)
    {kl kc : IntKind} {C : Int} (hl : a.eval l = .int kl C) (hc : a.eval c = .int kc C) (h0 : 0 ≤ C) (h1 : C ≤ 4294967296) (hby : bytes ≤ 65536)
    (h : ∀ v w', w'.ownsRow w0.heap.size e sz v C.toNat (madeCells z.cells (C.toNat * sz)).toList → Ext w0 w' → W.grownBy w' none → wpList P ops Q rest (a.put o.dst v) w') : wpList P ops Q (o :: rest) a W := by
  obtain ⟨i, hi, hiz, his, hib⟩ := ht.inf
  obtain ⟨n, rfl⟩ := Int.eq_ofNat_of_zero_le h0
  have hB : i.bytes * n ≤ 65536 * 4294967296 := Nat.mul_le_mul (by omega) (by omega)
  refine wpList_make_full W hgd l c t hop w0.heap.size e i z sz ht.und hi hiz his kl kc n n n hl hc rfl rfl (by omega) (by unfold maxLen; omega) hx0.size ?_
  intro w' h2 h3
  exact h _ w' (by simpa using h2) (Below.grown hx0.below h3 hx0.size (fun k hk => by cases hk)) h3
end
theorem cell_new (w : World) (cs : Array Value) (e : TypeId) (i : Nat) : (w.alloc (.cells cs e)).cell? ⟨w.heap.size, i, none⟩ = cs[i]? := by simp
theorem cell_newN (w : World) (n : Nat) (cs : Array Value) (e : TypeId) (i : Nat) : ((w.drewN n).alloc (.cells cs e)).cell? ⟨w.heap.size, i, none⟩ = cs[i]? := cell_new (w.drewN n) cs e i
def slen : Value → Nat
  | .slice _ n _ => n
  | _ => 0
theorem own_slen {w : World} {B e sz n : Nat} {v : Value} {xs : List Value} (h : w.ownsRow B e sz v n xs) : slen v = n := by
  rcases h.2 with ⟨rfl, rfl⟩ | ⟨g, cap, cur, rfl, _⟩ <;> rfl
theorem own_shape {w : World} {B e sz n : Nat} {v : Value} {xs : List Value} (h : w.ownsRow B e sz v n xs) : ∃ ao cap, v = .slice ao n cap := by
  rcases h.2 with ⟨rfl, rfl⟩ | ⟨g, cap, cur, rfl, _⟩
  · exact ⟨_, _, rfl⟩
  · exact ⟨_, _, rfl⟩

def nthL (l : List (List Int)) (i : Nat) : List Int := l.getD i []
theorem nthL_eq {l : List (List Int)} {i : Nat} (h : i < l.length) : nthL l i = l[i] := by simp [nthL, h]
structure RwsAt (w : World) (v : Value) (l : List (List Int)) (R : Nat → Value) : Prop where
  sl : Sl w 1 v l.length ((List.range l.length).map R)
  row : ∀ i, i < l.length → Ints w (R i) (nthL l i)
def Rws (w : World) (v : Value) (l : List (List Int)) : Prop := ∃ R, RwsAt w v l R
section
variable {P : Program} {w : World} {v : Value} {l : List (List Int)} {R : Nat → Value}
theorem RwsAt.ext {w' : World} (h : RwsAt w v l R) (hx : Ext w w') : RwsAt w' v l R := ⟨h.sl.ext hx, fun i hi => (h.row i hi).ext hx⟩
theorem Rws.ext {w' : World} (h : Rws w v l) (hx : Ext w w') : Rws w' v l := let ⟨R, hR⟩ := h; ⟨R, hR.ext hx⟩
theorem RwsAt.drewN (h : RwsAt w v l R) (n : Nat) : RwsAt (w.drewN n) v l R := h.ext (Ext.drewN _ _)
theorem RwsAt.run_len (h : RwsAt w v l R) {t e bytes : Nat} {z : Value} (ht : SlT P t e 1 bytes z) (ty : TypeId) (w' : World) : (Builtin.len_ #[t] ty #[v]).run P w' = .ok (.int .i64 l.length) w' := Sl.run_len h.sl ht ty w'
theorem RwsAt.run_index (h : RwsAt w v l R) {t e bytes : Nat} {z : Value} (ht : SlT P t e 1 bytes z) (i : Nat) (hi : i < l.length) (w' : World) :
    (Instr.indexAt t v (.int .i64 i)).run P w' = .ok (.pointer (some (elt v i 1))) w' := Sl.run_index h.sl ht i (by omega) (by omega) w'
theorem RwsAt.cell (h : RwsAt w v l R) (i : Nat) (hi : i < l.length) : w.cell? (elt v i 1) = some (R i) := by
  have := Sl.cell h.sl i 0 hi (by omega)
  simp [Addr.add] at this
  rw [this]; simp [hi]
theorem RwsAt.len (h : RwsAt w v l R) : l.length ≤ 9223372036854775807 := by have := Sl.len h.sl; unfold maxLen at this; omega
theorem RwsAt.shape (h : RwsAt w v l R) : ∃ ao cap, v = .slice ao l.length cap := by
  obtain ⟨ao, cap, h1, _⟩ := h.sl; exact ⟨ao, cap, h1⟩
theorem Rws.nil (w : World) : Rws w (.slice none 0 0) [] := ⟨fun _ => .slice none 0 0, ⟨none, 0, rfl, by simp, Nat.le_refl _, Nat.zero_le _, fun i hi => by simp at hi⟩, fun i hi => by simp at hi⟩
end
end Go.Att
/-! Slices of the call's own beside others: where an append's result lies; what stays. -/
namespace Go.Att
open Go.RowKit
section
variable {P : Program}
theorem append_where {w : World} {base t ty e : Nat} {i : TypeInfo} {z : Value} (ht : P.underlying t = some (.slice e)) (hi : P.info? e = some i) (hz : i.zero = some z)
    {v : Value} {n : Nat} {xs : List Value} (hown : w.ownsRow base e i.size v n xs)
    {a : Addr} {m c : Nat} {news : List Value} (hl : news.length = m * i.size) (hnews : ∀ j u, news[j]? = some u → w.cell? (a.add j) = some u) (h1 : ∀ u ∈ news, u.oneCell' = true)
    (h63 : n + m ≤ maxLen) (hbytes : (n + m) * i.bytes ≤ 140737488355328) {v' : Value} {w' : World} (hr : (Builtin.append_ #[t, t] ty #[v, .slice (some a) m c]).run P w = .ok v' w') :
    v'.ownBlock = v.ownBlock ∨ v'.ownBlock = some w.heap.size := by
  have hsm : n + m ≤ 9223372036854775807 := by simp only [maxLen] at h63; omega
  rcases hown.2 with ⟨rfl, rfl⟩ | ⟨g, cap, cur, rfl, hbg, hg, hnc, hcm, hcs, htake⟩
  · have hx : xs = [] := List.eq_nil_of_length_eq_zero (by simpa using hown.1)
    subst hx
    rcases Nat.eq_zero_or_pos m with hm | hm
    · subst hm
      have : (Builtin.append_ #[t, t] ty #[.slice none 0 0, .slice (some a) 0 c]).run P w = .ok (.slice none 0 0) w := by
        simp [Builtin.append_, run_underlying ht, sizeOf, typeInfo, hi, Builtin.lenOf, Builtin.firstCells, loadCells, loadCellsFrom]
      rw [this] at hr
      injection hr with h2 h3
      exact .inl (by rw [← h2])
    · have h4 := run_append_nil (P := P) w t ty e i z ht hi hz a m c news hl hnews hm (by omega) (by rw [Nat.zero_add] at hbytes; omega)
      rw [h4] at hr
      injection hr with h2 h3
      exact .inr (by rw [← h2]; rfl)
  · by_cases hroom : n + m ≤ cap
    · have hfit : n * i.size + news.length ≤ cur.size := by rw [hl, hcs, ← Nat.add_mul]; exact Nat.mul_le_mul_right _ hroom
      rw [run_append_room (P := P) w t ty e i ht hi g n cap cur hg a m c news hl hnews h1 hroom hfit] at hr
      injection hr with h2 h3
      exact .inl (by rw [← h2]; rfl)
    · rw [run_append_grow (P := P) w t ty e i z ht hi hz ⟨g, 0, none⟩ n cap xs hown.1 (hown.cells (g := g) rfl) a m c news hl hnews (by omega) (by omega) (growslice_fits (by omega) hbytes)] at hr
      injection hr with h2 h3
      exact .inr (by rw [← h2]; rfl)

def Moved (W : World) (v v' : Value) : Prop := v'.ownBlock = v.ownBlock ∨ ∀ k, v'.ownBlock = some k → W.heap.size ≤ k
def NewIn (W : World) (v : Value) : Prop := ∀ k, v.ownBlock = some k → W.heap.size ≤ k
theorem NewIn.of_own {W w : World} {e sz n : Nat} {v : Value} {xs : List Value} (h : w.ownsRow W.heap.size e sz v n xs) : NewIn W v := fun k hk => (h.lt k hk).1
theorem NewIn.mono {W W' : World} {v : Value} (h : NewIn W' v) (hx : W.heap.size ≤ W'.heap.size) : NewIn W v := fun k hk => Nat.le_trans hx (h k hk)
theorem NewIn.nil (W : World) : NewIn W (.slice none 0 0) := fun k hk => by cases hk
def OldIn (W : World) (v : Value) : Prop := ∀ k, v.ownBlock = some k → k < W.heap.size
theorem OldIn.of_own {w : World} {B e sz n : Nat} {v : Value} {xs : List Value} (h : w.ownsRow B e sz v n xs) : OldIn w v := fun k hk => (h.lt k hk).2
theorem OldIn.ext {W W' : World} {v : Value} (h : OldIn W v) (hx : W.heap.size ≤ W'.heap.size) : OldIn W' v := fun k hk => Nat.lt_of_lt_of_le (h k hk) hx
theorem Moved.refl (W : World) (v : Value) : Moved W v v := .inl rfl
theorem Moved.trans {W W' : World} {a b c : Value} (h : Moved W a b) (k : Moved W' b c) (hx : W.heap.size ≤ W'.heap.size) : Moved W a c := by
  rcases k with k | k
  · rcases h with h | h
    · exact .inl (k.trans h)
    · exact .inr fun q hq => h q (by rw [← k]; exact hq)
  · exact .inr fun q hq => Nat.le_trans hx (k q hq)
theorem Ext.grownBy {w w' : World} (h : Ext w w') (b : Option Nat) : w.grownBy w' b := ⟨h.below.os, h.below.tape, h.below.output, h.size, fun k hk _ => h.below.block k hk⟩
theorem grown_ext {W w w' : World} {b : Option Nat} (h : W.grownBy w b) (k : Ext w w') : W.grownBy w' b :=
  ⟨k.below.os.trans h.os, k.below.tape.trans h.tape, k.below.output.trans h.output, Nat.le_trans h.size k.size, fun q hq hne => by
    rw [k.below.block q (Nat.lt_of_lt_of_le hq h.size)]; exact h.block q hq hne⟩
theorem Sl.grown {w w' : World} {b : Option Nat} {sz n : Nat} {v : Value} {cs : List Value} (h : Sl w sz v n cs) (hg : w.grownBy w' b) (hne : ∀ k, v.ownBlock = some k → some k ≠ b) : Sl w' sz v n cs := by
  obtain ⟨ao, cap, rfl, h2, h3, h4, h5⟩ := h
  refine ⟨ao, cap, rfl, h2, h3, h4, fun i hi => ?_⟩
  obtain ⟨q, off, rfl, hc⟩ := h5 i hi
  exact ⟨q, off, rfl, hg.cell hc (hne q rfl)⟩
theorem Ints.grown {w w' : World} {b : Option Nat} {v : Value} {l : List Int} (h : Ints w v l) (hg : w.grownBy w' b) (hne : ∀ k, v.ownBlock = some k → some k ≠ b) : Ints w' v l := Sl.grown h hg hne
theorem Ext.own_grown {w0 W w' : World} {e sz n : Nat} {v : Value} {xs : List Value} (hx : Ext w0 W) (hown : W.ownsRow w0.heap.size e sz v n xs) (hg : W.grownBy w' v.ownBlock) : Ext w0 w' :=
  Below.grown hx.below hg hx.size (fun k hk => (hown.lt k hk).1)
end
section
variable {P : Program} {ops : Array Oper} {rest : List Oper} {o : Oper} {a : Act} {Q : Exit → Act → World → Prop}
theorem wpList_appNw {W : World} (hgd : o.guard = none) (s x : Operand) (t : TypeId)
    (ho : o.op = .call { callee := .builtin .append, args := #[s, x], argTypes := #[t, t] })
    {e sz bytes : Nat} {z : Value} (ht : SlT P t e sz bytes z) (hz : z.cells.size = sz) {B : Nat} (hx0 : B ≤ W.heap.size) {v : Value} {n : Nat} {xs : List Value} (hown : W.ownsRow B e sz v n xs)
    (hs : a.eval s = v) (us : Array Value) (hl : us.toList.length = sz) (hu : ∀ u ∈ us.toList, u.oneCell' = true) (hx : a.eval x = .slice (some ⟨W.heap.size, 0, none⟩) 1 1) (h63 : n + 1 ≤ 4294967296) (hby : bytes ≤ 4096)
    (h : ∀ v' w', w'.ownsRow B e sz v' (n + 1) (xs ++ us.toList) → W.grownBy w' v.ownBlock → Moved W v v' → wpList P ops Q rest (a.put o.dst v') w') : wpList P ops Q (o :: rest) a (W.alloc (.cells us e)) := by
  obtain ⟨i, hi, hiz, his, hib⟩ := ht.inf
  have hB : (n + 1) * bytes ≤ 4294967296 * 4096 := Nat.mul_le_mul h63 hby
  have hcell : ∀ j u, us.toList[j]? = some u → (W.alloc (.cells us e)).cell? ((⟨W.heap.size, 0, none⟩ : Addr).add j) = some u := by
    intro j y hy
    rw [Addr.add_lit, Nat.zero_add]
    simpa using hy
  have hown' := hown.alloc (.cells us e)
  obtain ⟨v', w', hr, h2, h3, h4⟩ := run_append_own (P := P) (W.alloc (.cells us e)) B t o.type e i z sz bytes ht.und hi hiz his hib hz ht.pos v n xs hown' ⟨W.heap.size, 0, none⟩ 1 1 us.toList (by rw [hl, Nat.one_mul]) hcell hu (by unfold maxLen; omega) (by omega) (by simp; omega)
  subst his; subst hib
  have hw := append_where (P := P) ht.und hi hiz hown' (m := 1) (c := 1) (by rw [hl, Nat.one_mul]) hcell hu (by unfold maxLen; omega) (by omega) hr
  have hg : W.grownBy w' v.ownBlock := ⟨h3.os, h3.tape, h3.output, by have := h3.size; simp at this; omega, fun k hk hne => by
      rw [h3.block k (by simp; omega) hne]; exact heap_alloc_old W _ hk⟩
  refine wpList_plain hgd fun K hK => ?_
  unfold Oper.wp
  simp [execOp, ho, resolve, invoke, builtin, hs, hx, hr, Result.andThen]
  refine hK _ _ (h v' w' h2 hg ?_)
  rcases hw with hw | hw
  · exact .inl hw
  · refine .inr fun k hk => ?_
    rw [hw] at hk
    have := Option.some.inj hk
    simp at this; omega
end
end Go.Att
/-! A slice of slices that the call owns, grown one slice at a time. -/
namespace Go.Att
open Go.RowKit
structure Grid (B : Nat) (w : World) (e : TypeId) (v : Value) (L : List (List Int)) (R : Nat → Value) : Prop where
  own : w.ownsRow B e 1 v L.length ((List.range L.length).map R)
  row : ∀ i, i < L.length → Ints w (R i) (nthL L i)
  lt : ∀ i, i < L.length → ∀ k, (R i).ownBlock = some k → B ≤ k ∧ k < w.heap.size ∧ some k ≠ v.ownBlock
section
variable {B : Nat} {w w' : World} {e : TypeId} {v : Value} {L : List (List Int)} {R : Nat → Value}
theorem Grid.ext (h : Grid B w e v L R) (hx : Ext w w') : Grid B w' e v L R :=
  ⟨own_ext h.own hx, fun i hi => (h.row i hi).ext hx, fun i hi k hk => ⟨(h.lt i hi k hk).1, Nat.lt_of_lt_of_le (h.lt i hi k hk).2.1 hx.size, (h.lt i hi k hk).2.2⟩⟩
theorem Grid.rws (h : Grid B w e v L R) : RwsAt w v L R := ⟨Sl.of_own h.own (by omega), h.row⟩
theorem Grid.nil (B : Nat) (w : World) (e : TypeId) (R : Nat → Value) : Grid B w e (.slice none 0 0) [] R := ⟨World.ownsRow_nil _ _ _ _, fun i hi => by simp at hi, fun i hi => by simp at hi⟩
theorem nthL_snoc (L : List (List Int)) (l : List Int) (i : Nat) (h : i < L.length + 1) : nthL (L ++ [l]) i = if i < L.length then nthL L i else l := by
  unfold nthL
  simp only [List.getD_eq_getElem?_getD]
  by_cases h1 : i < L.length
  · rw [List.getElem?_append_left h1, if_pos h1]
  · rw [List.getElem?_append_right (by omega), if_neg h1, show i - L.length = 0 by omega]; rfl
theorem Grid.push (h : Grid B w e v L R) {u v' : Value} {l : List Int} (hu : Ints w u l) (hlt : ∀ k, u.ownBlock = some k → B ≤ k ∧ k < w.heap.size ∧ some k ≠ v.ownBlock)
    (ho : w'.ownsRow B e 1 v' (L.length + 1) ((List.range L.length).map R ++ [u])) (hg : w.grownBy w' v.ownBlock) (hm : Moved w v v') : Grid B w' e v' (L ++ [l]) (fun i => if i < L.length then R i else u) := by
  have hr : (List.range (L ++ [l]).length).map (fun i => if i < L.length then R i else u) = (List.range L.length).map R ++ [u] := by
    rw [List.length_append, List.length_singleton, List.range_succ, List.map_append]
    congr 1
    · exact List.map_congr_left fun i hi => by rw [if_pos (List.mem_range.1 hi)]
    · simp
  have far : ∀ x : Value, (∀ k, x.ownBlock = some k → B ≤ k ∧ k < w.heap.size ∧ some k ≠ v.ownBlock) → ∀ k, x.ownBlock = some k → B ≤ k ∧ k < w'.heap.size ∧ some k ≠ v'.ownBlock := by
    intro x hx k hk
    obtain ⟨h0, h1, h2⟩ := hx k hk
    refine ⟨h0, Nat.lt_of_lt_of_le h1 hg.size, fun hc => ?_⟩
    rcases hm with hm | hm
    · exact h2 (by rw [← hm]; exact hc)
    · have := hm k hc.symm; omega
  refine ⟨?_, fun i hi => ?_, fun i hi => ?_⟩
  · rw [hr, List.length_append, List.length_singleton]; exact ho
  · simp at hi
    rw [nthL_snoc _ _ _ hi]
    by_cases h1 : i < L.length
    · rw [if_pos h1, if_pos h1]
      exact (h.row i h1).grown hg fun k hk => (h.lt i h1 k hk).2.2
    · rw [if_neg h1, if_neg h1]
      exact hu.grown hg fun k hk => (hlt k hk).2.2
  · simp at hi
    by_cases h1 : i < L.length
    · simp only [if_pos h1]; exact far _ (h.lt i h1)
    · simp only [if_neg h1]; exact far _ hlt
theorem Grid.set (h : Grid B w e v L R) {i : Nat} (hi : i < L.length) {u : Value} (hu : Ints w u (nthL L i)) (hlt : ∀ k, u.ownBlock = some k → B ≤ k ∧ k < w.heap.size ∧ some k ≠ v.ownBlock)
    (ho : w'.ownsRow B e 1 v L.length (((List.range L.length).map R).take (i * 1) ++ [u] ++ ((List.range L.length).map R).drop (i * 1 + 1))) (hg : w.grownBy w' v.ownBlock) : Grid B w' e v L (fun j => if j = i then u else R j) := by
  have hr : (List.range L.length).map (fun j => if j = i then u else R j) = ((List.range L.length).map R).take (i * 1) ++ [u] ++ ((List.range L.length).map R).drop (i * 1 + 1) := by
    apply List.ext_getElem?
    intro j
    rw [Nat.mul_one]
    by_cases hj : j < L.length
    · by_cases h1 : j < i
      · rw [List.append_assoc, List.getElem?_append_left (by simp; omega), List.getElem?_take, if_pos h1]
        simp [hj, show ¬ j = i by omega]
      · by_cases h2 : j = i
        · subst h2
          rw [List.append_assoc, List.getElem?_append_right (by simp; omega)]
          simp [hj, show min j L.length = j by omega]
        · rw [List.getElem?_append_right (by simp; omega)]
          simp only [List.length_append, List.length_take, List.length_map, List.length_range, List.length_singleton, List.getElem?_drop]
          rw [show i + 1 + (j - (min i L.length + 1)) = j by omega]
          simp [hj, h2]
    · rw [List.getElem?_eq_none (by simpa using hj), List.getElem?_eq_none (by simp; omega)]
  have far : ∀ x : Value, (∀ k, x.ownBlock = some k → B ≤ k ∧ k < w.heap.size ∧ some k ≠ v.ownBlock) → ∀ k, x.ownBlock = some k → B ≤ k ∧ k < w'.heap.size ∧ some k ≠ v.ownBlock := fun x hx k hk => ⟨(hx k hk).1, Nat.lt_of_lt_of_le (hx k hk).2.1 hg.size, (hx k hk).2.2⟩
  refine ⟨by rw [hr]; exact ho, fun j hj => ?_, fun j hj => ?_⟩
  · by_cases h2 : j = i
    · subst h2; rw [if_pos rfl]; exact hu.grown hg fun k hk => (hlt k hk).2.2
    · rw [if_neg h2]; exact (h.row j hj).grown hg fun k hk => (h.lt j hj k hk).2.2
  · by_cases h2 : j = i
    · subst h2; simp only [if_true]; exact far _ hlt
    · simp only [if_neg h2]; exact far _ (h.lt j hj)
theorem Grid.low (h : Grid B w e v L R) {b : Nat} (hg : w.grownBy w' (some b)) (hb : b < B) : Grid B w' e v L R := by
  refine ⟨?_, fun i hi => (h.row i hi).grown hg fun k hk hc => ?_, fun i hi k hk => ⟨(h.lt i hi k hk).1, Nat.lt_of_lt_of_le (h.lt i hi k hk).2.1 hg.size, (h.lt i hi k hk).2.2⟩⟩
  · refine ⟨h.own.1, ?_⟩
    rcases h.own.2 with h2 | ⟨g, cap, cur, hv, hbg, hgg, hr⟩
    · exact .inl h2
    · exact .inr ⟨g, cap, cur, hv, hbg, by rw [hg.block g (Array.getElem?_eq_some_iff.1 hgg).1 (fun e => by have := Option.some.inj e; omega)]; exact hgg, hr⟩
  · have := (h.lt i hi k hk).1
    have := Option.some.inj hc
    omega
end
theorem own_low {w w' : World} {B e sz n : Nat} {v : Value} {xs : List Value} (h : w.ownsRow B e sz v n xs) {b : Nat} (hg : w.grownBy w' (some b)) (hb : b < B) : w'.ownsRow B e sz v n xs := by
  refine ⟨h.1, ?_⟩
  rcases h.2 with h2 | ⟨g, cap, cur, hv, hbg, hgg, hr⟩
  · exact .inl h2
  · exact .inr ⟨g, cap, cur, hv, hbg, by rw [hg.block g (Array.getElem?_eq_some_iff.1 hgg).1 (fun e => by have := Option.some.inj e; omega)]; exact hgg, hr⟩
theorem setCell_grown (w : World) (b o : Nat) (x : Value) : w.grownBy (w.setCell ⟨b, o, none⟩ x) (some b) :=
  ⟨rfl, rfl, rfl, by simp [World.setCell], fun k hk hne => by
    have : b ≠ k := fun e => hne (by rw [e])
    simp [World.setCell, Array.getElem?_modify, this]⟩
end Go.Att
/-! Words for worlds: the first, the last of a slice of ints. No program in sight. -/
namespace Go.Att
open Go.RowKit
theorem elem_of {P : Program} {t e : TypeId} (h : P.underlying t = some (.slice e)) : P.elem t = e := by simp [Program.elem, h]
def upTo (v : Value) (k : Nat) : Value := match v with
  | .slice a _ cap => sliced a 0 k cap 1
  | v => v
def fromV (v : Value) (k : Nat) : Value := match v with
  | .slice a n cap => sliced a k n cap 1
  | v => v
section
variable {P : Program} {w : World} {v : Value} {l : List Int}
theorem Ints.run_take (h : Ints w v l) {t e bytes : Nat} {z : Value} (ht : SlT P t e 1 bytes z) (k : Nat) (hk : k ≤ l.length) (w' : World) :
    (Instr.sliceAt t v none (some (.int .i64 k)) none).run P w' = .ok (upTo v k) w' := by
  obtain ⟨ao, cap, rfl, h2, h3, h4, h5⟩ := h
  have hu : P.underlying t = some (.slice (P.elem t)) := by rw [ht.und, elem_of ht.und]
  rw [run_sliceAt_slice (h := hu), run_slice_h (ht := hu) (h0 := by omega) (h2 := by omega), elem_of ht.und, ht.run_size]
  simp [Result.andThen, upTo]
theorem Ints.run_drop (h : Ints w v l) {t e bytes : Nat} {z : Value} (ht : SlT P t e 1 bytes z) (k : Nat) (hk : k ≤ l.length) (w' : World) :
    (Instr.sliceAt t v (some (.int .i64 k)) none none).run P w' = .ok (fromV v k) w' := by
  obtain ⟨ao, cap, rfl, h2, h3, h4, h5⟩ := h
  have hu : P.underlying t = some (.slice (P.elem t)) := by rw [ht.und, elem_of ht.und]
  rw [run_sliceAt_slice (h := hu), run_slice_l (ht := hu) (h0 := by omega) (h1 := by omega), elem_of ht.und, ht.run_size]
  simp [Result.andThen, fromV]
theorem Ints.take (h : Ints w v l) (k : Nat) (hk : k ≤ l.length) : Ints w (upTo v k) (l.take k) := by
  obtain ⟨ao, cap, rfl, h2, h3, h4, h5⟩ := h
  refine ⟨ao, cap, ?_, ?_, ?_, h4, fun i hi => ?_⟩
  · have hl : (l.take k).length = k := by simp; omega
    rw [hl]
    cases ao with
    | none => simp [upTo, sliced]
    | some a =>
      rcases a with ⟨b, o, s⟩
      simp only [upTo, sliced, Nat.sub_zero]
      split
      · rfl
      · simp [Addr.add]
  · simp
  · simp; omega
  · have hi' : i < k ∧ i < l.length := by simp at hi; omega
    obtain ⟨b, off, e1, e2⟩ := h5 i (by simpa using hi'.2)
    exact ⟨b, off, e1, by rw [e2]; simp⟩
theorem Ints.drop (h : Ints w v l) (k : Nat) (hk : k ≤ l.length) : Ints w (fromV v k) (l.drop k) := by
  obtain ⟨ao, cap, rfl, h2, h3, h4, h5⟩ := h
  have hl : (l.drop k).length = l.length - k := by simp
  by_cases hc : cap = k
  · have h0 : l.length - k = 0 := by omega
    refine ⟨ao, cap - k, ?_, by simp, by omega, by omega, fun i hi => ?_⟩
    · rw [hl]; simp [fromV, sliced, hc]
    · simp at hi; omega
  · cases ao with
    | none =>
      have hn : l.length = 0 := by
        apply Classical.byContradiction
        intro hn
        obtain ⟨b, off, e1, _⟩ := h5 0 (by simp; omega)
        cases e1
      refine ⟨none, cap - k, ?_, by simp, by omega, by omega, fun i hi => ?_⟩
      · rw [hl]; simp [fromV, sliced]
      · simp at hi; omega
    | some a =>
      refine ⟨some (a.add k), cap - k, ?_, by simp, by omega, by omega, fun i hi => ?_⟩
      · rw [hl]; simp [fromV, sliced, hc]
      · have hi' : i < l.length - k := by simpa using hi
        obtain ⟨b, off, e1, e2⟩ := h5 (k + i) (by simp; omega)
        have e1' := Option.some.inj e1
        subst e1'
        refine ⟨b, off + k, ?_, ?_⟩
        · rw [Addr.add_lit]
        · rw [Nat.add_assoc, e2]; simp
end
end Go.Att
end
