/- The document's powers, orders, generators, roots: contracts. -/
import Derived.Test.YtaodmkngakikjaaFc
import Derived.Deep.RegionWith
/-! The document's powers, orders, generators, roots: contracts. -/
namespace Go.Att
/-- No divisor of p - 1 below it, of those looked at, makes 1 of a. -/
def OrdUpTo (p a : Int) (i : Int) : Prop := ∀ d : Nat, d ∣ (p - 1).toNat → d < (p - 1).toNat → ((d : Int) < i ∨ (((p - 1).toNat / d : Nat) : Int) < i) → a ^ d % p ≠ 1
theorem not_gen_div {p a : Int} (hp : Pr p) (hp3 : 3 ≤ p) (h0 : ¬ p ∣ a) (h : ¬ IsGen p a) : ∃ d : Nat, d ∣ (p - 1).toNat ∧ d < (p - 1).toNat ∧ a ^ d % p = 1 := by
  have h1 : ∃ n : Nat, 0 < n ∧ n < (p - 1).toNat ∧ a ^ n % p = 1 := by
    apply Classical.byContradiction
    intro hc
    exact h ⟨h0, fun n hn hlt he => hc ⟨n, hn, hlt, he⟩⟩
  obtain ⟨n, hn, hlt, he⟩ := h1
  refine ⟨Nat.gcd n (p - 1).toNat, Nat.gcd_dvd_right _ _, ?_, pow_one_gcd (by omega) he (fermat hp h0)⟩
  exact Nat.lt_of_le_of_lt (Nat.le_of_dvd hn (Nat.gcd_dvd_left _ _)) hlt
theorem ordUpTo_gen {p a i : Int} (hp : Pr p) (hp3 : 3 ≤ p) (h0 : ¬ p ∣ a) (hi : p - 1 < i * i) (hi1 : 1 ≤ i) (h : OrdUpTo p a i) : IsGen p a := by
  apply Classical.byContradiction
  intro hn
  obtain ⟨d, h1, h2, h3⟩ := not_gen_div hp hp3 h0 hn
  refine h d h1 h2 ?_ h3
  apply Classical.byContradiction
  intro hc
  have hc1 : i ≤ (d : Int) := by omega
  have hc2 : i ≤ (((p - 1).toNat / d : Nat) : Int) := by omega
  have h4 : (p - 1).toNat / d * d = (p - 1).toNat := Nat.div_mul_cancel h1
  have h5 : i * i ≤ (((p - 1).toNat / d : Nat) : Int) * (d : Int) := Int.mul_le_mul hc2 hc1 (by omega) (by omega)
  rw [← Int.natCast_mul, h4] at h5
  omega
theorem ordUpTo_start (p a : Int) : OrdUpTo p a 1 := by
  intro d h1 h2 h3
  exfalso
  rcases h3 with h3 | h3
  · obtain rfl : d = 0 := by omega
    have := Nat.eq_zero_of_zero_dvd h1; omega
  · have : 0 < (p - 1).toNat / d := Nat.div_pos (by omega) (Nat.pos_of_ne_zero (fun e => by subst e; have := Nat.eq_zero_of_zero_dvd h1; omega))
    omega
/-- What the i-th round adds. -/
theorem ordUpTo_step {p a : Int} {i : Nat} (h : OrdUpTo p a i) (h1 : i ∣ (p - 1).toNat → i < (p - 1).toNat → a ^ i % p ≠ 1) (h2 : i ∣ (p - 1).toNat → (p - 1).toNat / i < (p - 1).toNat → a ^ ((p - 1).toNat / i) % p ≠ 1) : OrdUpTo p a ((i : Int) + 1) := by
  intro d hd hlt hor
  by_cases hh : ((d : Int) < i ∨ (((p - 1).toNat / d : Nat) : Int) < i)
  · exact h d hd hlt hh
  · have : d = i ∨ (p - 1).toNat / d = i := by omega
    rcases this with rfl | hi
    · exact h1 hd hlt
    · have h4 : (p - 1).toNat / d * d = (p - 1).toNat := Nat.div_mul_cancel hd
      have hdp : 0 < d := Nat.pos_of_ne_zero (fun e => by subst e; have := Nat.eq_zero_of_zero_dvd hd; omega)
      rw [hi] at h4
      have hi0 : 0 < i := Nat.pos_of_ne_zero (fun e => by subst e; omega)
      have e : (p - 1).toNat / i = d := by rw [← h4]; exact Nat.mul_div_cancel_left _ hi0
      have := h2 ⟨d, h4.symm⟩ (by rw [e]; exact hlt)
      rw [e] at this; exact this
theorem gen_ordUpTo {p a : Int} (_hp3 : 3 ≤ p) (h : IsGen p a) (i : Int) : OrdUpTo p a i := by
  intro d h1 h2 _
  exact h.2 d (Nat.pos_of_ne_zero (fun e => by subst e; have := Nat.eq_zero_of_zero_dvd h1; omega)) h2
theorem int_dvd_sub_one {p : Int} {i : Nat} (hp : 3 ≤ p) : ((p - 1) % (i : Int) = 0) ↔ i ∣ (p - 1).toNat := by
  obtain ⟨q, hq⟩ := Int.eq_ofNat_of_zero_le (show 0 ≤ p - 1 by omega)
  rw [hq, Int.toNat_natCast, Nat.dvd_iff_mod_eq_zero, ← Int.natCast_emod]
  omega
theorem int_quo_sub_one {p : Int} {i : Nat} (hp : 3 ≤ p) : (p - 1) / (i : Int) = (((p - 1).toNat / i : Nat) : Int) := by
  obtain ⟨q, hq⟩ := Int.eq_ofNat_of_zero_le (show 0 ≤ p - 1 by omega)
  rw [hq, Int.toNat_natCast, ← Int.natCast_ediv]
/-- The best so far, when one more divisor was looked at. -/
def upd (p a B : Int) (d : Nat) : Int := if fpow p a d = 1 ∧ (d : Int) < B then d else B
theorem upd_yes {p a B : Int} {d : Nat} (h1 : fpow p a d = 1) (h2 : (d : Int) < B) : upd p a B d = d := if_pos ⟨h1, h2⟩
theorem upd_no1 {p a B : Int} {d : Nat} (h1 : fpow p a d ≠ 1) : upd p a B d = B := if_neg fun h => h1 h.1
theorem upd_no2 {p a B : Int} {d : Nat} (h2 : ¬ (d : Int) < B) : upd p a B d = B := if_neg fun h => h2 h.2
theorem upd_iff {p a B : Int} {d : Nat} (hB : B ≤ p - 1) : upd p a B d = p - 1 ↔ B = p - 1 ∧ ¬ (a ^ d % p = 1 ∧ (d : Int) < p - 1) := by
  unfold upd fpow
  split
  · rename_i h
    constructor
    · intro e; omega
    · rintro ⟨e, h2⟩; exact absurd ⟨h.1, by omega⟩ h2
  · rename_i h
    constructor
    · intro e; exact ⟨e, fun h2 => h ⟨h2.1, by omega⟩⟩
    · intro e; exact e.1
theorem upd_le {p a B : Int} {d : Nat} (hd : (1 : Int) ≤ d) (h1 : 1 ≤ B) (hB : B ≤ p - 1) : 1 ≤ upd p a B d ∧ upd p a B d ≤ p - 1 := by
  unfold upd; split <;> omega
theorem ord_next {p a B : Int} {i K : Nat} (hp3 : 3 ≤ p) (hB : B ≤ p - 1) (hB1 : 1 ≤ B) (hi : 1 ≤ i) (hd : i ∣ (p - 1).toNat) (hK : (p - 1).toNat / i = K) (h : B = p - 1 ↔ OrdUpTo p a i) : upd p a (upd p a B i) K = p - 1 ↔ OrdUpTo p a ((i : Int) + 1) := by
  have hu := upd_le (p := p) (a := a) (B := B) (d := i) (by omega) hB1 hB
  rw [upd_iff hu.2, upd_iff hB, h]
  have hKq : K ∣ (p - 1).toNat := ⟨i, by rw [← hK]; exact (Nat.div_mul_cancel hd).symm⟩
  have hKi : (p - 1).toNat / K = i := by
    have h4 : K * i = (p - 1).toNat := by rw [← hK]; exact Nat.div_mul_cancel hd
    have hK0 : 0 < K := Nat.pos_of_ne_zero (fun e => by subst e; omega)
    rw [← h4]; exact Nat.mul_div_cancel_left _ hK0
  constructor
  · rintro ⟨⟨h1, h2⟩, h3⟩
    exact ordUpTo_step h1 (fun _ hlt he => h2 ⟨he, by omega⟩) (fun _ hlt he => h3 ⟨by rw [← hK]; exact he, by omega⟩)
  · intro h1
    refine ⟨⟨fun d k1 k2 k3 => h1 d k1 k2 (by omega), fun k => h1 i hd (by omega) (.inl (by omega)) k.1⟩, fun k => h1 K hKq (by omega) (.inr (by rw [hKi]; omega)) k.1⟩
end Go.Att
namespace Go.Proofs.Ytaodmkngakikjaa
open Go.RowKit Go.Att

/-- What the document's Order gives, as far as a generator is told by it. -/
def OrdIs (p a : Int) : Ending → World → World → Prop := fun e w w' => ∃ r, e = .returned (.int .i64 r) ∧ w = w' ∧ (r = p - 1 ↔ IsGen p a)
theorem OrdIs.mk {p a r : Int} {e : Ending} {w : World} (h1 : e = .returned (.int .i64 r)) (h2 : r = p - 1 ↔ IsGen p a) : OrdIs p a e w w := ⟨r, h1, rfl, h2⟩

/-- The root of an order that divides p - 1. -/
def froot (p g n : Int) : Int := fpow p g ((p - 1) / n).toNat
end Go.Proofs.Ytaodmkngakikjaa
/-! The document's division: contract. -/
namespace Go.Proofs.Ytaodmkngakikjaa
open Go.RowKit Go.Att

end Go.Proofs.Ytaodmkngakikjaa
/-! The program's inverses, powers, roots: contracts. -/
namespace Go.Proofs.Ytaodmkngakikjaa
open Go.RowKit Go.Att

section
variable {w : World} {f : Value} {p g : Int} {fs : List Int}
theorem p_any (hf : Fld w f p g fs) : Calls Try.prog 30 #[f] w (Rd w (.int .i64 p)) := by
  obtain ⟨⟨b', v, rfl, hc, -, -, -⟩, -, -, -⟩ := hf
  go_enter Try.func30, Try.ntmps30
  go_wp2
  go_ret; exact .same rfl
theorem p_q (hf : Fld w f p g fs) (m : Nat) : Calls Try.prog 30 #[f] (w.drewN m) fun e w'' => e = .returned (.int .i64 p) ∧ ∃ m, w'' = w.drewN m := Calls.quiet_of (p_any (hf.drewN m))

theorem inv_any (hf : Fld w f p g fs) (a : Int) : Calls Try.prog 56 #[f, .int .i64 a] w (Rd w (.int .i64 (finv p a))) := by
  have C := Lib.hid hf
  obtain ⟨⟨b', v, rfl, hc, -, -, -⟩, -, lo, hi⟩ := hf
  go_enter Try.func56, Try.ntmps56
  go_wp2_with (go_at_call 41; refine (power_int C.out _ _ (by omega) (by omega)).mono ?_; rintro e w' ⟨rfl, m, rfl⟩)
  go_ret; exact .more _ (ret_int (finv_eq _ _))
theorem inv_q (hf : Fld w f p g fs) (a : Int) (m : Nat) : Calls Try.prog 56 #[f, .int .i64 a] (w.drewN m) fun e w'' => e = .returned (.int .i64 (finv p a)) ∧ ∃ m, w'' = w.drewN m := Calls.quiet_of (inv_any (hf.drewN m) a)

end
end Go.Proofs.Ytaodmkngakikjaa
