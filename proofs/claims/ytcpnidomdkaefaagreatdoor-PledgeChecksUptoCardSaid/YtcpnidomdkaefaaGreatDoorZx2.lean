/- The document's powers, orders, generators, roots: contracts. Domains on both sides: contracts. -/
import Derived.Test.YtcpnidomdkaefaaGreatDoorZx15
import Derived.Deep.RegionWith
import Derived.Test.YtcpnidomdkaefaaGreatDoorVc
import Derived.StillTailTactics
import Derived.Test.YtcpnidomdkaefaaGreatDoorZx1
section
/-! The document's powers, orders, generators, roots: contracts. -/
namespace Go.Att
/-- No divisor of p - 1 below it, of those looked at, makes 1 of a. -/
def OrdUpTo (p a : Int) (i : Int) : Prop := ∀ d : Nat, d ∣ (p - 1).toNat → d < (p - 1).toNat → ((d : Int) < i ∨ (((p - 1).toNat / d : Nat) : Int) < i) → a ^ d % p ≠ 1
theorem not_gen_div {p a : Int} (hp : Pr p) (hp3 : 3 ≤ p) (h0 : ¬ p ∣ a) (h : ¬ IsGen p a) : ∃ d : Nat, d ∣ (p - 1).toNat ∧ d < (p - 1).toNat ∧ a ^ d % p = 1 := by
  have h1 : ∃ n : Nat, 0 < n ∧ n < (p - 1).toNat ∧ a ^ n % p = 1 := by
    apply Classical.byContradiction
    intro hc
    exact h ⟨h0, fun n hn hlt he => hc ⟨n, hn, hlt, he⟩⟩
  obtain ⟨n, hn, hlt, he⟩ := h1
  refine ⟨Nat.gcd n (p - 1).toNat, Nat.gcd_dvd_right _ _, ?_, pow_one_gcd (by omega) he (fermat hp h0)⟩
  exact Nat.lt_of_le_of_lt (Nat.le_of_dvd hn (Nat.gcd_dvd_left _ _)) hlt
theorem ordUpTo_gen {p a i : Int} (hp : Pr p) (hp3 : 3 ≤ p) (h0 : ¬ p ∣ a) (hi : p - 1 < i * i) (hi1 : 1 ≤ i) (h : OrdUpTo p a i) : IsGen p a := by
  apply Classical.byContradiction
  intro hn
  obtain ⟨d, h1, h2, h3⟩ := not_gen_div hp hp3 h0 hn
  refine h d h1 h2 ?_ h3
  apply Classical.byContradiction
  intro hc
  have hc1 : i ≤ (d : Int) := by omega
  have hc2 : i ≤ (((p - 1).toNat / d : Nat) : Int) := by omega
  have h4 : (p - 1).toNat / d * d = (p - 1).toNat := Nat.div_mul_cancel h1
  have h5 : i * i ≤ (((p - 1).toNat / d : Nat) : Int) * (d : Int) := Int.mul_le_mul hc2 hc1 (by omega) (by omega)
  rw [← Int.natCast_mul, h4] at h5
  omega
theorem ordUpTo_start (p a : Int) : OrdUpTo p a 1 := by
  intro d h1 h2 h3
  exfalso
  rcases h3 with h3 | h3
  · obtain rfl : d = 0 := by omega
    have := Nat.eq_zero_of_zero_dvd h1; omega
  · have : 0 < (p - 1).toNat / d := Nat.div_pos (by omega) (Nat.pos_of_ne_zero (fun e => by subst e; have := Nat.eq_zero_of_zero_dvd h1; omega))
    omega
/-- What the i-th round adds. -/
theorem ordUpTo_step {p a : Int} {i : Nat} (h : OrdUpTo p a i) (h1 : i ∣ (p - 1).toNat → i < (p - 1).toNat → a ^ i % p ≠ 1) (h2 : i ∣ (p - 1).toNat → (p - 1).toNat / i < (p - 1).toNat → a ^ ((p - 1).toNat / i) % p ≠ 1) : OrdUpTo p a ((i : Int) + 1) := by
  intro d hd hlt hor
  by_cases hh : ((d : Int) < i ∨ (((p - 1).toNat / d : Nat) : Int) < i)
  · exact h d hd hlt hh
  · have : d = i ∨ (p - 1).toNat / d = i := by omega
    rcases this with rfl | hi
    · exact h1 hd hlt
    · have h4 : (p - 1).toNat / d * d = (p - 1).toNat := Nat.div_mul_cancel hd
      have hdp : 0 < d := Nat.pos_of_ne_zero (fun e => by subst e; have := Nat.eq_zero_of_zero_dvd hd; omega)
      rw [hi] at h4
      have hi0 : 0 < i := Nat.pos_of_ne_zero (fun e => by subst e; omega)
      have e : (p - 1).toNat / i = d := by rw [← h4]; exact Nat.mul_div_cancel_left _ hi0
      have := h2 ⟨d, h4.symm⟩ (by rw [e]; exact hlt)
      rw [e] at this; exact this
theorem gen_ordUpTo {p a : Int} (_hp3 : 3 ≤ p) (h : IsGen p a) (i : Int) : OrdUpTo p a i := by
  intro d h1 h2 _
  exact h.2 d (Nat.pos_of_ne_zero (fun e => by subst e; have := Nat.eq_zero_of_zero_dvd h1; omega)) h2
theorem int_dvd_sub_one {p : Int} {i : Nat} (hp : 3 ≤ p) : ((p - 1) % (i : Int) = 0) ↔ i ∣ (p - 1).toNat := by
  obtain ⟨q, hq⟩ := Int.eq_ofNat_of_zero_le (show 0 ≤ p - 1 by omega)
  rw [hq, Int.toNat_natCast, Nat.dvd_iff_mod_eq_zero, ← Int.natCast_emod]
  omega
theorem int_quo_sub_one {p : Int} {i : Nat} (hp : 3 ≤ p) : (p - 1) / (i : Int) = (((p - 1).toNat / i : Nat) : Int) := by
  obtain ⟨q, hq⟩ := Int.eq_ofNat_of_zero_le (show 0 ≤ p - 1 by omega)
  rw [hq, Int.toNat_natCast, ← Int.natCast_ediv]
/-- The best so far, when one more divisor was looked at. -/
def upd (p a B : Int) (d : Nat) : Int := if fpow p a d = 1 ∧ (d : Int) < B then d else B
theorem upd_yes {p a B : Int} {d : Nat} (h1 : fpow p a d = 1) (h2 : (d : Int) < B) : upd p a B d = d := if_pos ⟨h1, h2⟩
theorem upd_no1 {p a B : Int} {d : Nat} (h1 : fpow p a d ≠ 1) : upd p a B d = B := if_neg fun h => h1 h.1
theorem upd_no2 {p a B : Int} {d : Nat} (h2 : ¬ (d : Int) < B) : upd p a B d = B := if_neg fun h => h2 h.2
theorem upd_iff {p a B : Int} {d : Nat} (hB : B ≤ p - 1) : upd p a B d = p - 1 ↔ B = p - 1 ∧ ¬ (a ^ d % p = 1 ∧ (d : Int) < p - 1) := by
  unfold upd fpow
  split
  · rename_i h
    constructor
    · intro e; omega
    · rintro ⟨e, h2⟩; exact absurd ⟨h.1, by omega⟩ h2
  · rename_i h
    constructor
    · intro e; exact ⟨e, fun h2 => h ⟨h2.1, by omega⟩⟩
    · intro e; exact e.1
theorem upd_le {p a B : Int} {d : Nat} (hd : (1 : Int) ≤ d) (h1 : 1 ≤ B) (hB : B ≤ p - 1) : 1 ≤ upd p a B d ∧ upd p a B d ≤ p - 1 := by
  unfold upd; split <;> omega
theorem ord_next {p a B : Int} {i K : Nat} (hp3 : 3 ≤ p) (hB : B ≤ p - 1) (hB1 : 1 ≤ B) (hi : 1 ≤ i) (hd : i ∣ (p - 1).toNat) (hK : (p - 1).toNat / i = K) (h : B = p - 1 ↔ OrdUpTo p a i) : upd p a (upd p a B i) K = p - 1 ↔ OrdUpTo p a ((i : Int) + 1) := by
  have hu := upd_le (p := p) (a := a) (B := B) (d := i) (by omega) hB1 hB
  rw [upd_iff hu.2, upd_iff hB, h]
  have hKq : K ∣ (p - 1).toNat := ⟨i, by rw [← hK]; exact (Nat.div_mul_cancel hd).symm⟩
  have hKi : (p - 1).toNat / K = i := by
    have h4 : K * i = (p - 1).toNat := by rw [← hK]; exact Nat.div_mul_cancel hd
    have hK0 : 0 < K := Nat.pos_of_ne_zero (fun e => by subst e; omega)
    rw [← h4]; exact Nat.mul_div_cancel_left _ hK0
  constructor
  · rintro ⟨⟨h1, h2⟩, h3⟩
    exact ordUpTo_step h1 (fun _ hlt he => h2 ⟨he, by omega⟩) (fun _ hlt he => h3 ⟨by rw [← hK]; exact he, by omega⟩)
  · intro h1
    refine ⟨⟨fun d k1 k2 k3 => h1 d k1 k2 (by omega), fun k => h1 i hd (by omega) (.inl (by omega)) k.1⟩, fun k => h1 K hKq (by omega) (.inr (by rw [hKi]; omega)) k.1⟩
end Go.Att
namespace Go.Proofs.YtcpnidomdkaefaaGreatDoor
open Go.RowKit Go.Att

set_option maxHeartbeats 1000000 in
theorem rpow_any (p a : Int) (n : Nat) (w : World) (hp : 2 ≤ p) (hp2 : p ≤ 2147483647) (hn : n ≤ 9223372036854775807) :
    Calls Tryz.prog 101 #[.int .i64 p, .int .i64 a, .int .i64 n] w fun e w' => e = .returned (.int .i64 (fpow p a n)) ∧ w = w' := by
  have hx := fof_bd hp a
  go_enter Tryz.func101, Tryz.ntmps101
  go_wp2_with (go_at_call 47; refine (rof_any _ _ _ hp hp2).mono ?_; rintro e w' ⟨rfl, rfl⟩)
  go_loop [1, 2, 7] (fun x1 x2 x7 => ∃ (A X : Int) (k : Nat), x1 = .int .i64 A ∧ x2 = .int .i64 k ∧ x7 = .int .i64 X ∧ 0 ≤ A ∧ A < p ∧ 0 ≤ X ∧ X < p ∧ k ≤ n ∧ Hid ((X * A ^ k) % p = fpow p a n)) (fun _ x2 _ => (intOf x2).toNat)
  case atStart => exact ⟨_, _, n, rfl, rfl, rfl, hx.1, hx.2, by omega, by omega, Nat.le_refl _, Lib.hid (by simp [fof, fpow, pow_mod])⟩
  case round =>
    obtain ⟨A, X, k, rfl, rfl, rfl, hA0, hA1, hX0, hX1, hkn, H⟩ := hrel
    have hmA := mul_small hp hp2 ⟨hA0, hA1⟩ ⟨hA0, hA1⟩
    have hmX := mul_small hp hp2 ⟨hX0, hX1⟩ ⟨hA0, hA1⟩
    have bA := mod_bd hp (A * A)
    have bX := mod_bd hp (X * A)
    by_cases hk : k = 0
    · subst hk
      go_wp2
      go_ret
      exact ⟨ret_int (by have := H.out; rw [Int.pow_zero, Int.mul_one, Int.emod_eq_of_lt hX0 hX1] at this; exact this), rfl⟩
    · have H2 := Lib.hid (pow_step H.out)
      rcases Nat.mod_two_eq_zero_or_one k with ho | ho
      · have hb : ((k : Int) % 2 != 0) = false := by rw [bne_eq_false_iff_eq]; omega
        have HO := Lib.hid ho; clear ho H
        go_wp2
        go_round
        case rel => exact ⟨_, _, k / 2, rfl, by go_num, rfl, bA.1, bA.2, hX0, hX1, by omega, Lib.hid (by have := H2.out; rw [HO.out, Int.pow_zero, Int.mul_one, Int.emod_eq_of_lt hX0 hX1] at this; exact this)⟩
        case measure => simp [intOf]; omega
      · have hb : ((k : Int) % 2 != 0) = true := by rw [bne_iff_ne]; omega
        have HO := Lib.hid ho; clear ho H
        go_wp2
        go_round
        case rel => exact ⟨_, _, k / 2, rfl, by go_num, rfl, bA.1, bA.2, bX.1, bX.2, by omega, Lib.hid (by have := H2.out; rw [HO.out, Int.pow_succ, Int.pow_zero, Int.one_mul] at this; exact this)⟩
        case measure => simp [intOf]; omega

theorem rpow_int (p a n : Int) (w : World) (hp : 2 ≤ p) (hp2 : p ≤ 2147483647) (h0 : 0 ≤ n) (hn : n ≤ 9223372036854775807) :
    Calls Tryz.prog 101 #[.int .i64 p, .int .i64 a, .int .i64 n] w fun e w' => e = .returned (.int .i64 (fpow p a n.toNat)) ∧ w = w' := by
  obtain ⟨k, rfl⟩ := Int.eq_ofNat_of_zero_le h0
  rw [Int.toNat_natCast]; exact rpow_any p a k w hp hp2 (by omega)

set_option maxHeartbeats 400000 in
theorem rinv_any (p a : Int) (w : World) (hp : 2 ≤ p) (hp2 : p ≤ 2147483647) :
    Calls Tryz.prog 144 #[.int .i64 p, .int .i64 a] w fun e w' => e = .returned (.int .i64 (finv p a)) ∧ w = w' := by
  go_enter Tryz.func144, Tryz.ntmps144
  go_wp2_with (go_at_call 101; refine (rpow_int _ _ _ _ hp hp2 (by omega) (by omega)).mono ?_; rintro e w' ⟨rfl, rfl⟩)
  go_ret; exact ⟨ret_int (finv_eq _ _), rfl⟩

/-- What the document's Order gives, as far as a generator is told by it. -/
def OrdIs (p a : Int) : Ending → World → World → Prop := fun e w w' => ∃ r, e = .returned (.int .i64 r) ∧ w = w' ∧ (r = p - 1 ↔ IsGen p a)
theorem OrdIs.mk {p a r : Int} {e : Ending} {w : World} (h1 : e = .returned (.int .i64 r)) (h2 : r = p - 1 ↔ IsGen p a) : OrdIs p a e w w := ⟨r, h1, rfl, h2⟩

set_option maxRecDepth 100000 in
set_option maxHeartbeats 4000000 in
theorem rorder_any (p a : Int) (w : World) (hpr : Pr p) (hp : 3 ≤ p) (hp2 : p ≤ 2147483647) :
    Calls Tryz.prog 143 #[.int .i64 p, .int .i64 a] w fun e w' => OrdIs p a e w w' := by
  have hp0 : 2 ≤ p := by omega
  have hx := fof_bd hp0 a
  have HP := Lib.hid hpr; clear hpr
  by_cases ha : fof p a = 0
  · have hb : (fof p a == 0) = true := by rw [beq_iff_eq]; exact ha
    have HA := Lib.hid (show ¬ IsGen p a from fun h => h.1 (Int.dvd_of_emod_eq_zero ha)); clear ha
    go_enter Tryz.func143, Tryz.ntmps143
    go_wp2_with (go_at_call 47; refine (rof_any _ _ _ hp0 hp2).mono ?_; rintro e w' ⟨rfl, rfl⟩)
    go_ret
    exact .mk rfl ⟨fun h => by omega, fun h => absurd h HA.out⟩
  · have hb : (fof p a == 0) = false := by rw [beq_eq_false_iff_ne]; exact ha
    have HA := Lib.hid (show ¬ p ∣ a from fun h => ha (Int.emod_eq_zero_of_dvd h)); clear ha
    have hpe : ∀ n : Nat, fpow p (fof p a) n = fpow p a n := fun n => by simp [fof, fpow, pow_mod]
    have HPE := Lib.hid hpe; clear hpe
    go_enter Tryz.func143, Tryz.ntmps143
    go_wp2_with (go_at_call 47; refine (rof_any _ _ _ hp0 hp2).mono ?_; rintro e w' ⟨rfl, rfl⟩)
    go_loop [5, 6, 7, 8] (fun x5 x6 _ _ => ∃ (B : Int) (i : Nat), x5 = .int .i64 B ∧ x6 = .int .i64 i ∧ 1 ≤ i ∧ i ≤ 46342 ∧ 1 ≤ B ∧ B ≤ p - 1 ∧ Hid (B = p - 1 ↔ OrdUpTo p a i)) (fun _ x6 _ _ => 46343 - (intOf x6).toNat)
    case atStart => exact ⟨_, 1, rfl, rfl, Nat.le_refl _, by omega, by omega, by omega, Lib.hid ⟨fun _ => ordUpTo_start p a, fun _ => rfl⟩⟩
    case round =>
      obtain ⟨B, i, rfl, rfl, hi1, hi2, hB1, hB2, H⟩ := hrel
      have hii : (i : Int) * i ≤ 46342 * 46342 := Int.mul_le_mul (by omega) (by omega) (by omega) (by omega)
      have hii0 : (0 : Int) ≤ (i : Int) * i := Int.mul_nonneg (by omega) (by omega)
      by_cases hgo : (i : Int) * i ≤ p - 1
      · have hi3 : (i : Int) ≤ 46341 := by
          apply Classical.byContradiction
          intro hc
          have : (46342 : Int) * 46342 ≤ (i : Int) * i := Int.mul_le_mul (by omega) (by omega) (by omega) (by omega)
          omega
        have hile : (i : Int) ≤ p - 1 := by
          have : (i : Int) * 1 ≤ (i : Int) * i := Int.mul_le_mul_of_nonneg_left (by omega) (by omega)
          omega
        have hq := int_quo_sub_one (i := i) hp
        have hqn : (p - 1).toNat / i ≤ (p - 1).toNat := Nat.div_le_self _ _
        have hqp : 1 ≤ (p - 1).toNat / i := Nat.div_pos (by omega) (by omega)
        generalize hK : (p - 1).toNat / i = K at hq hqn hqp
        have HK := Lib.hid hK; clear hK
        by_cases hd : i ∣ (p - 1).toNat
        · have hb2 : ((p - 1) % (i : Int) != 0) = false := by rw [bne_eq_false_iff_eq]; exact (int_dvd_sub_one hp).2 hd
          have HD := Lib.hid hd; clear hd
          have hidq : i ≤ (p - 1).toNat := by omega
          have HN := Lib.hid (ord_next hp hB2 hB1 hi1 HD.out HK.out H.out)
          have hKB : (K : Int) ≤ p - 1 := by omega
          have hcast : IntKind.i64.wrap ((p - 1) / (i : Int)) = (K : Int) := by rw [hq]; exact IntWalk.i64_in _ (by omega)
          have PI := HPE.out i
          have PK := HPE.out K
          have next : ∀ (B2 : Int), B2 = upd p a (upd p a B i) K → 1 ≤ B2 → B2 ≤ p - 1 → Hid (B2 = p - 1 ↔ OrdUpTo p a ((i : Int) + 1)) := fun B2 e _ _ => Lib.hid (by rw [e]; exact HN.out)
          have NX := Lib.hid next; clear next HN
          by_cases e1 : fpow p a i = 1
          · have E1 : (fpow p a i == 1) = true := by rw [beq_iff_eq]; exact e1
            by_cases e2 : (i : Int) < B
            · have U1 := upd_yes e1 e2
              by_cases e3 : fpow p a K = 1
              · have E3 : (fpow p a K == 1) = true := by rw [beq_iff_eq]; exact e3
                by_cases e4 : (K : Int) < (i : Int)
                · have V := Lib.hid (show (K : Int) = upd p a (upd p a B i) K by rw [U1, upd_yes e3 e4]); clear U1 e1 e3
                  go_wp2_with (go_at_call 101; refine (rpow_any _ _ _ _ hp0 hp2 (by omega)).mono ?_; rintro e w' ⟨rfl, rfl⟩; (first | rw [PI] | rw [hq, PK] | rw [PK]))
                  go_round
                  case rel => exact ⟨_, i + 1, rfl, by go_num, by omega, by omega, by omega, by omega, NX.out _ V.out (by omega) (by omega)⟩
                  case measure => simp [intOf]; omega
                · have V := Lib.hid (show (i : Int) = upd p a (upd p a B i) K by rw [U1, upd_no2 e4]); clear U1 e1 e3
                  go_wp2_with (go_at_call 101; refine (rpow_any _ _ _ _ hp0 hp2 (by omega)).mono ?_; rintro e w' ⟨rfl, rfl⟩; (first | rw [PI] | rw [hq, PK] | rw [PK]))
                  go_round
                  case rel => exact ⟨_, i + 1, rfl, by go_num, by omega, by omega, by omega, by omega, NX.out _ V.out (by omega) (by omega)⟩
                  case measure => simp [intOf]; omega
              · have E3 : (fpow p a K == 1) = false := by rw [beq_eq_false_iff_ne]; exact e3
                have V := Lib.hid (show (i : Int) = upd p a (upd p a B i) K by rw [U1, upd_no1 e3]); clear U1 e1 e3
                go_wp2_with (go_at_call 101; refine (rpow_any _ _ _ _ hp0 hp2 (by omega)).mono ?_; rintro e w' ⟨rfl, rfl⟩; (first | rw [PI] | rw [hq, PK] | rw [PK]))
                go_round
                case rel => exact ⟨_, i + 1, rfl, by go_num, by omega, by omega, by omega, by omega, NX.out _ V.out (by omega) (by omega)⟩
                case measure => simp [intOf]; omega
            · have U1 := upd_no2 (p := p) (a := a) e2
              by_cases e3 : fpow p a K = 1
              · have E3 : (fpow p a K == 1) = true := by rw [beq_iff_eq]; exact e3
                by_cases e4 : (K : Int) < B
                · have V := Lib.hid (show (K : Int) = upd p a (upd p a B i) K by rw [U1, upd_yes e3 e4]); clear U1 e1 e3
                  go_wp2_with (go_at_call 101; refine (rpow_any _ _ _ _ hp0 hp2 (by omega)).mono ?_; rintro e w' ⟨rfl, rfl⟩; (first | rw [PI] | rw [hq, PK] | rw [PK]))
                  go_round
                  case rel => exact ⟨_, i + 1, rfl, by go_num, by omega, by omega, by omega, by omega, NX.out _ V.out (by omega) (by omega)⟩
                  case measure => simp [intOf]; omega
                · have V := Lib.hid (show B = upd p a (upd p a B i) K by rw [U1, upd_no2 e4]); clear U1 e1 e3
                  go_wp2_with (go_at_call 101; refine (rpow_any _ _ _ _ hp0 hp2 (by omega)).mono ?_; rintro e w' ⟨rfl, rfl⟩; (first | rw [PI] | rw [hq, PK] | rw [PK]))
                  go_round
                  case rel => exact ⟨_, i + 1, rfl, by go_num, by omega, by omega, by omega, by omega, NX.out _ V.out (by omega) (by omega)⟩
                  case measure => simp [intOf]; omega
              · have E3 : (fpow p a K == 1) = false := by rw [beq_eq_false_iff_ne]; exact e3
                have V := Lib.hid (show B = upd p a (upd p a B i) K by rw [U1, upd_no1 e3]); clear U1 e1 e3
                go_wp2_with (go_at_call 101; refine (rpow_any _ _ _ _ hp0 hp2 (by omega)).mono ?_; rintro e w' ⟨rfl, rfl⟩; (first | rw [PI] | rw [hq, PK] | rw [PK]))
                go_round
                case rel => exact ⟨_, i + 1, rfl, by go_num, by omega, by omega, by omega, by omega, NX.out _ V.out (by omega) (by omega)⟩
                case measure => simp [intOf]; omega
          · have E1 : (fpow p a i == 1) = false := by rw [beq_eq_false_iff_ne]; exact e1
            have U1 := upd_no1 (B := B) e1
            by_cases e3 : fpow p a K = 1
            · have E3 : (fpow p a K == 1) = true := by rw [beq_iff_eq]; exact e3
              by_cases e4 : (K : Int) < B
              · have V := Lib.hid (show (K : Int) = upd p a (upd p a B i) K by rw [U1, upd_yes e3 e4]); clear U1 e1 e3
                go_wp2_with (go_at_call 101; refine (rpow_any _ _ _ _ hp0 hp2 (by omega)).mono ?_; rintro e w' ⟨rfl, rfl⟩; (first | rw [PI] | rw [hq, PK] | rw [PK]))
                go_round
                case rel => exact ⟨_, i + 1, rfl, by go_num, by omega, by omega, by omega, by omega, NX.out _ V.out (by omega) (by omega)⟩
                case measure => simp [intOf]; omega
              · have V := Lib.hid (show B = upd p a (upd p a B i) K by rw [U1, upd_no2 e4]); clear U1 e1 e3
                go_wp2_with (go_at_call 101; refine (rpow_any _ _ _ _ hp0 hp2 (by omega)).mono ?_; rintro e w' ⟨rfl, rfl⟩; (first | rw [PI] | rw [hq, PK] | rw [PK]))
                go_round
                case rel => exact ⟨_, i + 1, rfl, by go_num, by omega, by omega, by omega, by omega, NX.out _ V.out (by omega) (by omega)⟩
                case measure => simp [intOf]; omega
            · have E3 : (fpow p a K == 1) = false := by rw [beq_eq_false_iff_ne]; exact e3
              have V := Lib.hid (show B = upd p a (upd p a B i) K by rw [U1, upd_no1 e3]); clear U1 e1 e3
              go_wp2_with (go_at_call 101; refine (rpow_any _ _ _ _ hp0 hp2 (by omega)).mono ?_; rintro e w' ⟨rfl, rfl⟩; (first | rw [PI] | rw [hq, PK] | rw [PK]))
              go_round
              case rel => exact ⟨_, i + 1, rfl, by go_num, by omega, by omega, by omega, by omega, NX.out _ V.out (by omega) (by omega)⟩
              case measure => simp [intOf]; omega
        · have hb2 : ((p - 1) % (i : Int) != 0) = true := by rw [bne_iff_ne]; exact fun h => hd ((int_dvd_sub_one hp).1 h)
          have HD := Lib.hid hd; clear hd
          go_wp2_with fail
          go_round
          case rel => exact ⟨B, i + 1, rfl, by go_num, by omega, by omega, hB1, hB2, Lib.hid ⟨fun h => ordUpTo_step (H.out.1 h) (fun h => absurd h HD.out) (fun h => absurd h HD.out), fun h => H.out.2 (fun d h1 h2 h3 => h d h1 h2 (by omega))⟩⟩
          case measure => simp [intOf]; omega
      · have HG := Lib.hid hgo
        go_wp2_with fail
        go_ret
        exact .mk rfl ⟨fun h => ordUpTo_gen HP.out hp HA.out (by have := HG.out; omega) (by omega) (H.out.1 h), fun h => H.out.2 (gen_ordUpTo hp h _)⟩
set_option maxHeartbeats 1000000 in
theorem rgen_any (p g : Int) (w : World) (hpr : Pr p) (hp : 3 ≤ p) (hp2 : p ≤ 2147483647) (hg : IsGen p g) (hl : ∀ x : Int, 1 ≤ x → x < g → ¬ IsGen p x) (h1 : 1 ≤ g) (h2 : g < p) :
    Calls Tryz.prog 100 #[.int .i64 p] w fun e w' => e = .returned (.int .i64 g) ∧ w = w' := by
  have HP := Lib.hid hpr; have HG := Lib.hid hg; have HL := Lib.hid hl; clear hpr hg hl
  go_enter Tryz.func100, Tryz.ntmps100
  go_wp2
  go_loop [3, 4] (fun x3 _ => ∃ G : Int, x3 = .int .i64 G ∧ 1 ≤ G ∧ G ≤ g) (fun x3 _ => (p - intOf x3).toNat)
  case atStart => exact ⟨1, rfl, by omega, h1⟩
  case round =>
    obtain ⟨G, rfl, hG1, hG2⟩ := hrel
    by_cases hgen : IsGen p G
    · obtain rfl : G = g := by
        rcases Int.lt_or_eq_of_le hG2 with h | h
        · exact absurd hgen (HL.out G hG1 h)
        · exact h
      have HI := Lib.hid hgen; clear hgen
      go_wp2_with (go_at_call 143; refine (rorder_any _ _ _ HP.out hp hp2).mono ?_; rintro e w2 ⟨r, rfl, rfl, hr⟩; have hr2 : (r == p - 1) = true := (by rw [beq_iff_eq]; exact hr.2 HI.out); clear hr)
      go_ret
      exact ⟨rfl, rfl⟩
    · have hGlt : G < g := by
        rcases Int.lt_or_eq_of_le hG2 with h | rfl
        · exact h
        · exact absurd HG.out hgen
      have HI := Lib.hid hgen; clear hgen
      go_wp2_with (go_at_call 143; refine (rorder_any _ _ _ HP.out hp hp2).mono ?_; rintro e w2 ⟨r, rfl, rfl, hr⟩; have hr2 : (r == p - 1) = false := (by rw [beq_eq_false_iff_ne]; exact fun h => HI.out (hr.1 h)); clear hr)
      go_round
      case rel => exact ⟨G + 1, rfl, by omega, by omega⟩
      case measure => simp [intOf]; omega

/-- The root of an order that divides p - 1. -/
def froot (p g n : Int) : Int := fpow p g ((p - 1) / n).toNat
set_option maxHeartbeats 1000000 in
theorem rroot_ok (p g n : Int) (w : World) (hpr : Pr p) (hp : 3 ≤ p) (hp2 : p ≤ 2147483647) (hg : IsGen p g) (hl : ∀ x : Int, 1 ≤ x → x < g → ¬ IsGen p x) (h1 : 1 ≤ g) (h2 : g < p) (hn : 1 ≤ n) (hd : (p - 1) % n = 0) :
    Calls Tryz.prog 46 #[.int .i64 p, .int .i64 n] w fun e w' => e = .returned (.int .i64 (froot p g n)) ∧ w = w' := by
  have HP := Lib.hid hpr; have HG := Lib.hid hg; have HL := Lib.hid hl; clear hpr hg hl
  have hb : ((p - 1) % n != 0) = false := by rw [bne_eq_false_iff_eq]; exact hd
  have hq0 : 0 ≤ (p - 1) / n := Int.ediv_nonneg (by omega) (by omega)
  have hq1 : (p - 1) / n ≤ p - 1 := Int.ediv_le_self _ (by omega)
  clear hd
  go_enter Tryz.func46, Tryz.ntmps46
  go_wp2_with (first | (go_at_call 100; refine (rgen_any _ g _ HP.out hp hp2 HG.out HL.out h1 h2).mono ?_; rintro e w2 ⟨rfl, rfl⟩) | (go_at_call 101; refine (rpow_int _ _ _ _ (by omega) hp2 (by omega) (by omega)).mono ?_; rintro e w' ⟨rfl, rfl⟩))
  go_ret; exact ⟨rfl, rfl⟩
end Go.Proofs.YtcpnidomdkaefaaGreatDoor
/-! The document's division: contract. -/
namespace Go.Proofs.YtcpnidomdkaefaaGreatDoor
open Go.RowKit Go.Att

set_option maxHeartbeats 400000 in
theorem rdiv_any (p a b : Int) (w : World) (hp : 2 ≤ p) (hp2 : p ≤ 2147483647) :
    Calls Tryz.prog 189 #[.int .i64 p, .int .i64 a, .int .i64 b] w fun e w' => e = .returned (.int .i64 (fdiv p a b)) ∧ w = w' := by
  go_enter Tryz.func189, Tryz.ntmps189
  go_wp2_with (first | (go_at_call 144; refine (rinv_any _ _ _ hp hp2).mono ?_; rintro e w' ⟨rfl, rfl⟩) | (go_at_call 109; refine (rmul_any _ _ _ _ hp hp2).mono ?_; rintro e w' ⟨rfl, rfl⟩))
  go_ret; exact ⟨ret_int (fdiv_of _ _ _), rfl⟩

end Go.Proofs.YtcpnidomdkaefaaGreatDoor
/-! The program's inverses, powers, roots: contracts. -/
namespace Go.Proofs.YtcpnidomdkaefaaGreatDoor
open Go.RowKit Go.Att

section
variable {w : World} {f : Value} {p g : Int} {fs : List Int}
theorem p_any (hf : Fld w f p g fs) : Calls Tryz.prog 86 #[f] w (Rd w (.int .i64 p)) := by
  obtain ⟨⟨b', v, rfl, hc, -, -, -⟩, -, -, -⟩ := hf
  go_enter Tryz.func86, Tryz.ntmps86
  go_wp2
  go_ret; exact .same rfl
theorem p_q (hf : Fld w f p g fs) (m : Nat) : Calls Tryz.prog 86 #[f] (w.drewN m) fun e w'' => e = .returned (.int .i64 p) ∧ ∃ m, w'' = w.drewN m := Calls.quiet_of (p_any (hf.drewN m))

theorem inv_any (hf : Fld w f p g fs) (a : Int) : Calls Tryz.prog 98 #[f, .int .i64 a] w (Rd w (.int .i64 (finv p a))) := by
  have C := Lib.hid hf
  obtain ⟨⟨b', v, rfl, hc, -, -, -⟩, -, lo, hi⟩ := hf
  go_enter Tryz.func98, Tryz.ntmps98
  go_wp2_with (go_at_call 97; refine (power_int C.out _ _ (by omega) (by omega)).mono ?_; rintro e w' ⟨rfl, m, rfl⟩)
  go_ret; exact .more _ (ret_int (finv_eq _ _))
theorem inv_q (hf : Fld w f p g fs) (a : Int) (m : Nat) : Calls Tryz.prog 98 #[f, .int .i64 a] (w.drewN m) fun e w'' => e = .returned (.int .i64 (finv p a)) ∧ ∃ m, w'' = w.drewN m := Calls.quiet_of (inv_any (hf.drewN m) a)

theorem pow_any (hf : Fld w f p g fs) (a n : Int) (h0 : 0 ≤ n) (hn : n ≤ 9223372036854775807) : Calls Tryz.prog 42 #[f, .int .i64 a, .int .i64 n] w (Rd w (.int .i64 (fpow p a n.toNat))) := by
  have C := Lib.hid hf; clear hf
  go_enter Tryz.func42, Tryz.ntmps42
  go_wp2_with (go_at_call 97; refine (power_int C.out _ _ h0 hn).mono ?_; rintro e w' ⟨rfl, m, rfl⟩)
  go_ret; exact .more _ rfl
theorem pow_q (hf : Fld w f p g fs) (a n : Int) (h0 : 0 ≤ n) (hn : n ≤ 9223372036854775807) (m : Nat) : Calls Tryz.prog 42 #[f, .int .i64 a, .int .i64 n] (w.drewN m) fun e w'' => e = .returned (.int .i64 (fpow p a n.toNat)) ∧ ∃ m, w'' = w.drewN m := Calls.quiet_of (pow_any (hf.drewN m) a n h0 hn)

theorem root_ok (hf : Fld w f p g fs) (n : Int) (hn : 1 ≤ n) (hd : (p - 1) % n = 0) : Calls Tryz.prog 87 #[f, .int .i64 n] w (Rd w (.int .i64 (froot p g n))) := by
  have C := Lib.hid hf
  obtain ⟨⟨b', v, rfl, hc, -, -, hg⟩, -, lo, hi⟩ := hf
  have hb : ((p - 1) % n != 0) = false := by rw [bne_eq_false_iff_eq]; exact hd
  have hq0 : 0 ≤ (p - 1) / n := Int.ediv_nonneg (by omega) (by omega)
  have hq1 : (p - 1) / n ≤ p - 1 := Int.ediv_le_self _ (by omega)
  clear hd
  go_enter Tryz.func87, Tryz.ntmps87
  go_wp2_with fail
  go_quiet ((go_at_call 97; exact power_int_q C.out _ _ hq0 (by omega) _))
  go_wp2_with fail
  go_ret; exact .more _ rfl
end
end Go.Proofs.YtcpnidomdkaefaaGreatDoor
end
section
/-! Domains on both sides: contracts. -/
namespace Go.Att
open Go.RowKit
theorem land_pred (a : Nat) (ha : 0 < a) : a &&& (a - 1) = 0 ↔ ∃ k : Nat, a = 2 ^ k := by
  induction a using Nat.strongRecOn with
  | _ a ih =>
    have h0 : (a &&& (a - 1)) % 2 = 0 := by
      rw [← Nat.and_one_is_mod, Nat.and_assoc, Nat.and_comm (a - 1), ← Nat.and_assoc]
      rcases Nat.mod_two_eq_zero_or_one a with h | h
      · rw [Nat.and_one_is_mod, h, Nat.zero_and]
      · rw [Nat.and_one_is_mod, h, Nat.and_comm, Nat.and_one_is_mod]; omega
    have h1 : (a &&& (a - 1)) / 2 = a / 2 &&& (a - 1) / 2 := Nat.and_div_two
    have h2 : a &&& (a - 1) = 0 ↔ a / 2 &&& (a - 1) / 2 = 0 := by rw [← h1]; omega
    rw [h2]
    rcases Nat.mod_two_eq_zero_or_one a with h | h
    · obtain ⟨b, rfl⟩ : ∃ b, a = 2 * b := ⟨a / 2, by omega⟩
      rw [show 2 * b / 2 = b by omega, show (2 * b - 1) / 2 = b - 1 by omega, ih b (by omega) (by omega)]
      constructor
      · rintro ⟨k, rfl⟩; exact ⟨k + 1, by rw [Nat.pow_succ]; omega⟩
      · rintro ⟨k, hk⟩
        cases k with
        | zero => rw [Nat.pow_zero] at hk; omega
        | succ k => exact ⟨k, by rw [Nat.pow_succ] at hk; omega⟩
    · rw [show (a - 1) / 2 = a / 2 by omega, Nat.and_self]
      constructor
      · intro h3; exact ⟨0, by rw [Nat.pow_zero]; omega⟩
      · rintro ⟨k, hk⟩
        cases k with
        | zero => rw [Nat.pow_zero] at hk; omega
        | succ k => rw [Nat.pow_succ] at hk; omega
/-- Is a number a power of two up to 65536? -/
def twoUp (k : Nat) (n : Int) : Bool := (List.range k).any fun j => (2 : Int) ^ j == n
def twoB (n : Int) : Bool := twoUp 17 n
theorem twoUp_succ (k : Nat) (n : Int) : twoUp (k + 1) n = (twoUp k n || (2 : Int) ^ k == n) := by simp [twoUp, List.range_succ]
theorem pow17 {k : Nat} (h : k < 17) : (1 : Int) ≤ 2 ^ k ∧ (2 : Int) ^ k ≤ 65536 := by
  have h1 : (2 : Nat) ^ k ≤ 2 ^ 16 := Nat.pow_le_pow_right (by decide) (by omega)
  have h2 : 1 ≤ (2 : Nat) ^ k := Nat.one_le_two_pow
  have : ((2 : Nat) ^ k : Nat) = (2 : Int) ^ k := by simp
  omega
theorem twoB_bd {n : Int} (h : twoB n = true) : 1 ≤ n ∧ n ≤ 65536 := by
  simp only [twoB, twoUp, List.any_eq_true, List.mem_range, beq_iff_eq] at h
  obtain ⟨k, hk, rfl⟩ := h
  exact pow17 hk
theorem twoB_iff {n : Int} (h1 : 1 ≤ n) (h2 : n ≤ 65536) : (bits .and .i64 n (n - 1) != 0) = !twoB n := by
  obtain ⟨a, rfl⟩ := Int.eq_ofNat_of_zero_le (show 0 ≤ n by omega)
  rw [show ((a : Int) - 1) = ((a - 1 : Nat) : Int) by omega, i64_and_nat _ _ (by omega) (by omega)]
  have h3 := land_pred a (by omega)
  by_cases hk : ∃ k : Nat, a = 2 ^ k
  · have : twoB a = true := by
      obtain ⟨k, rfl⟩ := hk
      simp only [twoB, twoUp, List.any_eq_true, List.mem_range, beq_iff_eq]
      refine ⟨k, ?_, by simp⟩
      apply Classical.byContradiction
      intro hc
      have : (2 : Nat) ^ 17 ≤ 2 ^ k := Nat.pow_le_pow_right (by decide) (by omega)
      omega
    rw [this, bne_eq_false_iff_eq.2 (by rw [h3.2 hk]; rfl)]; rfl
  · have : twoB a = false := by
      rw [Bool.eq_false_iff]
      intro hc
      simp only [twoB, twoUp, List.any_eq_true, List.mem_range, beq_iff_eq] at hc
      obtain ⟨k, _, e⟩ := hc
      exact hk ⟨k, by have : ((2 ^ k : Nat) : Int) = (2 : Int) ^ k := by simp
                      omega⟩
    rw [this, bne_iff_ne.2 (fun e => hk (h3.1 (by omega)))]; rfl
/-- A domain's fault; 0: none. -/
def domErr (p n sh : Int) : Int := if twoB n = true ∧ (p - 1) % n = 0 then (if fof p sh = 0 then 3 else 0) else 2
theorem domErr_two {p n sh : Int} (h : ¬ (twoB n = true ∧ (p - 1) % n = 0)) : domErr p n sh = 2 := if_neg h
theorem domErr_three {p n sh : Int} (h : twoB n = true ∧ (p - 1) % n = 0) (h2 : fof p sh = 0) : domErr p n sh = 3 := by unfold domErr; rw [if_pos h, if_pos h2]
theorem domErr_zero {p n sh : Int} (h : twoB n = true ∧ (p - 1) % n = 0) (h2 : fof p sh ≠ 0) : domErr p n sh = 0 := by unfold domErr; rw [if_pos h, if_neg h2]
theorem domErr_ok {p n sh : Int} (h : domErr p n sh = 0) : twoB n = true ∧ (p - 1) % n = 0 ∧ fof p sh ≠ 0 := by
  unfold domErr at h
  split at h
  · rename_i h1
    split at h
    · omega
    · exact ⟨h1.1, h1.2, by assumption⟩
  · omega
/-- The program's domain: a pointer to its field, its size, its first point, its root. -/
structure DomOf (w : World) (d f : Value) (n sh r : Int) : Prop where
  at_ : ∃ b, d = .pointer (some ⟨b, 0, none⟩) ∧ w.cell? ⟨b, 0, none⟩ = some f ∧ w.cell? ⟨b, 1, none⟩ = some (.int .i64 n) ∧ w.cell? ⟨b, 2, none⟩ = some (.int .i64 sh) ∧ w.cell? ⟨b, 3, none⟩ = some (.int .i64 r)
theorem DomOf.ext {w w' : World} {d f : Value} {n sh r : Int} (h : DomOf w d f n sh r) (hx : Ext w w') : DomOf w' d f n sh r := by
  obtain ⟨b, h1, h2, h3, h4, h5⟩ := h
  exact ⟨⟨b, h1, hx.cell h2, hx.cell h3, hx.cell h4, hx.cell h5⟩⟩
theorem DomOf.ptr {w : World} {d f : Value} {n sh r : Int} (h : DomOf w d f n sh r) : ∃ b, d = .pointer (some ⟨b, 0, none⟩) := by
  obtain ⟨b, h1, _⟩ := h; exact ⟨b, h1⟩
theorem DomOf.drewN {w : World} {d f : Value} {n sh r : Int} (h : DomOf w d f n sh r) (m : Nat) : DomOf (w.drewN m) d f n sh r := h.ext (Ext.drewN _ _)
/-- The point at a place. -/
def ptAt (p sh r : Int) (i : Nat) : Int := sh * r ^ i % p
theorem ptAt_zero {p sh r : Int} (h : 0 ≤ sh ∧ sh < p) : ptAt p sh r 0 = sh := by unfold ptAt; rw [Int.pow_zero, Int.mul_one, Int.emod_eq_of_lt h.1 h.2]
theorem ptAt_succ (p sh r : Int) (i : Nat) : fmul p (ptAt p sh r i) r = ptAt p sh r (i + 1) := by
  unfold fmul ptAt
  rw [Int.mul_emod, Int.emod_emod, ← Int.mul_emod, Int.pow_succ, Int.mul_assoc]
theorem ptAt_pow (p sh r : Int) (i : Nat) : fmul p (fpow p r i) sh = ptAt p sh r i := by
  unfold fmul ptAt fpow
  rw [Int.mul_emod, Int.emod_emod, ← Int.mul_emod, Int.mul_comm]
/-- All of them. -/
def points (p sh r : Int) (n : Nat) : List Int := (List.range n).map (ptAt p sh r)
theorem points_length (p sh r : Int) (n : Nat) : (points p sh r n).length = n := by simp [points]
theorem points_nth (p sh r : Int) {n i : Nat} (h : i < n) : nth (points p sh r n) i = ptAt p sh r i := by rw [nth_eq (by rw [points_length]; exact h)]; simp [points]
theorem points_succ (p sh r : Int) (n : Nat) : (points p sh r (n + 1)).map (Value.int .i64) = (points p sh r n).map (Value.int .i64) ++ [.int .i64 (ptAt p sh r n)] := by simp [points, List.range_succ]
end Go.Att
namespace Go.Proofs.YtcpnidomdkaefaaGreatDoor
open Go.RowKit Go.Att

set_option maxHeartbeats 1000000 in
theorem rfault_any (p n sh : Int) (w : World) (hp : 3 ≤ p) (hp2 : p ≤ 2147483647) :
    Calls Tryz.prog 28 #[.int .i64 p, .int .i64 n, .int .i64 sh] w fun e w' => e = .returned (.int .i64 (domErr p n sh)) ∧ w = w' := by
  go_enter Tryz.func28, Tryz.ntmps28
  go_wp2
  go_loop [7, 8] (fun x7 x8 => ∃ k : Nat, k ≤ 17 ∧ x7 = .bool (twoUp k n) ∧ x8 = .int .i64 ((2 : Int) ^ k)) (fun _ x8 => (131072 - intOf x8).toNat)
  case atStart => exact ⟨0, by omega, rfl, rfl⟩
  case round =>
    obtain ⟨k, hk, rfl, rfl⟩ := hrel
    by_cases hk2 : k < 17
    · have hb := pow17 hk2
      have hs := twoUp_succ k n
      have hp2 : (2 : Int) ^ (k + 1) = 2 ^ k * 2 := Int.pow_succ _ _
      generalize (2 : Int) ^ k = N at hb hs hp2 ⊢
      generalize twoUp k n = B at hs ⊢
      have HS := Lib.hid hs; have HP := Lib.hid hp2; clear hs hp2
      cases B
      · go_wp2
        go_round
        case rel => exact ⟨k + 1, by omega, by rw [HS.out, Bool.false_or], by rw [HP.out]⟩
        case measure => simp [intOf]; omega
      · go_wp2
        go_round
        case rel => exact ⟨k + 1, by omega, by rw [HS.out, Bool.true_or], by rw [HP.out]⟩
        case measure => simp [intOf]; omega
    · obtain rfl : k = 17 := by omega
      have e : (2 : Int) ^ 17 = 131072 := by decide
      rw [e]
      by_cases h2 : twoUp 17 n = true
      · have hbd := twoB_bd h2
        rw [h2]
        by_cases hd : (p - 1) % n = 0
        · have hdb : ((p - 1) % n != 0) = false := by rw [bne_eq_false_iff_eq]; exact hd
          have HD := Lib.hid (show twoB n = true ∧ (p - 1) % n = 0 from ⟨h2, hd⟩); clear hd h2
          by_cases hz : fof p sh = 0
          · have hzb : (fof p sh == 0) = true := by rw [beq_iff_eq]; exact hz
            have HZ := Lib.hid (domErr_three HD.out hz); clear hz
            go_wp2_with (go_at_call 47; refine (rof_any _ _ _ (by omega) hp2).mono ?_; rintro e w' ⟨rfl, rfl⟩)
            go_ret
            exact ⟨ret_int HZ.out.symm, rfl⟩
          · have hzb : (fof p sh == 0) = false := by rw [beq_eq_false_iff_ne]; exact hz
            have HZ := Lib.hid (domErr_zero HD.out hz); clear hz
            go_wp2_with (go_at_call 47; refine (rof_any _ _ _ (by omega) hp2).mono ?_; rintro e w' ⟨rfl, rfl⟩)
            go_ret
            exact ⟨ret_int HZ.out.symm, rfl⟩
        · have hdb : ((p - 1) % n != 0) = true := by rw [bne_iff_ne]; exact hd
          have HZ := Lib.hid (domErr_two (p := p) (sh := sh) (fun h => hd h.2)); clear hd h2
          go_wp2_with fail
          go_ret
          exact ⟨ret_int HZ.out.symm, rfl⟩
      · have HZ := Lib.hid (domErr_two (p := p) (sh := sh) (fun h => h2 h.1))
        have h3 : twoUp 17 n = false := by simpa using h2
        clear h2
        rw [h3]
        clear h3
        go_wp2_with fail
        go_ret
        exact ⟨ret_int HZ.out.symm, rfl⟩

theorem size_any {w : World} {d f : Value} {n sh r : Int} (h : DomOf w d f n sh r) : Calls Tryz.prog 35 #[d] w (Rd w (.int .i64 n)) := by
  obtain ⟨b, rfl, h1, h2, h3, h4⟩ := h
  go_enter Tryz.func35, Tryz.ntmps35
  go_wp2
  go_ret; exact .same rfl
theorem size_q {w : World} {d f : Value} {n sh r : Int} (h : DomOf w d f n sh r) (m : Nat) : Calls Tryz.prog 35 #[d] (w.drewN m) fun e w'' => e = .returned (.int .i64 n) ∧ ∃ m, w'' = w.drewN m := Calls.quiet_of (size_any (h.drewN m))
theorem dfield_any {w : World} {d : Value} {b : Addr} {n sh r : Int} (h : DomOf w d (.pointer (some b)) n sh r) : Calls Tryz.prog 89 #[d] w (Rd w (.pointer (some b))) := by
  obtain ⟨b, rfl, h1, h2, h3, h4⟩ := h
  go_enter Tryz.func89, Tryz.ntmps89
  go_wp2
  go_ret; exact .same rfl
theorem dfield_q {w : World} {d : Value} {b : Addr} {n sh r : Int} (h : DomOf w d (.pointer (some b)) n sh r) (m : Nat) : Calls Tryz.prog 89 #[d] (w.drewN m) fun e w'' => e = .returned (.pointer (some b)) ∧ ∃ m, w'' = w.drewN m := Calls.quiet_of (dfield_any (h.drewN m))

set_option maxHeartbeats 1000000 in
theorem dnew_bad {w : World} {f : Value} {p g : Int} {fs : List Int} (hf : Fld w f p g fs) (n sh : Int) (hE : domErr p n sh ≠ 0) :
    Calls Tryz.prog 27 #[f, .int .i64 n, .int .i64 sh] w (Rd w (.tuple #[.pointer none, errv (domErr p n sh)])) := by
  have lo := hf.lo; have hi := hf.hi
  have C := Lib.hid hf; clear hf
  by_cases h2 : twoB n = true
  · have hbd := twoB_bd h2
    have hm : (bits BinOp.and IntKind.i64 n (n - 1) != 0) = false := by rw [twoB_iff hbd.1 hbd.2, h2]; rfl
    by_cases hd : (p - 1) % n = 0
    · have hdb : ((p - 1) % n != 0) = false := by rw [bne_eq_false_iff_eq]; exact hd
      have hz : fof p sh = 0 := Classical.byContradiction fun h => hE (domErr_zero ⟨h2, hd⟩ h)
      have hzb : (fof p sh == 0) = true := by rw [beq_iff_eq]; exact hz
      rw [domErr_three ⟨h2, hd⟩ hz, errv_pos (by decide)]
      clear hE h2 hd hz
      go_enter Tryz.func27, Tryz.ntmps27
      go_wp2_with (first | (go_at_call 86; refine (p_any C.out).mono ?_; rintro e w' ⟨rfl, m, rfl⟩) | (go_at_call 83; refine (of_any (C.out.drewN _) _).mono ?_; rintro e w' ⟨rfl, m2, rfl⟩))
      go_ret2
      exact .more _ rfl
    · have hdb : ((p - 1) % n != 0) = true := by rw [bne_iff_ne]; exact hd
      rw [domErr_two (fun h => hd h.2), errv_pos (by decide)]
      clear hE h2 hd
      go_enter Tryz.func27, Tryz.ntmps27
      go_wp2_with (go_at_call 86; refine (p_any C.out).mono ?_; rintro e w' ⟨rfl, m, rfl⟩)
      go_ret2
      exact .more _ rfl
  · rw [domErr_two (fun h => h2 h.1), errv_pos (by decide)]
    by_cases h1 : n < 1
    · clear hE h2
      go_enter Tryz.func27, Tryz.ntmps27
      go_wp2_with fail
      go_ret2
      exact .same rfl
    · by_cases h3 : 65536 < n
      · clear hE h2
        go_enter Tryz.func27, Tryz.ntmps27
        go_wp2_with fail
        go_ret2
        exact .same rfl
      · have hm : (bits BinOp.and IntKind.i64 n (n - 1) != 0) = true := by rw [twoB_iff (by omega) (by omega)]; simp [h2]
        clear hE h2
        go_enter Tryz.func27, Tryz.ntmps27
        go_wp2_with fail
        go_ret2
        exact .same rfl

set_option maxHeartbeats 1000000 in
theorem dnew_ok {w : World} {f : Value} {p g : Int} (hf : FieldOf w f p g) (n sh : Int) (hE : domErr p n sh = 0) :
    Calls Tryz.prog 27 #[f, .int .i64 n, .int .i64 sh] w (Gives w fun v w' => ∃ d, v = .tuple #[d, .nilIface] ∧ DomOf w' d f n (fof p sh) (froot p g n)) := by
  obtain ⟨fs, hf1⟩ := hf.fld
  have lo := hf1.lo; have hi := hf1.hi
  obtain ⟨bf, rfl⟩ := hf.ptr
  obtain ⟨h2, hd, hz⟩ := domErr_ok hE
  have C := Lib.hid hf1; have HF := Lib.hid hf; clear hf hf1
  have hbd := twoB_bd h2
  have hm : (bits BinOp.and IntKind.i64 n (n - 1) != 0) = false := by rw [twoB_iff hbd.1 hbd.2, h2]; rfl
  have hdb : ((p - 1) % n != 0) = false := by rw [bne_eq_false_iff_eq]; exact hd
  have hzb : (fof p sh == 0) = false := by rw [beq_eq_false_iff_ne]; exact hz
  have HD := Lib.hid hd
  clear hE h2 hd hz
  go_enter Tryz.func27, Tryz.ntmps27
  go_wp2_with (first | (go_at_call 86; refine (p_any C.out).mono ?_; rintro e w' ⟨rfl, m, rfl⟩) | (go_at_call 83; refine (of_any (C.out.drewN _) _).mono ?_; rintro e w' ⟨rfl, m2, rfl⟩) | (go_at_call 87; refine (root_ok (C.out.drewN _) _ hbd.1 HD.out).mono ?_; rintro e w' ⟨rfl, m2, rfl⟩))
  go_ret2
  refine .mk _ rfl ((Ext.drewN _ _).trans (Ext.alloc _ _)) ⟨.pointer (some ⟨w.heap.size, 0, none⟩), rfl, ⟨⟨w.heap.size, rfl, ?_, ?_, ?_, ?_⟩⟩⟩
  all_goals (rw [cell_newN]; rfl)

end Go.Proofs.YtcpnidomdkaefaaGreatDoor
/-! Words made one, on both sides: contracts. -/
namespace Go.Att
open Go.RowKit
/-- What several words add to the first: the word j by g to the 2j + 1, and once more by g to the 2j + 2 and h. -/
def bs (l : List Int) (g h : Int) : Nat → Int
  | 0 => 0
  | j + 1 => bs l g h j + g ^ (2 * j + 1) * nth l j + g ^ (2 * j + 2) * nth l j * h
def batched (p first g h : Int) (l : List Int) : Int := (first + bs l g h l.length) % p
theorem bat_ref (p g h first : Int) (l : List Int) (j : Nat) :
    fadd p (fadd p ((first + bs l g h j) % p) (fmul p (fpow p g (2 * j + 1)) (nth l j))) (fmul p (fmul p (fpow p g (2 * j + 2)) (nth l j)) (h % p)) = (first + bs l g h (j + 1)) % p := by
  simp only [fpow, fadd, fmul, ea_l, ea_r, em_l, em_r, bs]
  congr 1
  simp only [Int.add_assoc]
theorem bat_pow (p g : Int) (n : Nat) : fmul p (g ^ n % p) g = g ^ (n + 1) % p := by rw [fmul, em_l, Int.pow_succ]
theorem bat_prog (p g h first : Int) (l : List Int) (j : Nat) :
    fadd p (fadd p ((first + bs l g h j) % p) (fmul p (g ^ (2 * j + 1) % p) (nth l j))) (fmul p (g ^ (2 * j + 2) % p) (fmul p (h % p) (nth l j))) = (first + bs l g h (j + 1)) % p := by
  simp only [fadd, fmul, ea_l, ea_r, em_l, em_r, bs]
  congr 1
  rw [Int.mul_comm h, ← Int.mul_assoc]
  simp only [Int.add_assoc]
/-- .. from a first that is as it came. -/
theorem bat_prog0 (p g h first F : Int) (l : List Int) (j : Nat) (hF : F % p = (first + bs l g h j) % p) :
    fadd p (fadd p F (fmul p (g ^ (2 * j + 1) % p) (nth l j))) (fmul p (g ^ (2 * j + 2) % p) (fmul p (h % p) (nth l j))) = (first + bs l g h (j + 1)) % p := by
  rw [← bat_prog, ← hF]
  simp only [fadd, ea_l]
end Go.Att
namespace Go.Proofs.YtcpnidomdkaefaaGreatDoor
open Go.RowKit Go.Att

set_option maxRecDepth 100000 in
set_option maxHeartbeats 1000000 in
theorem r2new_any (p g n sh : Int) (w : World) (hpr : Pr p) (hp : 3 ≤ p) (hp2 : p ≤ 2147483647) (hg : IsGen p g) (hl : ∀ x : Int, 1 ≤ x → x < g → ¬ IsGen p x) (h1 : 1 ≤ g) (h2 : g < p) (hE : domErr p n sh = 0) :
    Calls Tryz.prog 9 #[.int .i64 p, .int .i64 n, .int .i64 sh] w (Gives w fun v _ => v = .agg #[.int .i64 p, .int .i64 n, .int .i64 (fof p sh), .int .i64 (froot p g n)]) := by
  obtain ⟨h3, h4, -⟩ := domErr_ok hE
  have hbd := twoB_bd h3
  have C := Lib.hid (fun W => rroot_ok p g n W hpr hp hp2 hg hl h1 h2 hbd.1 h4)
  clear hpr hg hl hE h4
  go_enter Tryz.func9, Tryz.ntmps9
  go_wp2_with (first | (go_at_call 46; refine (C.out _).mono ?_; rintro e w2 ⟨rfl, rfl⟩) | (go_at_call 47; refine (rof_any _ _ _ (by omega) hp2).mono ?_; rintro e w' ⟨rfl, rfl⟩))
  (try simp only [Exit.inBlock, Exit.then]); refine bodyPost_ret (results_cell_row rfl _ _ w.heap.size 37 _ _ _ rfl (heap_alloc_new _ _) Tryz.underlying37 rfl (by kernel_rfl)) rfl ?_
  exact .mk _ rfl (Ext.alloc _ _) rfl

end Go.Proofs.YtcpnidomdkaefaaGreatDoor
end
