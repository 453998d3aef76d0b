/- The document's powers, orders, generators, roots: contracts. -/
import Derived.Test.YtaajjaadlpgbiaaGreatDoorZx1
import Derived.Deep.RegionWith
/-! The document's powers, orders, generators, roots: contracts. -/
namespace Go.Att
/-- No divisor of p - 1 below it, of those looked at, makes 1 of a. -/
def OrdUpTo (p a : Int) (i : Int) : Prop := ∀ d : Nat, d ∣ (p - 1).toNat → d < (p - 1).toNat → ((d : Int) < i ∨ (((p - 1).toNat / d : Nat) : Int) < i) → a ^ d % p ≠ 1
theorem not_gen_div {p a : Int} (hp : Pr p) (hp3 : 3 ≤ p) (h0 : ¬ p ∣ a) (h : ¬ IsGen p a) : ∃ d : Nat, d ∣ (p - 1).toNat ∧ d < (p - 1).toNat ∧ a ^ d % p = 1 := by
  have h1 : ∃ n : Nat, 0 < n ∧ n < (p - 1).toNat ∧ a ^ n % p = 1 := by
    apply Classical.byContradiction
    intro hc
    exact h ⟨h0, fun n hn hlt he => hc ⟨n, hn, hlt, he⟩⟩
  obtain ⟨n, hn, hlt, he⟩ := h1
  refine ⟨Nat.gcd n (p - 1).toNat, Nat.gcd_dvd_right _ _, ?_, pow_one_gcd (by omega) he (fermat hp h0)⟩
  exact Nat.lt_of_le_of_lt (Nat.le_of_dvd hn (Nat.gcd_dvd_left _ _)) hlt
theorem ordUpTo_gen {p a i : Int} (hp : Pr p) (hp3 : 3 ≤ p) (h0 : ¬ p ∣ a) (hi : p - 1 < i * i) (hi1 : 1 ≤ i) (h : OrdUpTo p a i) : IsGen p a := by
  apply Classical.byContradiction
  intro hn
  obtain ⟨d, h1, h2, h3⟩ := not_gen_div hp hp3 h0 hn
  refine h d h1 h2 ?_ h3
  apply Classical.byContradiction
  intro hc
  have hc1 : i ≤ (d : Int) := by omega
  have hc2 : i ≤ (((p - 1).toNat / d : Nat) : Int) := by omega
  have h4 : (p - 1).toNat / d * d = (p - 1).toNat := Nat.div_mul_cancel h1
  have h5 : i * i ≤ (((p - 1).toNat / d : Nat) : Int) * (d : Int) := Int.mul_le_mul hc2 hc1 (by omega) (by omega)
  rw [← Int.natCast_mul, h4] at h5
  omega
theorem ordUpTo_start (p a : Int) : OrdUpTo p a 1 := by
  intro d h1 h2 h3
  exfalso
  rcases h3 with h3 | h3
  · obtain rfl : d = 0 := by omega
    have := Nat.eq_zero_of_zero_dvd h1; omega
  · have : 0 < (p - 1).toNat / d := Nat.div_pos (by omega) (Nat.pos_of_ne_zero (fun e => by subst e; have := Nat.eq_zero_of_zero_dvd h1; omega))
    omega
/-- What the i-th round adds. -/
theorem ordUpTo_step {p a : Int} {i : Nat} (h : OrdUpTo p a i) (h1 : i ∣ (p - 1).toNat → i < (p - 1).toNat → a ^ i % p ≠ 1) (h2 : i ∣ (p - 1).toNat → (p - 1).toNat / i < (p - 1).toNat → a ^ ((p - 1).toNat / i) % p ≠ 1) : OrdUpTo p a ((i : Int) + 1) := by
  intro d hd hlt hor
  by_cases hh : ((d : Int) < i ∨ (((p - 1).toNat / d : Nat) : Int) < i)
  · exact h d hd hlt hh
  · have : d = i ∨ (p - 1).toNat / d = i := by omega
    rcases this with rfl | hi
    · exact h1 hd hlt
    · have h4 : (p - 1).toNat / d * d = (p - 1).toNat := Nat.div_mul_cancel hd
      have hdp : 0 < d := Nat.pos_of_ne_zero (fun e => by subst e; have := Nat.eq_zero_of_zero_dvd hd; omega)
      rw [hi] at h4
      have hi0 : 0 < i := Nat.pos_of_ne_zero (fun e => by subst e; omega)
      have e : (p - 1).toNat / i = d := by rw [← h4]; exact Nat.mul_div_cancel_left _ hi0
      have := h2 ⟨d, h4.symm⟩ (by rw [e]; exact hlt)
      rw [e] at this; exact this
theorem gen_ordUpTo {p a : Int} (_hp3 : 3 ≤ p) (h : IsGen p a) (i : Int) : OrdUpTo p a i := by
  intro d h1 h2 _
  exact h.2 d (Nat.pos_of_ne_zero (fun e => by subst e; have := Nat.eq_zero_of_zero_dvd h1; omega)) h2
theorem int_dvd_sub_one {p : Int} {i : Nat} (hp : 3 ≤ p) : ((p - 1) % (i : Int) = 0) ↔ i ∣ (p - 1).toNat := by
  obtain ⟨q, hq⟩ := Int.eq_ofNat_of_zero_le (show 0 ≤ p - 1 by omega)
  rw [hq, Int.toNat_natCast, Nat.dvd_iff_mod_eq_zero, ← Int.natCast_emod]
  omega
theorem int_quo_sub_one {p : Int} {i : Nat} (hp : 3 ≤ p) : (p - 1) / (i : Int) = (((p - 1).toNat / i : Nat) : Int) := by
  obtain ⟨q, hq⟩ := Int.eq_ofNat_of_zero_le (show 0 ≤ p - 1 by omega)
  rw [hq, Int.toNat_natCast, ← Int.natCast_ediv]
/-- The best so far, when one more divisor was looked at. -/
def upd (p a B : Int) (d : Nat) : Int := if fpow p a d = 1 ∧ (d : Int) < B then d else B
theorem upd_yes {p a B : Int} {d : Nat} (h1 : fpow p a d = 1) (h2 : (d : Int) < B) : upd p a B d = d := if_pos ⟨h1, h2⟩
theorem upd_no1 {p a B : Int} {d : Nat} (h1 : fpow p a d ≠ 1) : upd p a B d = B := if_neg fun h => h1 h.1
theorem upd_no2 {p a B : Int} {d : Nat} (h2 : ¬ (d : Int) < B) : upd p a B d = B := if_neg fun h => h2 h.2
theorem upd_iff {p a B : Int} {d : Nat} (hB : B ≤ p - 1) : upd p a B d = p - 1 ↔ B = p - 1 ∧ ¬ (a ^ d % p = 1 ∧ (d : Int) < p - 1) := by
  unfold upd fpow
  split
  · rename_i h
    constructor
    · intro e; omega
    · rintro ⟨e, h2⟩; exact absurd ⟨h.1, by omega⟩ h2
  · rename_i h
    constructor
    · intro e; exact ⟨e, fun h2 => h ⟨h2.1, by omega⟩⟩
    · intro e; exact e.1
theorem upd_le {p a B : Int} {d : Nat} (hd : (1 : Int) ≤ d) (h1 : 1 ≤ B) (hB : B ≤ p - 1) : 1 ≤ upd p a B d ∧ upd p a B d ≤ p - 1 := by
  unfold upd; split <;> omega
theorem ord_next {p a B : Int} {i K : Nat} (hp3 : 3 ≤ p) (hB : B ≤ p - 1) (hB1 : 1 ≤ B) (hi : 1 ≤ i) (hd : i ∣ (p - 1).toNat) (hK : (p - 1).toNat / i = K) (h : B = p - 1 ↔ OrdUpTo p a i) : upd p a (upd p a B i) K = p - 1 ↔ OrdUpTo p a ((i : Int) + 1) := by
  have hu := upd_le (p := p) (a := a) (B := B) (d := i) (by omega) hB1 hB
  rw [upd_iff hu.2, upd_iff hB, h]
  have hKq : K ∣ (p - 1).toNat := ⟨i, by rw [← hK]; exact (Nat.div_mul_cancel hd).symm⟩
  have hKi : (p - 1).toNat / K = i := by
    have h4 : K * i = (p - 1).toNat := by rw [← hK]; exact Nat.div_mul_cancel hd
    have hK0 : 0 < K := Nat.pos_of_ne_zero (fun e => by subst e; omega)
    rw [← h4]; exact Nat.mul_div_cancel_left _ hK0
  constructor
  · rintro ⟨⟨h1, h2⟩, h3⟩
    exact ordUpTo_step h1 (fun _ hlt he => h2 ⟨he, by omega⟩) (fun _ hlt he => h3 ⟨by rw [← hK]; exact he, by omega⟩)
  · intro h1
    refine ⟨⟨fun d k1 k2 k3 => h1 d k1 k2 (by omega), fun k => h1 i hd (by omega) (.inl (by omega)) k.1⟩, fun k => h1 K hKq (by omega) (.inr (by rw [hKi]; omega)) k.1⟩
end Go.Att
namespace Go.Proofs.YtaajjaadlpgbiaaGreatDoor
open Go.RowKit Go.Att

set_option maxHeartbeats 1000000 in
theorem rpow_any (p a : Int) (n : Nat) (w : World) (hp : 2 ≤ p) (hp2 : p ≤ 2147483647) (hn : n ≤ 9223372036854775807) :
    Calls Tryz.prog 32 #[.int .i64 p, .int .i64 a, .int .i64 n] w fun e w' => e = .returned (.int .i64 (fpow p a n)) ∧ w = w' := by
  have hx := fof_bd hp a
  go_enter Tryz.func32, Tryz.ntmps32
  go_wp2_with (go_at_call 36; refine (rof_any _ _ _ hp hp2).mono ?_; rintro e w' ⟨rfl, rfl⟩)
  go_loop [1, 2, 7] (fun x1 x2 x7 => ∃ (A X : Int) (k : Nat), x1 = .int .i64 A ∧ x2 = .int .i64 k ∧ x7 = .int .i64 X ∧ 0 ≤ A ∧ A < p ∧ 0 ≤ X ∧ X < p ∧ k ≤ n ∧ Hid ((X * A ^ k) % p = fpow p a n)) (fun _ x2 _ => (intOf x2).toNat)
  case atStart => exact ⟨_, _, n, rfl, rfl, rfl, hx.1, hx.2, by omega, by omega, Nat.le_refl _, Lib.hid (by simp [fof, fpow, pow_mod])⟩
  case round =>
    obtain ⟨A, X, k, rfl, rfl, rfl, hA0, hA1, hX0, hX1, hkn, H⟩ := hrel
    have hmA := mul_small hp hp2 ⟨hA0, hA1⟩ ⟨hA0, hA1⟩
    have hmX := mul_small hp hp2 ⟨hX0, hX1⟩ ⟨hA0, hA1⟩
    have bA := mod_bd hp (A * A)
    have bX := mod_bd hp (X * A)
    by_cases hk : k = 0
    · subst hk
      go_wp2
      go_ret
      exact ⟨ret_int (by have := H.out; rw [Int.pow_zero, Int.mul_one, Int.emod_eq_of_lt hX0 hX1] at this; exact this), rfl⟩
    · have H2 := Lib.hid (pow_step H.out)
      rcases Nat.mod_two_eq_zero_or_one k with ho | ho
      · have hb : ((k : Int) % 2 != 0) = false := by rw [bne_eq_false_iff_eq]; omega
        have HO := Lib.hid ho; clear ho H
        go_wp2
        go_round
        case rel => exact ⟨_, _, k / 2, rfl, by go_num, rfl, bA.1, bA.2, hX0, hX1, by omega, Lib.hid (by have := H2.out; rw [HO.out, Int.pow_zero, Int.mul_one, Int.emod_eq_of_lt hX0 hX1] at this; exact this)⟩
        case measure => simp [intOf]; omega
      · have hb : ((k : Int) % 2 != 0) = true := by rw [bne_iff_ne]; omega
        have HO := Lib.hid ho; clear ho H
        go_wp2
        go_round
        case rel => exact ⟨_, _, k / 2, rfl, by go_num, rfl, bA.1, bA.2, bX.1, bX.2, by omega, Lib.hid (by have := H2.out; rw [HO.out, Int.pow_succ, Int.pow_zero, Int.one_mul] at this; exact this)⟩
        case measure => simp [intOf]; omega

theorem rpow_int (p a n : Int) (w : World) (hp : 2 ≤ p) (hp2 : p ≤ 2147483647) (h0 : 0 ≤ n) (hn : n ≤ 9223372036854775807) :
    Calls Tryz.prog 32 #[.int .i64 p, .int .i64 a, .int .i64 n] w fun e w' => e = .returned (.int .i64 (fpow p a n.toNat)) ∧ w = w' := by
  obtain ⟨k, rfl⟩ := Int.eq_ofNat_of_zero_le h0
  rw [Int.toNat_natCast]; exact rpow_any p a k w hp hp2 (by omega)

set_option maxHeartbeats 400000 in
theorem rinv_any (p a : Int) (w : World) (hp : 2 ≤ p) (hp2 : p ≤ 2147483647) :
    Calls Tryz.prog 75 #[.int .i64 p, .int .i64 a] w fun e w' => e = .returned (.int .i64 (finv p a)) ∧ w = w' := by
  go_enter Tryz.func75, Tryz.ntmps75
  go_wp2_with (go_at_call 32; refine (rpow_int _ _ _ _ hp hp2 (by omega) (by omega)).mono ?_; rintro e w' ⟨rfl, rfl⟩)
  go_ret; exact ⟨ret_int (finv_eq _ _), rfl⟩

/-- What the document's Order gives, as far as a generator is told by it. -/
def OrdIs (p a : Int) : Ending → World → World → Prop := fun e w w' => ∃ r, e = .returned (.int .i64 r) ∧ w = w' ∧ (r = p - 1 ↔ IsGen p a)
theorem OrdIs.mk {p a r : Int} {e : Ending} {w : World} (h1 : e = .returned (.int .i64 r)) (h2 : r = p - 1 ↔ IsGen p a) : OrdIs p a e w w := ⟨r, h1, rfl, h2⟩

set_option maxRecDepth 100000 in
set_option maxHeartbeats 4000000 in
theorem rorder_any (p a : Int) (w : World) (hpr : Pr p) (hp : 3 ≤ p) (hp2 : p ≤ 2147483647) :
    Calls Tryz.prog 121 #[.int .i64 p, .int .i64 a] w fun e w' => OrdIs p a e w w' := by
  have hp0 : 2 ≤ p := by omega
  have hx := fof_bd hp0 a
  have HP := Lib.hid hpr; clear hpr
  by_cases ha : fof p a = 0
  · have hb : (fof p a == 0) = true := by rw [beq_iff_eq]; exact ha
    have HA := Lib.hid (show ¬ IsGen p a from fun h => h.1 (Int.dvd_of_emod_eq_zero ha)); clear ha
    go_enter Tryz.func121, Tryz.ntmps121
    go_wp2_with (go_at_call 36; refine (rof_any _ _ _ hp0 hp2).mono ?_; rintro e w' ⟨rfl, rfl⟩)
    go_ret
    exact .mk rfl ⟨fun h => by omega, fun h => absurd h HA.out⟩
  · have hb : (fof p a == 0) = false := by rw [beq_eq_false_iff_ne]; exact ha
    have HA := Lib.hid (show ¬ p ∣ a from fun h => ha (Int.emod_eq_zero_of_dvd h)); clear ha
    have hpe : ∀ n : Nat, fpow p (fof p a) n = fpow p a n := fun n => by simp [fof, fpow, pow_mod]
    have HPE := Lib.hid hpe; clear hpe
    go_enter Tryz.func121, Tryz.ntmps121
    go_wp2_with (go_at_call 36; refine (rof_any _ _ _ hp0 hp2).mono ?_; rintro e w' ⟨rfl, rfl⟩)
    go_loop [5, 6, 7, 8] (fun x5 x6 _ _ => ∃ (B : Int) (i : Nat), x5 = .int .i64 B ∧ x6 = .int .i64 i ∧ 1 ≤ i ∧ i ≤ 46342 ∧ 1 ≤ B ∧ B ≤ p - 1 ∧ Hid (B = p - 1 ↔ OrdUpTo p a i)) (fun _ x6 _ _ => 46343 - (intOf x6).toNat)
    case atStart => exact ⟨_, 1, rfl, rfl, Nat.le_refl _, by omega, by omega, by omega, Lib.hid ⟨fun _ => ordUpTo_start p a, fun _ => rfl⟩⟩
    case round =>
      obtain ⟨B, i, rfl, rfl, hi1, hi2, hB1, hB2, H⟩ := hrel
      have hii : (i : Int) * i ≤ 46342 * 46342 := Int.mul_le_mul (by omega) (by omega) (by omega) (by omega)
      have hii0 : (0 : Int) ≤ (i : Int) * i := Int.mul_nonneg (by omega) (by omega)
      by_cases hgo : (i : Int) * i ≤ p - 1
      · have hi3 : (i : Int) ≤ 46341 := by
          apply Classical.byContradiction
          intro hc
          have : (46342 : Int) * 46342 ≤ (i : Int) * i := Int.mul_le_mul (by omega) (by omega) (by omega) (by omega)
          omega
        have hile : (i : Int) ≤ p - 1 := by
          have : (i : Int) * 1 ≤ (i : Int) * i := Int.mul_le_mul_of_nonneg_left (by omega) (by omega)
          omega
        have hq := int_quo_sub_one (i := i) hp
        have hqn : (p - 1).toNat / i ≤ (p - 1).toNat := Nat.div_le_self _ _
        have hqp : 1 ≤ (p - 1).toNat / i := Nat.div_pos (by omega) (by omega)
        generalize hK : (p - 1).toNat / i = K at hq hqn hqp
        have HK := Lib.hid hK; clear hK
        by_cases hd : i ∣ (p - 1).toNat
        · have hb2 : ((p - 1) % (i : Int) != 0) = false := by rw [bne_eq_false_iff_eq]; exact (int_dvd_sub_one hp).2 hd
          have HD := Lib.hid hd; clear hd
          have hidq : i ≤ (p - 1).toNat := by omega
          have HN := Lib.hid (ord_next hp hB2 hB1 hi1 HD.out HK.out H.out)
          have hKB : (K : Int) ≤ p - 1 := by omega
          have hcast : IntKind.i64.wrap ((p - 1) / (i : Int)) = (K : Int) := by rw [hq]; exact IntWalk.i64_in _ (by omega)
          have PI := HPE.out i
          have PK := HPE.out K
          have next : ∀ (B2 : Int), B2 = upd p a (upd p a B i) K → 1 ≤ B2 → B2 ≤ p - 1 → Hid (B2 = p - 1 ↔ OrdUpTo p a ((i : Int) + 1)) := fun B2 e _ _ => Lib.hid (by rw [e]; exact HN.out)
          have NX := Lib.hid next; clear next HN
          by_cases e1 : fpow p a i = 1
          · have E1 : (fpow p a i == 1) = true := by rw [beq_iff_eq]; exact e1
            by_cases e2 : (i : Int) < B
            · have U1 := upd_yes e1 e2
              by_cases e3 : fpow p a K = 1
              · have E3 : (fpow p a K == 1) = true := by rw [beq_iff_eq]; exact e3
                by_cases e4 : (K : Int) < (i : Int)
                · have V := Lib.hid (show (K : Int) = upd p a (upd p a B i) K by rw [U1, upd_yes e3 e4]); clear U1 e1 e3
                  go_wp2_with (go_at_call 32; refine (rpow_any _ _ _ _ hp0 hp2 (by omega)).mono ?_; rintro e w' ⟨rfl, rfl⟩; (first | rw [PI] | rw [hq, PK] | rw [PK]))
                  go_round
                  case rel => exact ⟨_, i + 1, rfl, by go_num, by omega, by omega, by omega, by omega, NX.out _ V.out (by omega) (by omega)⟩
                  case measure => simp [intOf]; omega
                · have V := Lib.hid (show (i : Int) = upd p a (upd p a B i) K by rw [U1, upd_no2 e4]); clear U1 e1 e3
                  go_wp2_with (go_at_call 32; refine (rpow_any _ _ _ _ hp0 hp2 (by omega)).mono ?_; rintro e w' ⟨rfl, rfl⟩; (first | rw [PI] | rw [hq, PK] | rw [PK]))
                  go_round
                  case rel => exact ⟨_, i + 1, rfl, by go_num, by omega, by omega, by omega, by omega, NX.out _ V.out (by omega) (by omega)⟩
                  case measure => simp [intOf]; omega
              · have E3 : (fpow p a K == 1) = false := by rw [beq_eq_false_iff_ne]; exact e3
                have V := Lib.hid (show (i : Int) = upd p a (upd p a B i) K by rw [U1, upd_no1 e3]); clear U1 e1 e3
                go_wp2_with (go_at_call 32; refine (rpow_any _ _ _ _ hp0 hp2 (by omega)).mono ?_; rintro e w' ⟨rfl, rfl⟩; (first | rw [PI] | rw [hq, PK] | rw [PK]))
                go_round
                case rel => exact ⟨_, i + 1, rfl, by go_num, by omega, by omega, by omega, by omega, NX.out _ V.out (by omega) (by omega)⟩
                case measure => simp [intOf]; omega
            · have U1 := upd_no2 (p := p) (a := a) e2
              by_cases e3 : fpow p a K = 1
              · have E3 : (fpow p a K == 1) = true := by rw [beq_iff_eq]; exact e3
                by_cases e4 : (K : Int) < B
                · have V := Lib.hid (show (K : Int) = upd p a (upd p a B i) K by rw [U1, upd_yes e3 e4]); clear U1 e1 e3
                  go_wp2_with (go_at_call 32; refine (rpow_any _ _ _ _ hp0 hp2 (by omega)).mono ?_; rintro e w' ⟨rfl, rfl⟩; (first | rw [PI] | rw [hq, PK] | rw [PK]))
                  go_round
                  case rel => exact ⟨_, i + 1, rfl, by go_num, by omega, by omega, by omega, by omega, NX.out _ V.out (by omega) (by omega)⟩
                  case measure => simp [intOf]; omega
                · have V := Lib.hid (show B = upd p a (upd p a B i) K by rw [U1, upd_no2 e4]); clear U1 e1 e3
                  go_wp2_with (go_at_call 32; refine (rpow_any _ _ _ _ hp0 hp2 (by omega)).mono ?_; rintro e w' ⟨rfl, rfl⟩; (first | rw [PI] | rw [hq, PK] | rw [PK]))
                  go_round
                  case rel => exact ⟨_, i + 1, rfl, by go_num, by omega, by omega, by omega, by omega, NX.out _ V.out (by omega) (by omega)⟩
                  case measure => simp [intOf]; omega
              · have E3 : (fpow p a K == 1) = false := by rw [beq_eq_false_iff_ne]; exact e3
                have V := Lib.hid (show B = upd p a (upd p a B i) K by rw [U1, upd_no1 e3]); clear U1 e1 e3
                go_wp2_with (go_at_call 32; refine (rpow_any _ _ _ _ hp0 hp2 (by omega)).mono ?_; rintro e w' ⟨rfl, rfl⟩; (first | rw [PI] | rw [hq, PK] | rw [PK]))
                go_round
                case rel => exact ⟨_, i + 1, rfl, by go_num, by omega, by omega, by omega, by omega, NX.out _ V.out (by omega) (by omega)⟩
                case measure => simp [intOf]; omega
          · have E1 : (fpow p a i == 1) = false := by rw [beq_eq_false_iff_ne]; exact e1
            have U1 := upd_no1 (B := B) e1
            by_cases e3 : fpow p a K = 1
            · have E3 : (fpow p a K == 1) = true := by rw [beq_iff_eq]; exact e3
              by_cases e4 : (K : Int) < B
              · have V := Lib.hid (show (K : Int) = upd p a (upd p a B i) K by rw [U1, upd_yes e3 e4]); clear U1 e1 e3
                go_wp2_with (go_at_call 32; refine (rpow_any _ _ _ _ hp0 hp2 (by omega)).mono ?_; rintro e w' ⟨rfl, rfl⟩; (first | rw [PI] | rw [hq, PK] | rw [PK]))
                go_round
                case rel => exact ⟨_, i + 1, rfl, by go_num, by omega, by omega, by omega, by omega, NX.out _ V.out (by omega) (by omega)⟩
                case measure => simp [intOf]; omega
              · have V := Lib.hid (show B = upd p a (upd p a B i) K by rw [U1, upd_no2 e4]); clear U1 e1 e3
                go_wp2_with (go_at_call 32; refine (rpow_any _ _ _ _ hp0 hp2 (by omega)).mono ?_; rintro e w' ⟨rfl, rfl⟩; (first | rw [PI] | rw [hq, PK] | rw [PK]))
                go_round
                case rel => exact ⟨_, i + 1, rfl, by go_num, by omega, by omega, by omega, by omega, NX.out _ V.out (by omega) (by omega)⟩
                case measure => simp [intOf]; omega
            · have E3 : (fpow p a K == 1) = false := by rw [beq_eq_false_iff_ne]; exact e3
              have V := Lib.hid (show B = upd p a (upd p a B i) K by rw [U1, upd_no1 e3]); clear U1 e1 e3
              go_wp2_with (go_at_call 32; refine (rpow_any _ _ _ _ hp0 hp2 (by omega)).mono ?_; rintro e w' ⟨rfl, rfl⟩; (first | rw [PI] | rw [hq, PK] | rw [PK]))
              go_round
              case rel => exact ⟨_, i + 1, rfl, by go_num, by omega, by omega, by omega, by omega, NX.out _ V.out (by omega) (by omega)⟩
              case measure => simp [intOf]; omega
        · have hb2 : ((p - 1) % (i : Int) != 0) = true := by rw [bne_iff_ne]; exact fun h => hd ((int_dvd_sub_one hp).1 h)
          have HD := Lib.hid hd; clear hd
          go_wp2_with fail
          go_round
          case rel => exact ⟨B, i + 1, rfl, by go_num, by omega, by omega, hB1, hB2, Lib.hid ⟨fun h => ordUpTo_step (H.out.1 h) (fun h => absurd h HD.out) (fun h => absurd h HD.out), fun h => H.out.2 (fun d h1 h2 h3 => h d h1 h2 (by omega))⟩⟩
          case measure => simp [intOf]; omega
      · have HG := Lib.hid hgo
        go_wp2_with fail
        go_ret
        exact .mk rfl ⟨fun h => ordUpTo_gen HP.out hp HA.out (by have := HG.out; omega) (by omega) (H.out.1 h), fun h => H.out.2 (gen_ordUpTo hp h _)⟩
set_option maxHeartbeats 1000000 in
theorem rgen_any (p g : Int) (w : World) (hpr : Pr p) (hp : 3 ≤ p) (hp2 : p ≤ 2147483647) (hg : IsGen p g) (hl : ∀ x : Int, 1 ≤ x → x < g → ¬ IsGen p x) (h1 : 1 ≤ g) (h2 : g < p) :
    Calls Tryz.prog 76 #[.int .i64 p] w fun e w' => e = .returned (.int .i64 g) ∧ w = w' := by
  have HP := Lib.hid hpr; have HG := Lib.hid hg; have HL := Lib.hid hl; clear hpr hg hl
  go_enter Tryz.func76, Tryz.ntmps76
  go_wp2
  go_loop [3, 4] (fun x3 _ => ∃ G : Int, x3 = .int .i64 G ∧ 1 ≤ G ∧ G ≤ g) (fun x3 _ => (p - intOf x3).toNat)
  case atStart => exact ⟨1, rfl, by omega, h1⟩
  case round =>
    obtain ⟨G, rfl, hG1, hG2⟩ := hrel
    by_cases hgen : IsGen p G
    · obtain rfl : G = g := by
        rcases Int.lt_or_eq_of_le hG2 with h | h
        · exact absurd hgen (HL.out G hG1 h)
        · exact h
      have HI := Lib.hid hgen; clear hgen
      go_wp2_with (go_at_call 121; refine (rorder_any _ _ _ HP.out hp hp2).mono ?_; rintro e w2 ⟨r, rfl, rfl, hr⟩; have hr2 : (r == p - 1) = true := (by rw [beq_iff_eq]; exact hr.2 HI.out); clear hr)
      go_ret
      exact ⟨rfl, rfl⟩
    · have hGlt : G < g := by
        rcases Int.lt_or_eq_of_le hG2 with h | rfl
        · exact h
        · exact absurd HG.out hgen
      have HI := Lib.hid hgen; clear hgen
      go_wp2_with (go_at_call 121; refine (rorder_any _ _ _ HP.out hp hp2).mono ?_; rintro e w2 ⟨r, rfl, rfl, hr⟩; have hr2 : (r == p - 1) = false := (by rw [beq_eq_false_iff_ne]; exact fun h => HI.out (hr.1 h)); clear hr)
      go_round
      case rel => exact ⟨G + 1, rfl, by omega, by omega⟩
      case measure => simp [intOf]; omega

/-- The root of an order that divides p - 1. -/
def froot (p g n : Int) : Int := fpow p g ((p - 1) / n).toNat
set_option maxHeartbeats 1000000 in
theorem rroot_ok (p g n : Int) (w : World) (hpr : Pr p) (hp : 3 ≤ p) (hp2 : p ≤ 2147483647) (hg : IsGen p g) (hl : ∀ x : Int, 1 ≤ x → x < g → ¬ IsGen p x) (h1 : 1 ≤ g) (h2 : g < p) (hn : 1 ≤ n) (hd : (p - 1) % n = 0) :
    Calls Tryz.prog 35 #[.int .i64 p, .int .i64 n] w fun e w' => e = .returned (.int .i64 (froot p g n)) ∧ w = w' := by
  have HP := Lib.hid hpr; have HG := Lib.hid hg; have HL := Lib.hid hl; clear hpr hg hl
  have hb : ((p - 1) % n != 0) = false := by rw [bne_eq_false_iff_eq]; exact hd
  have hq0 : 0 ≤ (p - 1) / n := Int.ediv_nonneg (by omega) (by omega)
  have hq1 : (p - 1) / n ≤ p - 1 := Int.ediv_le_self _ (by omega)
  clear hd
  go_enter Tryz.func35, Tryz.ntmps35
  go_wp2_with (first | (go_at_call 76; refine (rgen_any _ g _ HP.out hp hp2 HG.out HL.out h1 h2).mono ?_; rintro e w2 ⟨rfl, rfl⟩) | (go_at_call 32; refine (rpow_int _ _ _ _ (by omega) hp2 (by omega) (by omega)).mono ?_; rintro e w' ⟨rfl, rfl⟩))
  go_ret; exact ⟨rfl, rfl⟩
end Go.Proofs.YtaajjaadlpgbiaaGreatDoor
/-! The document's division: contract. -/
namespace Go.Proofs.YtaajjaadlpgbiaaGreatDoor
open Go.RowKit Go.Att

set_option maxHeartbeats 400000 in
theorem rdiv_any (p a b : Int) (w : World) (hp : 2 ≤ p) (hp2 : p ≤ 2147483647) :
    Calls Tryz.prog 142 #[.int .i64 p, .int .i64 a, .int .i64 b] w fun e w' => e = .returned (.int .i64 (fdiv p a b)) ∧ w = w' := by
  go_enter Tryz.func142, Tryz.ntmps142
  go_wp2_with (first | (go_at_call 75; refine (rinv_any _ _ _ hp hp2).mono ?_; rintro e w' ⟨rfl, rfl⟩) | (go_at_call 33; refine (rmul_any _ _ _ _ hp hp2).mono ?_; rintro e w' ⟨rfl, rfl⟩))
  go_ret; exact ⟨ret_int (fdiv_of _ _ _), rfl⟩

end Go.Proofs.YtaajjaadlpgbiaaGreatDoor
/-! The program's inverses, powers, roots: contracts. -/
namespace Go.Proofs.YtaajjaadlpgbiaaGreatDoor
open Go.RowKit Go.Att

section
variable {w : World} {f : Value} {p g : Int} {fs : List Int}
theorem p_any (hf : Fld w f p g fs) : Calls Tryz.prog 67 #[f] w (Rd w (.int .i64 p)) := by
  obtain ⟨⟨b', v, rfl, hc, -, -, -⟩, -, -, -⟩ := hf
  go_enter Tryz.func67, Tryz.ntmps67
  go_wp2
  go_ret; exact .same rfl
theorem p_q (hf : Fld w f p g fs) (m : Nat) : Calls Tryz.prog 67 #[f] (w.drewN m) fun e w'' => e = .returned (.int .i64 p) ∧ ∃ m, w'' = w.drewN m := Calls.quiet_of (p_any (hf.drewN m))

theorem inv_any (hf : Fld w f p g fs) (a : Int) : Calls Tryz.prog 73 #[f, .int .i64 a] w (Rd w (.int .i64 (finv p a))) := by
  have C := Lib.hid hf
  obtain ⟨⟨b', v, rfl, hc, -, -, -⟩, -, lo, hi⟩ := hf
  go_enter Tryz.func73, Tryz.ntmps73
  go_wp2_with (go_at_call 72; refine (power_int C.out _ _ (by omega) (by omega)).mono ?_; rintro e w' ⟨rfl, m, rfl⟩)
  go_ret; exact .more _ (ret_int (finv_eq _ _))
theorem inv_q (hf : Fld w f p g fs) (a : Int) (m : Nat) : Calls Tryz.prog 73 #[f, .int .i64 a] (w.drewN m) fun e w'' => e = .returned (.int .i64 (finv p a)) ∧ ∃ m, w'' = w.drewN m := Calls.quiet_of (inv_any (hf.drewN m) a)

theorem pow_any (hf : Fld w f p g fs) (a n : Int) (h0 : 0 ≤ n) (hn : n ≤ 9223372036854775807) : Calls Tryz.prog 30 #[f, .int .i64 a, .int .i64 n] w (Rd w (.int .i64 (fpow p a n.toNat))) := by
  have C := Lib.hid hf; clear hf
  go_enter Tryz.func30, Tryz.ntmps30
  go_wp2_with (go_at_call 72; refine (power_int C.out _ _ h0 hn).mono ?_; rintro e w' ⟨rfl, m, rfl⟩)
  go_ret; exact .more _ rfl
theorem pow_q (hf : Fld w f p g fs) (a n : Int) (h0 : 0 ≤ n) (hn : n ≤ 9223372036854775807) (m : Nat) : Calls Tryz.prog 30 #[f, .int .i64 a, .int .i64 n] (w.drewN m) fun e w'' => e = .returned (.int .i64 (fpow p a n.toNat)) ∧ ∃ m, w'' = w.drewN m := Calls.quiet_of (pow_any (hf.drewN m) a n h0 hn)

theorem root_ok (hf : Fld w f p g fs) (n : Int) (hn : 1 ≤ n) (hd : (p - 1) % n = 0) : Calls Tryz.prog 68 #[f, .int .i64 n] w (Rd w (.int .i64 (froot p g n))) := by
  have C := Lib.hid hf
  obtain ⟨⟨b', v, rfl, hc, -, -, hg⟩, -, lo, hi⟩ := hf
  have hb : ((p - 1) % n != 0) = false := by rw [bne_eq_false_iff_eq]; exact hd
  have hq0 : 0 ≤ (p - 1) / n := Int.ediv_nonneg (by omega) (by omega)
  have hq1 : (p - 1) / n ≤ p - 1 := Int.ediv_le_self _ (by omega)
  clear hd
  go_enter Tryz.func68, Tryz.ntmps68
  go_wp2_with fail
  go_quiet ((go_at_call 72; exact power_int_q C.out _ _ hq0 (by omega) _))
  go_wp2_with fail
  go_ret; exact .more _ rfl
end
end Go.Proofs.YtaajjaadlpgbiaaGreatDoor
