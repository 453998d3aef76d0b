/- The primes that divide a number: the loop's plain law, and the contract. The making of a field: contract. -/
import Derived.Test.YtaajjaadlpgbiaaGreatDoorZx4
import Derived.Test.YtaajjaadlpgbiaaGreatDoorZx21
import Derived.Test.YtaajjaadlpgbiaaGreatDoorVc
section
/-! The primes that divide a number: the loop's plain law, and the contract. -/
namespace Go.Att
/-- What holds as primes are taken out. -/
structure PInv (N0 N D : Nat) (fs : List Int) : Prop where
  pos : 1 ≤ N
  dvd : N ∣ N0
  small : ∀ d, 2 ≤ d → d < D → ¬ d ∣ N
  mem : ∀ x ∈ fs, 2 ≤ x ∧ x ∣ (N0 : Int)
  cov : ∀ q, PrN q → q ∣ N0 → (q : Int) ∈ fs ∨ q ∣ N
  len : fs.length + 2 ≤ D
  two : 2 ≤ D
theorem PrN.euclid {q a b : Nat} (h : PrN q) (hd : q ∣ a * b) : q ∣ a ∨ q ∣ b := by
  by_cases ha : q ∣ a
  · exact .inl ha
  · exact .inr (Nat.Coprime.dvd_of_dvd_mul_left (h.coprime ha) hd)
theorem PInv.start {N0 : Nat} (h : 1 ≤ N0) : PInv N0 N0 2 [] := ⟨h, Nat.dvd_refl _, fun d h1 h2 => by omega, by simp, fun q _ h => .inr h, by simp, by omega⟩
theorem PInv.skip {N0 N D : Nat} {fs : List Int} (h : PInv N0 N D fs) (hd : ¬ D ∣ N) : PInv N0 N (D + 1) fs :=
  ⟨h.pos, h.dvd, fun d h1 h2 => by rcases Nat.lt_or_eq_of_le (show d ≤ D by omega) with h3 | rfl; exact h.small d h1 h3; exact hd, h.mem, h.cov, by have := h.len; omega, by have := h.two; omega⟩
/-- The inner loop: M is N without some of its factors D. -/
def PIn (N D M : Nat) : Prop := 1 ≤ M ∧ M ∣ N ∧ ∀ q, PrN q → q ∣ N → q = D ∨ q ∣ M
theorem PIn.start {N D : Nat} (h : 1 ≤ N) : PIn N D N := ⟨h, Nat.dvd_refl _, fun _q _ h => .inr h⟩
theorem PIn.step {N0 N D M : Nat} {fs : List Int} (hp : PInv N0 N D fs) (h : PIn N D M) (hd : D ∣ M) : PIn N D (M / D) := by
  obtain ⟨h1, h2, h3⟩ := h
  have htwo := hp.two
  obtain ⟨k, rfl⟩ := hd
  have e : D * k / D = k := Nat.mul_div_cancel_left k (by omega)
  rw [e]
  refine ⟨?_, Nat.dvd_trans ⟨D, Nat.mul_comm _ _⟩ h2, fun q hq hqN => ?_⟩
  · rcases Nat.eq_zero_or_pos k with rfl | h0
    · omega
    · exact h0
  · rcases h3 q hq hqN with h4 | h4
    · exact .inl h4
    · rcases hq.euclid h4 with h5 | h5
      · left
        rcases Nat.lt_or_ge q D with h6 | h6
        · exact absurd hqN (hp.small q hq.1 h6)
        · have := Nat.le_of_dvd (by omega) h5; omega
      · exact .inr h5
theorem PInv.take {N0 N D M : Nat} {fs : List Int} (hp : PInv N0 N D fs) (hD : D ∣ N) (h : PIn N D M) (hd : ¬ D ∣ M) : PInv N0 M (D + 1) (fs ++ [(D : Int)]) := by
  obtain ⟨h1, h2, h3⟩ := h
  refine ⟨h1, Nat.dvd_trans h2 hp.dvd, fun d k1 k2 k3 => ?_, fun x hx => ?_, fun q hq hqN => ?_, by have := hp.len; simp; omega, by have := hp.two; omega⟩
  · rcases Nat.lt_or_eq_of_le (show d ≤ D by omega) with h4 | rfl
    · exact hp.small d k1 h4 (Nat.dvd_trans k3 h2)
    · exact hd k3
  · rcases List.mem_append.1 hx with h4 | h4
    · exact hp.mem x h4
    · simp at h4; subst h4
      exact ⟨by have := hp.two; omega, Int.natCast_dvd_natCast.2 (Nat.dvd_trans hD hp.dvd)⟩
  · rcases hp.cov q hq hqN with h4 | h4
    · exact .inl (by simp [h4])
    · rcases h3 q hq h4 with rfl | h5
      · exact .inl (by simp)
      · exact .inr h5
/-- All of them. -/
def PrimesOf (N0 : Nat) (fs : List Int) : Prop := (∀ x ∈ fs, 2 ≤ x ∧ x ∣ (N0 : Int)) ∧ ∀ q, PrN q → q ∣ N0 → (q : Int) ∈ fs
theorem PInv.end_one {N0 N D : Nat} {fs : List Int} (hp : PInv N0 N D fs) (h : N ≤ 1) : PrimesOf N0 fs := by
  refine ⟨hp.mem, fun q hq hqN => (hp.cov q hq hqN).resolve_right fun hd => ?_⟩
  have := Nat.le_of_dvd hp.pos hd
  have := hq.1; omega
theorem PInv.end_more {N0 N D : Nat} {fs : List Int} (hp : PInv N0 N D fs) (h : 1 < N) (hs : N < D * D) : PrimesOf N0 (fs ++ [(N : Int)]) := by
  refine ⟨fun x hx => ?_, fun q hq hqN => ?_⟩
  · rcases List.mem_append.1 hx with h4 | h4
    · exact hp.mem x h4
    · simp at h4; subst h4
      exact ⟨by omega, Int.natCast_dvd_natCast.2 hp.dvd⟩
  · rcases hp.cov q hq hqN with h4 | ⟨m, hm⟩
    · simp [h4]
    · have hqD : D ≤ q := Nat.le_of_not_lt fun hlt => hp.small q hq.1 hlt ⟨m, hm⟩
      have hm1 : m = 1 := by
        rcases Nat.lt_trichotomy m 1 with h1 | h1 | h1
        · have : m = 0 := by omega
          subst this; omega
        · exact h1
        · have hmD : D ≤ m := Nat.le_of_not_lt fun hlt => hp.small m h1 hlt ⟨q, by rw [hm, Nat.mul_comm]⟩
          have := Nat.mul_le_mul hqD hmD
          omega
      subst hm1
      simp at hm; subst hm; simp
end Go.Att
namespace Go.Proofs.YtaajjaadlpgbiaaGreatDoor
open Go.RowKit Go.Att
theorem sq_le_nat {k p : Nat} (h : k * k ≤ p) (hp : p ≤ 2147483647) : k ≤ 46340 := by
  rcases Nat.lt_or_ge 46340 k with h1 | h1
  · have : 46341 * 46341 ≤ k * k := Nat.mul_le_mul h1 h1
    omega
  · exact h1

set_option maxHeartbeats 2000000 in
theorem primes_any (N0 : Nat) (w : World) (h1 : 1 ≤ N0) (h4 : N0 ≤ 2147483647) :
    Calls Tryz.prog 132 #[.int .i64 N0] w (Gives w fun v w' => ∃ fs, Ints w' v fs ∧ PrimesOf N0 fs) := by
  go_enter Tryz.func132, Tryz.ntmps132
  go_wp2
  go_loopw [0, 3, 4] (fun x0 x3 x4 wr => ∃ (N D : Nat) (fs : List Int), x0 = .int .i64 N ∧ x4 = .int .i64 D ∧ N ≤ 2147483647 ∧ D ≤ 46341 ∧ Hid (PInv N0 N D fs) ∧ wr.ownsRow w.heap.size 3 1 x3 fs.length (fs.map (Value.int .i64)) ∧ Ext w wr) (fun _ _ x4 _ => (46341 - intOf x4).toNat)
  case atStart => exact ⟨N0, 2, [], rfl, rfl, h4, by omega, Lib.hid (PInv.start h1), World.ownsRow_nil _ _ _ _, Ext.refl _⟩
  case round =>
    obtain ⟨N, D, fs, rfl, rfl, hN, hD, H, HO, HX⟩ := hrel
    have hpos := H.out.pos
    have htwo := H.out.two
    have hlen := H.out.len
    have hs := sq_bd (show 0 ≤ (D : Int) by omega) (by omega)
    by_cases hle : (D : Int) * D ≤ N
    · have hD4 := sq_le_nat (show D * D ≤ N by exact_mod_cast hle) (by omega)
      by_cases hd : D ∣ N
      · have hm : ((N : Int) % D != 0) = false := by rw [bne_eq_false_iff_eq]; exact Int.emod_eq_zero_of_dvd (Int.natCast_dvd_natCast.2 hd)
        go_wp2_with (at_builtin; refine wpList_app1 rfl _ _ 23 rfl slInts rfl HX HO rfl _ rfl rfl (by omega) (by omega) ?_; intro v' w1 HO' HX' _)
        go_loop [0] (fun x0 => ∃ M : Nat, x0 = .int .i64 M ∧ M ≤ 2147483647 ∧ Hid (PIn N D M)) (fun x0 => (intOf x0).toNat)
        case atStart => exact ⟨N, rfl, hN, Lib.hid (PIn.start hpos)⟩
        case round =>
          obtain ⟨M, rfl, hM, HM⟩ := hrel
          have hM1 := HM.out.1
          by_cases hdM : D ∣ M
          · have hm2 : ((M : Int) % D == 0) = true := by rw [beq_iff_eq]; exact Int.emod_eq_zero_of_dvd (Int.natCast_dvd_natCast.2 hdM)
            have hlt : M / D < M := Nat.div_lt_self (by omega) (by omega)
            have hb : 0 ≤ (M : Int) / D ∧ (M : Int) / D ≤ 2147483647 := ⟨Int.ediv_nonneg (by omega) (by omega), Int.le_trans (Int.ediv_le_self _ (by omega)) (by omega)⟩
            have HN := Lib.hid (PIn.step H.out HM.out hdM)
            clear hm hd hdM
            go_wp2
            go_round
            case rel => exact ⟨M / D, by simp, by omega, HN⟩
            case measure => simp [intOf]; omega
          · have hm2 : ((M : Int) % D == 0) = false := by rw [beq_eq_false_iff_ne]; exact fun h => hdM (Int.natCast_dvd_natCast.1 (Int.dvd_of_emod_eq_zero h))
            have HN := Lib.hid (PInv.take H.out hd HM.out hdM)
            clear hm hd hdM
            go_wp2
            go_roundw
            case rel => exact ⟨M, D + 1, fs ++ [(D : Int)], rfl, by go_num, by omega, by omega, HN, by simpa using HO', HX'⟩
            case measure => simp [intOf]; omega
      · have hm : ((N : Int) % D != 0) = true := by rw [bne_iff_ne]; exact fun h => hd (Int.natCast_dvd_natCast.1 (Int.dvd_of_emod_eq_zero h))
        have HN := Lib.hid (PInv.skip H.out hd)
        clear hd
        go_wp2
        go_roundw
        case rel => exact ⟨N, D + 1, fs, rfl, by go_num, by omega, by omega, HN, HO, HX⟩
        case measure => simp [intOf]; omega
    · have hs2 : N < D * D := by
        rcases Nat.lt_or_ge N (D * D) with h | h
        · exact h
        · exact absurd (by exact_mod_cast h) hle
      by_cases h1 : (1 : Int) < N
      · have HE := Lib.hid (PInv.end_more H.out (by omega) hs2)
        clear hs2
        go_wp2_with (at_builtin; refine wpList_app1 rfl _ _ 23 rfl slInts rfl HX HO rfl _ rfl rfl (by omega) (by omega) ?_; intro v' w1 HO' HX' _)
        go_ret
        exact .mk _ rfl HX' ⟨fs ++ [(N : Int)], Ints.of_own (by simpa using HO'), HE.out⟩
      · have HE := Lib.hid (PInv.end_one H.out (by omega))
        clear hs2
        go_wp2
        go_ret
        exact .mk _ rfl HX ⟨fs, Ints.of_own HO, HE.out⟩
end Go.Proofs.YtaajjaadlpgbiaaGreatDoor
/-! Whether an element makes all others: the plain law, and the contract. -/
namespace Go.Att
/-- a is no witness against d. -/
def Wit (p a : Int) (d : Int) : Prop := a ^ ((p - 1).toNat / d.toNat) % p ≠ 1
/-- What holds of n when the first i factors have been looked at. -/
structure OInv (p a : Int) (fs : List Int) (i N : Nat) : Prop where
  pos : 1 ≤ N
  dvd : N ∣ (p - 1).toNat
  iff : N = (p - 1).toNat ↔ ∀ j, j < i → Wit p a (nth fs j)
/-- .. within the loop over one factor. -/
def OIn (p a : Int) (fs : List Int) (i N M : Nat) : Prop := 1 ≤ M ∧ M ∣ (p - 1).toNat ∧ (M = N ∨ M < N ∧ ¬ ∀ j, j < i + 1 → Wit p a (nth fs j))
section
variable {p a : Int} {fs : List Int}
theorem OInv.start (h : 1 ≤ (p - 1).toNat) : OInv p a fs 0 (p - 1).toNat := ⟨h, Nat.dvd_refl _, by simp⟩
theorem OIn.start {i N : Nat} (h : OInv p a fs i N) : OIn p a fs i N N := ⟨h.pos, h.dvd, .inl rfl⟩
theorem OIn.step {i N M D : Nat} (h : OInv p a fs i N) (_hq : 1 ≤ (p - 1).toNat) (hi : OIn p a fs i N M) (hD2 : 2 ≤ D) (hD : (D : Int) = nth fs i) (hdv : D ∣ M) (h1 : a ^ (M / D) % p = 1) : OIn p a fs i N (M / D) := by
  obtain ⟨h2, h3, h4⟩ := hi
  have hlt : M / D < M := Nat.div_lt_self (by omega) (by omega)
  have hpos : 1 ≤ M / D := Nat.div_pos (Nat.le_of_dvd (by omega) hdv) (by omega)
  refine ⟨hpos, Nat.dvd_trans ⟨D, (Nat.div_mul_cancel hdv).symm⟩ h3, .inr ?_⟩
  rcases h4 with rfl | ⟨h5, h6⟩
  · refine ⟨hlt, fun hall => ?_⟩
    have hM : M = (p - 1).toNat := h.iff.2 fun j hj => hall j (by omega)
    have hw := hall i (by omega)
    unfold Wit at hw
    rw [← hD, ← hM, Int.toNat_natCast] at hw
    exact hw h1
  · exact ⟨by omega, h6⟩
theorem OIn.done {i N M D : Nat} (h : OInv p a fs i N) (hi : OIn p a fs i N M) (hD : (D : Int) = nth fs i) (hDq : D ∣ (p - 1).toNat) (hex : D ∣ M → a ^ (M / D) % p ≠ 1) : OInv p a fs (i + 1) M := by
  obtain ⟨h2, h3, h4⟩ := hi
  refine ⟨h2, h3, ?_⟩
  rcases h4 with rfl | ⟨h5, h6⟩
  · constructor
    · intro hM j hj
      rcases Nat.lt_or_eq_of_le (show j ≤ i by omega) with hj | rfl
      · exact h.iff.1 hM j hj
      · unfold Wit
        rw [← hD, Int.toNat_natCast, ← hM]
        exact hex (hM ▸ hDq)
    · intro hall; exact h.iff.2 fun j hj => hall j (by omega)
  · constructor
    · intro hM; exfalso; have := Nat.le_of_dvd (by have := h.pos; have := Nat.le_of_dvd (n := (p - 1).toNat) (m := M); omega) h.dvd; omega
    · intro hall; exact absurd hall h6
end
end Go.Att
namespace Go.Proofs.YtaajjaadlpgbiaaGreatDoor
open Go.RowKit Go.Att

section
variable {w : World} {f : Value} {p g : Int} {fs : List Int}
theorem power_int (hf : Fld w f p g fs) (a n : Int) (h0 : 0 ≤ n) (hn : n ≤ 9223372036854775807) :
    Calls Tryz.prog 72 #[f, .int .i64 a, .int .i64 n] w (Rd w (.int .i64 (fpow p a n.toNat))) := by
  obtain ⟨k, rfl⟩ := Int.eq_ofNat_of_zero_le h0
  rw [Int.toNat_natCast]; exact power_any hf a k (by omega)
theorem power_int_q (hf : Fld w f p g fs) (a n : Int) (h0 : 0 ≤ n) (hn : n ≤ 9223372036854775807) (m : Nat) :
    Calls Tryz.prog 72 #[f, .int .i64 a, .int .i64 n] (w.drewN m) fun e w'' => e = .returned (.int .i64 (fpow p a n.toNat)) ∧ ∃ m, w'' = w.drewN m := Calls.quiet_of (power_int (hf.drewN m) a n h0 hn)

set_option maxHeartbeats 2000000 in
theorem order_any (hf : Fld w f p g fs) (a : Int) (hfs : ∀ x ∈ fs, 2 ≤ x ∧ x ∣ ((p - 1).toNat : Int)) :
    Calls Tryz.prog 133 #[f, .int .i64 a] w (RdI w fun r => r = p - 1 ↔ ¬ p ∣ a ∧ ∀ j, j < fs.length → Wit p a (nth fs j)) := by
  have C := Lib.hid hf
  have hx := fof_bd hf.two a
  have HF := Lib.hid hfs; clear hfs
  obtain ⟨⟨b', v, hf', hc, hc1, hv, -⟩, -, lo, hi⟩ := hf
  subst hf'
  have hlen := hv.len
  have HV := Lib.hid hv
  have hl := hv.run_len (P := Tryz.prog) slInts
  clear hv
  have hQ : ((p - 1).toNat : Int) = p - 1 := by omega
  by_cases ha : fof p a = 0
  · have hb : (fof p a == 0) = true := by rw [beq_iff_eq]; exact ha
    have HA := Lib.hid (show ¬ ¬ p ∣ a from fun h => h (Int.dvd_of_emod_eq_zero ha)); clear ha hQ
    go_enter Tryz.func133, Tryz.ntmps133
    go_wp2_with (go_at_call 66; refine (of_any C.out _).mono ?_; rintro e w' ⟨rfl, m, rfl⟩)
    go_ret
    exact ⟨0, ⟨fun h => by omega, fun h => absurd h.1 HA.out⟩, rfl, _, rfl⟩
  · have hb : (fof p a == 0) = false := by rw [beq_eq_false_iff_ne]; exact ha
    have HA := Lib.hid (show ¬ p ∣ a from fun h => ha (Int.emod_eq_zero_of_dvd h)); clear ha
    have HQ := Lib.hid hQ; clear hQ
    go_enter Tryz.func133, Tryz.ntmps133
    go_wp2_with (go_at_call 66; refine (of_any C.out _).mono ?_; rintro e w' ⟨rfl, m, rfl⟩)
    go_loopw [5, 22] (fun x5 x22 wr => ∃ (i N m' : Nat), x5 = .int .i64 N ∧ x22 = .int .i64 i ∧ i ≤ fs.length ∧ N ≤ 2147483647 ∧ Hid (OInv p a fs i N) ∧ wr = w.drewN m') (fun _ x22 _ => fs.length - (intOf x22).toNat)
    case atStart => exact ⟨0, (p - 1).toNat, _, by rw [HQ.out], rfl, Nat.zero_le _, by omega, Lib.hid (OInv.start (by omega)), rfl⟩
    case round =>
      obtain ⟨i, N, m1, rfl, rfl, hi1, hN, H, rfl⟩ := hrel
      have hpos := H.out.pos
      by_cases hlt : i < fs.length
      · have hix := HV.out.run_index (P := Tryz.prog) slInts i hlt
        have hcell := HV.out.cell i hlt
        obtain ⟨hd2, hdq⟩ := HF.out (nth fs i) (nth_mem hlt)
        obtain ⟨D, hD⟩ := Int.eq_ofNat_of_zero_le (show 0 ≤ nth fs i by omega)
        rw [hD] at hcell hd2 hdq
        have HD := Lib.hid hD.symm; clear hD
        have HDQ := Lib.hid (Int.natCast_dvd_natCast.1 hdq); clear hdq
        go_wp2
        go_loopw [5] (fun x5 wr => ∃ (M m' : Nat), x5 = .int .i64 M ∧ M ≤ 2147483647 ∧ Hid (OIn p a fs i N M) ∧ wr = w.drewN m') (fun x5 _ => (intOf x5).toNat)
        case atStart => exact ⟨N, _, rfl, hN, Lib.hid (OIn.start H.out), rfl⟩
        case round =>
          obtain ⟨M, m2, rfl, hM, HM, rfl⟩ := hrel
          have hM1 := HM.out.1
          have hD2 : 2 ≤ D := by omega
          clear hix hcell
          have hbd : 0 ≤ (M : Int) / D ∧ (M : Int) / D ≤ 2147483647 := ⟨Int.ediv_nonneg (by omega) (by omega), Int.le_trans (Int.ediv_le_self _ (by omega)) (by omega)⟩
          have eN : ((M : Int) / D).toNat = M / D := by rw [← Int.natCast_ediv, Int.toNat_natCast]
          by_cases hdv : D ∣ M
          · have hm : ((M : Int) % D == 0) = true := by rw [beq_iff_eq]; exact Int.emod_eq_zero_of_dvd (Int.natCast_dvd_natCast.2 hdv)
            by_cases h1 : fpow p a ((M : Int) / D).toNat = 1
            · have hp1 : (fpow p a ((M : Int) / D).toNat == 1) = true := by rw [beq_iff_eq]; exact h1
              have hlt2 : M / D < M := Nat.div_lt_self (by omega) (by omega)
              have HN := Lib.hid (OIn.step H.out (by have := H.out.dvd; have := HQ.out; omega) HM.out hD2 HD.out hdv (by rw [eN] at h1; exact h1))
              clear h1 hdv eN
              go_wp2_with (go_at_call 72; refine (power_int (C.out.drewN _) _ _ hbd.1 (by omega)).mono ?_; rintro e w' ⟨rfl, m, rfl⟩)
              go_roundw
              case rel => exact ⟨M / D, _, by simp, by omega, HN, rfl⟩
              case measure => simp [intOf]; omega
            · have hp1 : (fpow p a ((M : Int) / D).toNat == 1) = false := by rw [beq_eq_false_iff_ne]; exact h1
              have HN := Lib.hid (OIn.done H.out HM.out HD.out HDQ.out (fun _ => by rw [eN] at h1; exact h1))
              clear h1 hdv eN
              go_wp2_with (go_at_call 72; refine (power_int (C.out.drewN _) _ _ hbd.1 (by omega)).mono ?_; rintro e w' ⟨rfl, m, rfl⟩)
              go_roundw
              case rel => exact ⟨i + 1, M, _, rfl, by go_num, by omega, hM, HN, rfl⟩
              case measure => simp [intOf]; omega
          · have hm : ((M : Int) % D == 0) = false := by rw [beq_eq_false_iff_ne]; exact fun h => hdv (Int.natCast_dvd_natCast.1 (Int.dvd_of_emod_eq_zero h))
            have HN := Lib.hid (OIn.done H.out HM.out HD.out HDQ.out (fun h => absurd h hdv))
            clear hdv eN
            go_wp2
            go_roundw
            case rel => exact ⟨i + 1, M, _, rfl, by go_num, by omega, hM, HN, rfl⟩
            case measure => simp [intOf]; omega
      · obtain rfl : i = fs.length := by omega
        go_wp2
        go_ret
        have hiff := H.out.iff
        have hq := HQ.out
        exact ⟨N, ⟨fun h => ⟨HA.out, hiff.1 (by omega)⟩, fun h => by have := hiff.2 h.2; omega⟩, rfl, _, rfl⟩
end
end Go.Proofs.YtaajjaadlpgbiaaGreatDoor
end
section
/-! The making of a field: contract. -/
namespace Go.Att
open Go.RowKit
/-- A field with its least generator. -/
structure FieldOf (w : World) (f : Value) (p g : Int) : Prop where
  fld : ∃ fs, Fld w f p g fs
  gen : IsGen p g
  least : ∀ x : Int, 1 ≤ x → x < g → ¬ IsGen p x
  lo : 1 ≤ g
  hi : g < p
theorem FieldOf.ext {w w' : World} {f : Value} {p g : Int} (h : FieldOf w f p g) (hx : Ext w w') : FieldOf w' f p g := by
  obtain ⟨⟨fs, h1⟩, h2, h3, h4, h5⟩ := h
  exact ⟨⟨fs, h1.ext hx⟩, h2, h3, h4, h5⟩
theorem FieldOf.ptr {w : World} {f : Value} {p g : Int} (h : FieldOf w f p g) : ∃ b, f = .pointer (some ⟨b, 0, none⟩) := by
  obtain ⟨fs, hf⟩ := h.fld
  obtain ⟨⟨b, v, h1, _⟩, _⟩ := hf
  exact ⟨b, h1⟩
/-- Witnesses against all primes that divide: a generator; and none but such has them. -/
theorem isGen_iff {p a : Int} {fs : List Int} (hp : Pr p) (hp3 : 3 ≤ p) (hfs : PrimesOf (p - 1).toNat fs) :
    (¬ p ∣ a ∧ ∀ j, j < fs.length → Wit p a (nth fs j)) ↔ IsGen p a := by
  constructor
  · rintro ⟨h0, h1⟩
    refine isGen_of_primes hp hp3 h0 fun q hq hqn => ?_
    have hm := hfs.2 q hq hqn
    obtain ⟨j, hj, e⟩ := List.getElem_of_mem hm
    have := h1 j hj
    unfold Wit at this
    rw [nth_eq hj, e, Int.toNat_natCast] at this
    exact this
  · intro h
    refine ⟨h.1, fun j hj => ?_⟩
    obtain ⟨h2, h3⟩ := hfs.1 _ (nth_mem hj)
    obtain ⟨D, hD⟩ := Int.eq_ofNat_of_zero_le (show 0 ≤ nth fs j by omega)
    unfold Wit
    rw [hD] at h2 h3 ⊢
    rw [Int.toNat_natCast]
    have hd := Int.natCast_dvd_natCast.1 h3
    have hpos : 0 < (p - 1).toNat := by omega
    exact h.2 _ (Nat.div_pos (Nat.le_of_dvd hpos hd) (by omega)) (Nat.div_lt_self hpos (by omega))
/-- What stands in the third cell of a block. -/
def genAt (w : World) (b : Nat) : Int := match w.cell? ⟨b, 2, none⟩ with | some v => intOf v | none => 0
theorem genAt_eq {w : World} {b : Nat} {x : Int} (h : w.cell? ⟨b, 2, none⟩ = some (.int .i64 x)) : genAt w b = x := by simp [genAt, h, intOf]
end Go.Att
namespace Go.Proofs.YtaajjaadlpgbiaaGreatDoor
open Go.RowKit Go.Att

theorem gen_step {wr w1 : World} {G p : Int} {v : Value} {b m : Nat} (hb : w1.heap.size ≤ b) (c0 : wr.cell? ⟨b, 0, none⟩ = some (.int .i64 p)) (c1 : wr.cell? ⟨b, 1, none⟩ = some v) (c2 : wr.cell? ⟨b, 2, none⟩ = some (.int .i64 G)) (c3 : wr.frozen? ⟨b, 2, none⟩ = false) (hx : Ext w1 wr) :
    ((wr.drewN m).setCell ⟨b, 2, none⟩ (.int .i64 (G + 1))).cell? ⟨b, 0, none⟩ = some (.int .i64 p) ∧ ((wr.drewN m).setCell ⟨b, 2, none⟩ (.int .i64 (G + 1))).cell? ⟨b, 1, none⟩ = some v ∧
    ((wr.drewN m).setCell ⟨b, 2, none⟩ (.int .i64 (G + 1))).cell? ⟨b, 2, none⟩ = some (.int .i64 (G + 1)) ∧ ((wr.drewN m).setCell ⟨b, 2, none⟩ (.int .i64 (G + 1))).frozen? ⟨b, 2, none⟩ = false ∧ Ext w1 ((wr.drewN m).setCell ⟨b, 2, none⟩ (.int .i64 (G + 1))) := by
  refine ⟨?_, ?_, World.cell?_setCell_same _ _ _ c2, ?_, (hx.trans (Ext.drewN _ _)).below.setCell hb _⟩
  · rw [World.cell?_setCell_other _ _ _ _ (by simp)]; exact c0
  · rw [World.cell?_setCell_other _ _ _ _ (by simp)]; exact c1
  · rw [World.frozen?_setCell]; exact c3

theorem new_bad (p : Int) (w : World) (h : ¬ okP p) :
    Calls Tryz.prog 88 #[.int .i64 p] w fun e w' => e = .returned (.tuple #[.pointer none, errv 1]) ∧ w = w' := by
  rw [errv_pos (by decide)]
  by_cases h3 : p < 3
  · clear h
    go_enter Tryz.func88, Tryz.ntmps88
    go_wp2_with fail
    go_ret2; exact ⟨rfl, rfl⟩
  · by_cases h4 : 2147483647 < p
    · clear h
      go_enter Tryz.func88, Tryz.ntmps88
      go_wp2_with fail
      go_ret2; exact ⟨rfl, rfl⟩
    · have hb := okB_false h
      clear h
      go_enter Tryz.func88, Tryz.ntmps88
      go_wp2_with (go_at_call 131; refine (prime_any _ _ (by omega) (by omega)).mono ?_; rintro e w' ⟨rfl, rfl⟩)
      go_ret2; exact ⟨rfl, rfl⟩

set_option maxHeartbeats 2000000 in
theorem new_ok (p : Int) (w : World) (h : okP p) :
    Calls Tryz.prog 88 #[.int .i64 p] w (Gives w fun v w' => ∃ f g, v = .tuple #[f, .nilIface] ∧ FieldOf w' f p g) := by
  have hb := okB_true h
  obtain ⟨hp, lo, hi⟩ := h
  obtain ⟨g0, hg1, hg2, hg3⟩ := exists_gen hp lo
  have HP := Lib.hid hp; clear hp
  have HG := Lib.hid hg3; clear hg3
  have eQ : p - 1 = ((p - 1).toNat : Int) := by omega
  have EQ := Lib.hid eQ; clear eQ
  go_enter Tryz.func88, Tryz.ntmps88
  go_wp2_with (first | (go_at_call 131; refine (prime_any _ _ (by omega) (by omega)).mono ?_; rintro e w' ⟨rfl, rfl⟩) | (go_at_call 132; rw [EQ.out]; refine (primes_any _ _ (by omega) (by omega)).mono ?_; rintro e w1 ⟨v, rfl, hx, fs, hv, hfs⟩; obtain ⟨ao, cap, rfl⟩ := hv.shape))
  have HFS := Lib.hid hfs; clear hfs
  have HV := Lib.hid hv; clear hv
  have HX := Lib.hid hx; clear hx
  go_loopw [26] (fun _ wr => ∃ G : Int, wr.cell? ⟨w1.heap.size, 0, none⟩ = some (.int .i64 p) ∧ wr.cell? ⟨w1.heap.size, 1, none⟩ = some (.slice ao fs.length cap) ∧ wr.cell? ⟨w1.heap.size, 2, none⟩ = some (.int .i64 G) ∧ wr.frozen? ⟨w1.heap.size, 2, none⟩ = false ∧ Ext w1 wr ∧ 1 ≤ G ∧ G ≤ g0 ∧ Hid (∀ x : Int, 1 ≤ x → x < G → ¬ IsGen p x)) (fun _ wr => (p - genAt wr w1.heap.size).toNat)
  case atStart => exact ⟨1, by simp, by simp, by simp, by simp, Ext.alloc _ _, by omega, hg1, Lib.hid (fun x h1 h2 => by omega)⟩
  case round =>
    obtain ⟨G, c0, c1, c2, c3, hxr, hG1, hG2, HL⟩ := hrel
    have HF := Lib.hid (show Fld wr (.pointer (some ⟨w1.heap.size, 0, none⟩)) p G fs from ⟨⟨_, _, rfl, c0, c1, HV.out.ext hxr, c2⟩, HP.out, lo, hi⟩)
    have HM := Lib.hid (genAt_eq c2)
    by_cases hgen : IsGen p G
    · have HI := Lib.hid hgen; clear hgen
      go_wp2_with (go_at_call 133; refine (order_any HF.out _ HFS.out.1).mono ?_; rintro e w2 ⟨r, hr, rfl, m, rfl⟩; have hr2 : (r != p - 1) = false := (by rw [bne_eq_false_iff_eq]; exact hr.2 ((isGen_iff HP.out lo HFS.out).2 HI.out)); clear hr)
      go_ret2
      exact .mk _ rfl ((HX.out.trans hxr).trans (Ext.drewN _ _)) ⟨_, G, rfl, ⟨⟨fs, HF.out.drewN _⟩, HI.out, HL.out, hG1, by omega⟩⟩
    · have hGlt : G < g0 := by
        rcases Int.lt_or_eq_of_le hG2 with h | rfl
        · exact h
        · exact absurd HG.out hgen
      have HI := Lib.hid hgen; clear hgen
      go_wp2_with (go_at_call 133; refine (order_any HF.out _ HFS.out.1).mono ?_; rintro e w2 ⟨r, hr, rfl, m, rfl⟩; have hr2 : (r != p - 1) = true := (by rw [bne_iff_ne]; exact fun h => HI.out ((isGen_iff HP.out lo HFS.out).1 (hr.1 h))); clear hr)
      go_roundw
      case rel =>
        obtain ⟨d0, d1, d2, d3, dx⟩ := gen_step (m := m) (Nat.le_refl _) c0 c1 c2 c3 hxr
        exact ⟨G + 1, d0, d1, d2, d3, dx, by omega, by omega, Lib.hid (fun x h1 h2 => by
          rcases Int.lt_or_eq_of_le (show x ≤ G by omega) with h | rfl
          · exact HL.out x h1 h
          · exact HI.out)⟩
      case measure =>
        have e := genAt_eq (gen_step (m := m) (Nat.le_refl _) c0 c1 c2 c3 hxr).2.2.1
        rw [e, HM.out]; omega
end Go.Proofs.YtaajjaadlpgbiaaGreatDoor
/-! A field on both sides: contract. -/
namespace Go.Proofs.YtaajjaadlpgbiaaGreatDoor
open Go.RowKit Go.Att

set_option maxHeartbeats 1000000 in
theorem sfield_bad (p : Int) (w : World) (h : ¬ okP p) (hg : Hnd w) :
    Calls Tryz.prog 45 #[.int .i64 p] w (Gives w fun v _ => v = .tuple #[.pointer none, .bool true]) := by
  have HB := Lib.hid (okB_false h); have H := Lib.hid h; clear h
  have HG := Lib.hid hg; clear hg
  go_enter Tryz.func45, Tryz.ntmps45
  go_wp2_with (first | (go_at_call 88; refine (new_bad _ _ H.out).mono ?_; rintro e w' ⟨rfl, rfl⟩) | (go_at_call 89; refine (rprime_any _ _).mono ?_; rintro e w' ⟨rfl, rfl⟩; rw [HB.out]) | (go_at_call 9; refine (error_any 1 1 _ HG.out).mono ?_; rintro e w' ⟨rfl, hx⟩))
  go_ret2
  exact .mk _ rfl hx rfl

set_option maxHeartbeats 1000000 in
theorem sfield_ok (p : Int) (w : World) (h : okP p) (hg : Hnd w) :
    Calls Tryz.prog 45 #[.int .i64 p] w (Gives w fun v w' => ∃ f g, v = .tuple #[f, .bool true] ∧ FieldOf w' f p g) := by
  have HB := Lib.hid (okB_true h); have H := Lib.hid h; clear h
  have HG := Lib.hid hg; clear hg
  go_enter Tryz.func45, Tryz.ntmps45
  go_wp2_with (first | (go_at_call 88; refine (new_ok _ _ H.out).mono ?_; rintro e w1 ⟨v, rfl, hx, f, g, rfl, hf⟩; obtain ⟨b, rfl⟩ := hf.ptr) | (go_at_call 89; refine (rprime_any _ _).mono ?_; rintro e w' ⟨rfl, rfl⟩; rw [HB.out]) | (go_at_call 9; refine (error_any 0 0 _ (HG.out.ext hx)).mono ?_; rintro e w2 ⟨rfl, hx2⟩))
  go_ret2
  exact .mk _ rfl (hx.trans hx2) ⟨_, g, rfl, hf.ext hx2⟩
end Go.Proofs.YtaajjaadlpgbiaaGreatDoor
/-! Lists as elements; whether all of a list are unlike: contracts of the document's side. -/
namespace Go.Att
/-- All unlike, as elements. -/
def Unl (p : Int) (l : List Int) : Prop := (l.map (fof p)).Nodup
noncomputable def unlB (p : Int) (l : List Int) : Bool := @decide (Unl p l) (Classical.propDecidable _)
theorem unlB_true {p : Int} {l : List Int} (h : Unl p l) : unlB p l = true := @decide_eq_true _ (Classical.propDecidable _) h
theorem unlB_false {p : Int} {l : List Int} (h : ¬ Unl p l) : unlB p l = false := @decide_eq_false _ (Classical.propDecidable _) h
theorem unlB_iff {p : Int} {l : List Int} : unlB p l = true ↔ Unl p l := ⟨fun h => @of_decide_eq_true _ (Classical.propDecidable _) h, unlB_true⟩
theorem nodup_of_nth {l : List Int} (h : ∀ i, i < l.length → ∀ k, k < i → nth l i ≠ nth l k) : l.Nodup := by
  rw [List.Nodup, List.pairwise_iff_getElem]
  intro i j hi hj hij e
  exact h j hj i hij (by rw [nth_eq hj, nth_eq hi, e])
theorem not_nodup_of_nth {l : List Int} {i k : Nat} (hi : i < l.length) (hk : k < i) (e : nth l i = nth l k) : ¬ l.Nodup := by
  intro h
  rw [List.Nodup, List.pairwise_iff_getElem] at h
  exact h k i (by omega) hi hk (by rw [← nth_eq hi, ← nth_eq (show k < l.length by omega), e])
theorem take_snoc_map {l : List Int} {i : Nat} (g : Int → Int) (h : i < l.length) : (l.take (i + 1)).map g = (l.take i).map g ++ [g (nth l i)] := by
  rw [List.take_succ_eq_append_getElem h, List.map_append, nth_eq h]; rfl
end Go.Att
namespace Go.Proofs.YtaajjaadlpgbiaaGreatDoor
open Go.RowKit Go.Att

set_option maxHeartbeats 1000000 in
theorem rall_any (p : Int) (v : Value) (l : List Int) (w : World) (hv : Ints w v l) (hp : 2 ≤ p) (hp2 : p ≤ 2147483647) (hs : l.length ≤ 4294967295) :
    Calls Tryz.prog 156 #[.int .i64 p, v] w (Gives w fun v' w' => Ints w' v' (l.map (fof p)) ∧ NewIn w v' ∧ OldIn w' v') := by
  have hl := hv.run_len (P := Tryz.prog) slInts
  have HV := Lib.hid hv; clear hv
  go_enter Tryz.func156, Tryz.ntmps156
  go_wp2
  go_loopw [5, 6] (fun x5 x6 wr => ∃ i : Nat, x6 = .int .i64 i ∧ i ≤ l.length ∧ wr.ownsRow w.heap.size 3 1 x5 i (((l.take i).map (fof p)).map (Value.int .i64)) ∧ Ext w wr) (fun _ x6 _ => l.length - (intOf x6).toNat)
  case atStart => exact ⟨0, rfl, Nat.zero_le _, World.ownsRow_nil _ _ _ _, Ext.refl _⟩
  case round =>
    obtain ⟨i, rfl, hi1, HO, HX⟩ := hrel
    by_cases hlt : i < l.length
    · have hix := HV.out.run_index (P := Tryz.prog) slInts i hlt
      have hcell := (HV.out.ext HX).cell i hlt
      go_wp2_with (first | (go_at_call 36; refine (rof_any _ _ _ hp hp2).mono ?_; rintro e w' ⟨rfl, rfl⟩) | (at_builtin; refine wpList_app1 rfl _ _ 23 rfl slInts rfl HX HO rfl _ rfl rfl (by omega) (by omega) ?_; intro v' w1 HO' HX' _))
      go_roundw
      case rel => exact ⟨i + 1, by go_num, by omega, by rw [take_snoc_map _ hlt]; simpa using HO', HX'⟩
      case measure => simp [intOf]; omega
    · obtain rfl : i = l.length := by omega
      go_wp2_with fail
      go_ret
      exact .mk _ rfl HX ⟨Ints.of_own (by rw [List.take_length] at HO; exact HO), NewIn.of_own HO, OldIn.of_own HO⟩

end Go.Proofs.YtaajjaadlpgbiaaGreatDoor
end
