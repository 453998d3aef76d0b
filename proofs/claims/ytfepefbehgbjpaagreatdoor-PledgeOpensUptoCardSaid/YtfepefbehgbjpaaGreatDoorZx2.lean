/- The primes that divide a number: the loop's plain law, and the contract. The making of a field: contract. The document's powers, orders, generators, roots: contracts. Domains on both sides: contracts. -/
import Derived.Test.YtfepefbehgbjpaaGreatDoorZx19
import Derived.Test.YtfepefbehgbjpaaGreatDoorZx12
import Derived.Test.YtfepefbehgbjpaaGreatDoorZx1
import Derived.Deep.RegionWith
import Derived.StillTailTactics
import Derived.Test.YtfepefbehgbjpaaGreatDoorZx3
section
/-! The primes that divide a number: the loop's plain law, and the contract. -/
namespace Go.Att
structure PInv (N0 N D : Nat) (fs : List Int) : Prop where
  pos : 1 ≤ N
  dvd : N ∣ N0
  small : ∀ d, 2 ≤ d → d < D → ¬ d ∣ N
  mem : ∀ x ∈ fs, 2 ≤ x ∧ x ∣ (N0 : Int)
  cov : ∀ q, PrN q → q ∣ N0 → (q : Int) ∈ fs ∨ q ∣ N
  len : fs.length + 2 ≤ D
  two : 2 ≤ D
theorem PrN.euclid {q a b : Nat} (h : PrN q) (hd : q ∣ a * b) : q ∣ a ∨ q ∣ b := by
  by_cases ha : q ∣ a
  · exact .inl ha
  · exact .inr (Nat.Coprime.dvd_of_dvd_mul_left (h.coprime ha) hd)
theorem PInv.start {N0 : Nat} (h : 1 ≤ N0) : PInv N0 N0 2 [] := ⟨h, Nat.dvd_refl _, fun d h1 h2 => by omega, by simp, fun q _ h => .inr h, by simp, by omega⟩
theorem PInv.skip {N0 N D : Nat} {fs : List Int} (h : PInv N0 N D fs) (hd : ¬ D ∣ N) : PInv N0 N (D + 1) fs :=
  ⟨h.pos, h.dvd, fun d h1 h2 => by rcases Nat.lt_or_eq_of_le (show d ≤ D by omega) with h3 | rfl; exact h.small d h1 h3; exact hd, h.mem, h.cov, by have := h.len; omega, by have := h.two; omega⟩
def PIn (N D M : Nat) : Prop := 1 ≤ M ∧ M ∣ N ∧ ∀ q, PrN q → q ∣ N → q = D ∨ q ∣ M
theorem PIn.start {N D : Nat} (h : 1 ≤ N) : PIn N D N := ⟨h, Nat.dvd_refl _, fun _q _ h => .inr h⟩
theorem PIn.step {N0 N D M : Nat} {fs : List Int} (hp : PInv N0 N D fs) (h : PIn N D M) (hd : D ∣ M) : PIn N D (M / D) := by
  obtain ⟨h1, h2, h3⟩ := h
  have htwo := hp.two
  obtain ⟨k, rfl⟩ := hd
  have e : D * k / D = k := Nat.mul_div_cancel_left k (by omega)
  rw [e]
  refine ⟨?_, Nat.dvd_trans ⟨D, Nat.mul_comm _ _⟩ h2, fun q hq hqN => ?_⟩
  · rcases Nat.eq_zero_or_pos k with rfl | h0
    · omega
    · exact h0
  · rcases h3 q hq hqN with h4 | h4
    · exact .inl h4
    · rcases hq.euclid h4 with h5 | h5
      · left
        rcases Nat.lt_or_ge q D with h6 | h6
        · exact absurd hqN (hp.small q hq.1 h6)
        · have := Nat.le_of_dvd (by omega) h5; omega
      · exact .inr h5
theorem PInv.take {N0 N D M : Nat} {fs : List Int} (hp : PInv N0 N D fs) (hD : D ∣ N) (h : PIn N D M) (hd : ¬ D ∣ M) : PInv N0 M (D + 1) (fs ++ [(D : Int)]) := by
  obtain ⟨h1, h2, h3⟩ := h
  refine ⟨h1, Nat.dvd_trans h2 hp.dvd, fun d k1 k2 k3 => ?_, fun x hx => ?_, fun q hq hqN => ?_, by have := hp.len; simp; omega, by have := hp.two; omega⟩
  · rcases Nat.lt_or_eq_of_le (show d ≤ D by omega) with h4 | rfl
    · exact hp.small d k1 h4 (Nat.dvd_trans k3 h2)
    · exact hd k3
  · rcases List.mem_append.1 hx with h4 | h4
    · exact hp.mem x h4
    · simp at h4; subst h4
      exact ⟨by have := hp.two; omega, Int.natCast_dvd_natCast.2 (Nat.dvd_trans hD hp.dvd)⟩
  · rcases hp.cov q hq hqN with h4 | h4
    · exact .inl (by simp [h4])
    · rcases h3 q hq h4 with rfl | h5
      · exact .inl (by simp)
      · exact .inr h5
def PrimesOf (N0 : Nat) (fs : List Int) : Prop := (∀ x ∈ fs, 2 ≤ x ∧ x ∣ (N0 : Int)) ∧ ∀ q, PrN q → q ∣ N0 → (q : Int) ∈ fs
theorem PInv.end_one {N0 N D : Nat} {fs : List Int} (hp : PInv N0 N D fs) (h : N ≤ 1) : PrimesOf N0 fs := by
  refine ⟨hp.mem, fun q hq hqN => (hp.cov q hq hqN).resolve_right fun hd => ?_⟩
  have := Nat.le_of_dvd hp.pos hd
  have := hq.1; omega
theorem PInv.end_more {N0 N D : Nat} {fs : List Int} (hp : PInv N0 N D fs) (h : 1 < N) (hs : N < D * D) : PrimesOf N0 (fs ++ [(N : Int)]) := by
  refine ⟨fun x hx => ?_, fun q hq hqN => ?_⟩
  · rcases List.mem_append.1 hx with h4 | h4
    · exact hp.mem x h4
    · simp at h4; subst h4
      exact ⟨by omega, Int.natCast_dvd_natCast.2 hp.dvd⟩
  · rcases hp.cov q hq hqN with h4 | ⟨m, hm⟩
    · simp [h4]
    · have hqD : D ≤ q := Nat.le_of_not_lt fun hlt => hp.small q hq.1 hlt ⟨m, hm⟩
      have hm1 : m = 1 := by
        rcases Nat.lt_trichotomy m 1 with h1 | h1 | h1
        · have : m = 0 := by omega
          subst this; omega
        · exact h1
        · have hmD : D ≤ m := Nat.le_of_not_lt fun hlt => hp.small m h1 hlt ⟨q, by rw [hm, Nat.mul_comm]⟩
          have := Nat.mul_le_mul hqD hmD
          omega
      subst hm1
      simp at hm; subst hm; simp
end Go.Att
namespace Go.Proofs.YtfepefbehgbjpaaGreatDoor
open Go.RowKit Go.Att
theorem sq_le_nat {k p : Nat} (h : k * k ≤ p) (hp : p ≤ 2147483647) : k ≤ 46340 := by
  rcases Nat.lt_or_ge 46340 k with h1 | h1
  · have : 46341 * 46341 ≤ k * k := Nat.mul_le_mul h1 h1
    omega
  · exact h1

set_option maxHeartbeats 2000000 in
theorem primes_any (N0 : Nat) (w : World) (h1 : 1 ≤ N0) (h4 : N0 ≤ 2147483647) :
    Calls Tryz.prog 148 #[.int .i64 N0] w (Gives w fun v w' => ∃ fs, Ints w' v fs ∧ PrimesOf N0 fs) := by
  go_enter Tryz.func148, Tryz.ntmps148
  go_wp2
  go_loopw [0, 3, 4] (fun x0 x3 x4 wr => ∃ (N D : Nat) (fs : List Int), x0 = .int .i64 N ∧ x4 = .int .i64 D ∧ N ≤ 2147483647 ∧ D ≤ 46341 ∧ Hid (PInv N0 N D fs) ∧ wr.ownsRow w.heap.size 3 1 x3 fs.length (fs.map (Value.int .i64)) ∧ Ext w wr) (fun _ _ x4 _ => (46341 - intOf x4).toNat)
  case atStart => exact ⟨N0, 2, [], rfl, rfl, h4, by omega, Lib.hid (PInv.start h1), World.ownsRow_nil _ _ _ _, Ext.refl _⟩
  case round =>
    obtain ⟨N, D, fs, rfl, rfl, hN, hD, H, HO, HX⟩ := hrel
    have hpos := H.out.pos
    have htwo := H.out.two
    have hlen := H.out.len
    have hs := sq_bd (show 0 ≤ (D : Int) by omega) (by omega)
    by_cases hle : (D : Int) * D ≤ N
    · have hD4 := sq_le_nat (show D * D ≤ N by exact_mod_cast hle) (by omega)
      by_cases hd : D ∣ N
      · have hm : ((N : Int) % D != 0) = false := by rw [bne_eq_false_iff_eq]; exact Int.emod_eq_zero_of_dvd (Int.natCast_dvd_natCast.2 hd)
        go_wp2_with (at_builtin; refine wpList_app1 rfl _ _ 22 rfl slInts rfl HX HO rfl _ rfl rfl (by omega) (by omega) ?_; intro v' w1 HO' HX' _)
        go_loop [0] (fun x0 => ∃ M : Nat, x0 = .int .i64 M ∧ M ≤ 2147483647 ∧ Hid (PIn N D M)) (fun x0 => (intOf x0).toNat)
        case atStart => exact ⟨N, rfl, hN, Lib.hid (PIn.start hpos)⟩
        case round =>
          obtain ⟨M, rfl, hM, HM⟩ := hrel
          have hM1 := HM.out.1
          by_cases hdM : D ∣ M
          · have hm2 : ((M : Int) % D == 0) = true := by rw [beq_iff_eq]; exact Int.emod_eq_zero_of_dvd (Int.natCast_dvd_natCast.2 hdM)
            have hlt : M / D < M := Nat.div_lt_self (by omega) (by omega)
            have hb : 0 ≤ (M : Int) / D ∧ (M : Int) / D ≤ 2147483647 := ⟨Int.ediv_nonneg (by omega) (by omega), Int.le_trans (Int.ediv_le_self _ (by omega)) (by omega)⟩
            have HN := Lib.hid (PIn.step H.out HM.out hdM)
            clear hm hd hdM
            go_wp2
            go_round
            case rel => exact ⟨M / D, by simp, by omega, HN⟩
            case measure => simp [intOf]; omega
          · have hm2 : ((M : Int) % D == 0) = false := by rw [beq_eq_false_iff_ne]; exact fun h => hdM (Int.natCast_dvd_natCast.1 (Int.dvd_of_emod_eq_zero h))
            have HN := Lib.hid (PInv.take H.out hd HM.out hdM)
            clear hm hd hdM
            go_wp2
            go_roundw
            case rel => exact ⟨M, D + 1, fs ++ [(D : Int)], rfl, by go_num, by omega, by omega, HN, by simpa using HO', HX'⟩
            case measure => simp [intOf]; omega
      · have hm : ((N : Int) % D != 0) = true := by rw [bne_iff_ne]; exact fun h => hd (Int.natCast_dvd_natCast.1 (Int.dvd_of_emod_eq_zero h))
        have HN := Lib.hid (PInv.skip H.out hd)
        clear hd
        go_wp2
        go_roundw
        case rel => exact ⟨N, D + 1, fs, rfl, by go_num, by omega, by omega, HN, HO, HX⟩
        case measure => simp [intOf]; omega
    · have hs2 : N < D * D := by
        rcases Nat.lt_or_ge N (D * D) with h | h
        · exact h
        · exact absurd (by exact_mod_cast h) hle
      by_cases h1 : (1 : Int) < N
      · have HE := Lib.hid (PInv.end_more H.out (by omega) hs2)
        clear hs2
        go_wp2_with (at_builtin; refine wpList_app1 rfl _ _ 22 rfl slInts rfl HX HO rfl _ rfl rfl (by omega) (by omega) ?_; intro v' w1 HO' HX' _)
        go_ret
        exact .mk _ rfl HX' ⟨fs ++ [(N : Int)], Ints.of_own (by simpa using HO'), HE.out⟩
      · have HE := Lib.hid (PInv.end_one H.out (by omega))
        clear hs2
        go_wp2
        go_ret
        exact .mk _ rfl HX ⟨fs, Ints.of_own HO, HE.out⟩
end Go.Proofs.YtfepefbehgbjpaaGreatDoor
/-! Whether an element makes all others: the plain law, and the contract. -/
namespace Go.Att
def Wit (p a : Int) (d : Int) : Prop := a ^ ((p - 1).toNat / d.toNat) % p ≠ 1
structure OInv (p a : Int) (fs : List Int) (i N : Nat) : Prop where
  pos : 1 ≤ N
  dvd : N ∣ (p - 1).toNat
  iff : N = (p - 1).toNat ↔ ∀ j, j < i → Wit p a (nth fs j)
def OIn (p a : Int) (fs : List Int) (i N M : Nat) : Prop := 1 ≤ M ∧ M ∣ (p - 1).toNat ∧ (M = N ∨ M < N ∧ ¬ ∀ j, j < i + 1 → Wit p a (nth fs j))
section
variable {p a : Int} {fs : List Int}
theorem OInv.start (h : 1 ≤ (p - 1).toNat) : OInv p a fs 0 (p - 1).toNat := ⟨h, Nat.dvd_refl _, by simp⟩
theorem OIn.start {i N : Nat} (h : OInv p a fs i N) : OIn p a fs i N N := ⟨h.pos, h.dvd, .inl rfl⟩
theorem OIn.step {i N M D : Nat} (h : OInv p a fs i N) (_hq : 1 ≤ (p - 1).toNat) (hi : OIn p a fs i N M) (hD2 : 2 ≤ D) (hD : (D : Int) = nth fs i) (hdv : D ∣ M) (h1 : a ^ (M / D) % p = 1) : OIn p a fs i N (M / D) := by
  obtain ⟨h2, h3, h4⟩ := hi
  have hlt : M / D < M := Nat.div_lt_self (by omega) (by omega)
  have hpos : 1 ≤ M / D := Nat.div_pos (Nat.le_of_dvd (by omega) hdv) (by omega)
  refine ⟨hpos, Nat.dvd_trans ⟨D, (Nat.div_mul_cancel hdv).symm⟩ h3, .inr ?_⟩
  rcases h4 with rfl | ⟨h5, h6⟩
  · refine ⟨hlt, fun hall => ?_⟩
    have hM : M = (p - 1).toNat := h.iff.2 fun j hj => hall j (by omega)
    have hw := hall i (by omega)
    unfold Wit at hw
    rw [← hD, ← hM, Int.toNat_natCast] at hw
    exact hw h1
  · exact ⟨by omega, h6⟩
theorem OIn.done {i N M D : Nat} (h : OInv p a fs i N) (hi : OIn p a fs i N M) (hD : (D : Int) = nth fs i) (hDq : D ∣ (p - 1).toNat) (hex : D ∣ M → a ^ (M / D) % p ≠ 1) : OInv p a fs (i + 1) M := by
  obtain ⟨h2, h3, h4⟩ := hi
  refine ⟨h2, h3, ?_⟩
  rcases h4 with rfl | ⟨h5, h6⟩
  · constructor
    · intro hM j hj
      rcases Nat.lt_or_eq_of_le (show j ≤ i by omega) with hj | rfl
      · exact h.iff.1 hM j hj
      · unfold Wit
        rw [← hD, Int.toNat_natCast, ← hM]
        exact hex (hM ▸ hDq)
    · intro hall; exact h.iff.2 fun j hj => hall j (by omega)
  · constructor
    · intro hM; exfalso; have := Nat.le_of_dvd (by have := h.pos; have := Nat.le_of_dvd (n := (p - 1).toNat) (m := M); omega) h.dvd; omega
    · intro hall; exact absurd hall h6
end
end Go.Att
namespace Go.Proofs.YtfepefbehgbjpaaGreatDoor
open Go.RowKit Go.Att

section
variable {w : World} {f : Value} {p g : Int} {fs : List Int}
theorem power_int (hf : Fld w f p g fs) (a n : Int) (h0 : 0 ≤ n) (hn : n ≤ 9223372036854775807) :
    Calls Tryz.prog 80 #[f, .int .i64 a, .int .i64 n] w (Rd w (.int .i64 (fpow p a n.toNat))) := by
  obtain ⟨k, rfl⟩ := Int.eq_ofNat_of_zero_le h0
  rw [Int.toNat_natCast]; exact power_any hf a k (by omega)
theorem power_int_q (hf : Fld w f p g fs) (a n : Int) (h0 : 0 ≤ n) (hn : n ≤ 9223372036854775807) (m : Nat) :
    Calls Tryz.prog 80 #[f, .int .i64 a, .int .i64 n] (w.drewN m) fun e w'' => e = .returned (.int .i64 (fpow p a n.toNat)) ∧ ∃ m, w'' = w.drewN m := Calls.quiet_of (power_int (hf.drewN m) a n h0 hn)

set_option maxHeartbeats 2000000 in
theorem order_any (hf : Fld w f p g fs) (a : Int) (hfs : ∀ x ∈ fs, 2 ≤ x ∧ x ∣ ((p - 1).toNat : Int)) :
    Calls Tryz.prog 149 #[f, .int .i64 a] w (RdI w fun r => r = p - 1 ↔ ¬ p ∣ a ∧ ∀ j, j < fs.length → Wit p a (nth fs j)) := by
  have C := Lib.hid hf
  have hx := fof_bd hf.two a
  have HF := Lib.hid hfs; clear hfs
  obtain ⟨⟨b', v, hf', hc, hc1, hv, -⟩, -, lo, hi⟩ := hf
  subst hf'
  have hlen := hv.len
  have HV := Lib.hid hv
  have hl := hv.run_len (P := Tryz.prog) slInts
  clear hv
  have hQ : ((p - 1).toNat : Int) = p - 1 := by omega
  by_cases ha : fof p a = 0
  · have hb : (fof p a == 0) = true := by rw [beq_iff_eq]; exact ha
    have HA := Lib.hid (show ¬ ¬ p ∣ a from fun h => h (Int.dvd_of_emod_eq_zero ha)); clear ha hQ
    go_enter Tryz.func149, Tryz.ntmps149
    go_wp2_with (go_at_call 66; refine (of_any C.out _).mono ?_; rintro e w' ⟨rfl, m, rfl⟩)
    go_ret
    exact ⟨0, ⟨fun h => by omega, fun h => absurd h.1 HA.out⟩, rfl, _, rfl⟩
  · have hb : (fof p a == 0) = false := by rw [beq_eq_false_iff_ne]; exact ha
    have HA := Lib.hid (show ¬ p ∣ a from fun h => ha (Int.emod_eq_zero_of_dvd h)); clear ha
    have HQ := Lib.hid hQ; clear hQ
    go_enter Tryz.func149, Tryz.ntmps149
    go_wp2_with (go_at_call 66; refine (of_any C.out _).mono ?_; rintro e w' ⟨rfl, m, rfl⟩)
    go_loopw [5, 22] (fun x5 x22 wr => ∃ (i N m' : Nat), x5 = .int .i64 N ∧ x22 = .int .i64 i ∧ i ≤ fs.length ∧ N ≤ 2147483647 ∧ Hid (OInv p a fs i N) ∧ wr = w.drewN m') (fun _ x22 _ => fs.length - (intOf x22).toNat)
    case atStart => exact ⟨0, (p - 1).toNat, _, by rw [HQ.out], rfl, Nat.zero_le _, by omega, Lib.hid (OInv.start (by omega)), rfl⟩
    case round =>
      obtain ⟨i, N, m1, rfl, rfl, hi1, hN, H, rfl⟩ := hrel
      have hpos := H.out.pos
      by_cases hlt : i < fs.length
      · have hix := HV.out.run_index (P := Tryz.prog) slInts i hlt
        have hcell := HV.out.cell i hlt
        obtain ⟨hd2, hdq⟩ := HF.out (nth fs i) (nth_mem hlt)
        obtain ⟨D, hD⟩ := Int.eq_ofNat_of_zero_le (show 0 ≤ nth fs i by omega)
        rw [hD] at hcell hd2 hdq
        have HD := Lib.hid hD.symm; clear hD
        have HDQ := Lib.hid (Int.natCast_dvd_natCast.1 hdq); clear hdq
        go_wp2
        go_loopw [5] (fun x5 wr => ∃ (M m' : Nat), x5 = .int .i64 M ∧ M ≤ 2147483647 ∧ Hid (OIn p a fs i N M) ∧ wr = w.drewN m') (fun x5 _ => (intOf x5).toNat)
        case atStart => exact ⟨N, _, rfl, hN, Lib.hid (OIn.start H.out), rfl⟩
        case round =>
          obtain ⟨M, m2, rfl, hM, HM, rfl⟩ := hrel
          have hM1 := HM.out.1
          have hD2 : 2 ≤ D := by omega
          clear hix hcell
          have hbd : 0 ≤ (M : Int) / D ∧ (M : Int) / D ≤ 2147483647 := ⟨Int.ediv_nonneg (by omega) (by omega), Int.le_trans (Int.ediv_le_self _ (by omega)) (by omega)⟩
          have eN : ((M : Int) / D).toNat = M / D := by rw [← Int.natCast_ediv, Int.toNat_natCast]
          by_cases hdv : D ∣ M
          · have hm : ((M : Int) % D == 0) = true := by rw [beq_iff_eq]; exact Int.emod_eq_zero_of_dvd (Int.natCast_dvd_natCast.2 hdv)
            by_cases h1 : fpow p a ((M : Int) / D).toNat = 1
            · have hp1 : (fpow p a ((M : Int) / D).toNat == 1) = true := by rw [beq_iff_eq]; exact h1
              have hlt2 : M / D < M := Nat.div_lt_self (by omega) (by omega)
              have HN := Lib.hid (OIn.step H.out (by have := H.out.dvd; have := HQ.out; omega) HM.out hD2 HD.out hdv (by rw [eN] at h1; exact h1))
              clear h1 hdv eN
              go_wp2_with (go_at_call 80; refine (power_int (C.out.drewN _) _ _ hbd.1 (by omega)).mono ?_; rintro e w' ⟨rfl, m, rfl⟩)
              go_roundw
              case rel => exact ⟨M / D, _, by simp, by omega, HN, rfl⟩
              case measure => simp [intOf]; omega
            · have hp1 : (fpow p a ((M : Int) / D).toNat == 1) = false := by rw [beq_eq_false_iff_ne]; exact h1
              have HN := Lib.hid (OIn.done H.out HM.out HD.out HDQ.out (fun _ => by rw [eN] at h1; exact h1))
              clear h1 hdv eN
              go_wp2_with (go_at_call 80; refine (power_int (C.out.drewN _) _ _ hbd.1 (by omega)).mono ?_; rintro e w' ⟨rfl, m, rfl⟩)
              go_roundw
              case rel => exact ⟨i + 1, M, _, rfl, by go_num, by omega, hM, HN, rfl⟩
              case measure => simp [intOf]; omega
          · have hm : ((M : Int) % D == 0) = false := by rw [beq_eq_false_iff_ne]; exact fun h => hdv (Int.natCast_dvd_natCast.1 (Int.dvd_of_emod_eq_zero h))
            have HN := Lib.hid (OIn.done H.out HM.out HD.out HDQ.out (fun h => absurd h hdv))
            clear hdv eN
            go_wp2
            go_roundw
            case rel => exact ⟨i + 1, M, _, rfl, by go_num, by omega, hM, HN, rfl⟩
            case measure => simp [intOf]; omega
      · obtain rfl : i = fs.length := by omega
        go_wp2
        go_ret
        have hiff := H.out.iff
        have hq := HQ.out
        exact ⟨N, ⟨fun h => ⟨HA.out, hiff.1 (by omega)⟩, fun h => by have := hiff.2 h.2; omega⟩, rfl, _, rfl⟩
end
end Go.Proofs.YtfepefbehgbjpaaGreatDoor
end
section
/-! The making of a field: contract. -/
namespace Go.Att
open Go.RowKit
structure FieldOf (w : World) (f : Value) (p g : Int) : Prop where
  fld : ∃ fs, Fld w f p g fs
  gen : IsGen p g
  least : ∀ x : Int, 1 ≤ x → x < g → ¬ IsGen p x
  lo : 1 ≤ g
  hi : g < p
theorem FieldOf.ext {w w' : World} {f : Value} {p g : Int} (h : FieldOf w f p g) (hx : Ext w w') : FieldOf w' f p g := by
  obtain ⟨⟨fs, h1⟩, h2, h3, h4, h5⟩ := h
  exact ⟨⟨fs, h1.ext hx⟩, h2, h3, h4, h5⟩
theorem FieldOf.ptr {w : World} {f : Value} {p g : Int} (h : FieldOf w f p g) : ∃ b, f = .pointer (some ⟨b, 0, none⟩) := by
  obtain ⟨fs, hf⟩ := h.fld
  obtain ⟨⟨b, v, h1, _⟩, _⟩ := hf
  exact ⟨b, h1⟩
theorem isGen_iff {p a : Int} {fs : List Int} (hp : Pr p) (hp3 : 3 ≤ p) (hfs : PrimesOf (p - 1).toNat fs) :
    (¬ p ∣ a ∧ ∀ j, j < fs.length → Wit p a (nth fs j)) ↔ IsGen p a := by
  constructor
  · rintro ⟨h0, h1⟩
    refine isGen_of_primes hp hp3 h0 fun q hq hqn => ?_
    have hm := hfs.2 q hq hqn
    obtain ⟨j, hj, e⟩ := List.getElem_of_mem hm
    have := h1 j hj
    unfold Wit at this
    rw [nth_eq hj, e, Int.toNat_natCast] at this
    exact this
  · intro h
    refine ⟨h.1, fun j hj => ?_⟩
    obtain ⟨h2, h3⟩ := hfs.1 _ (nth_mem hj)
    obtain ⟨D, hD⟩ := Int.eq_ofNat_of_zero_le (show 0 ≤ nth fs j by omega)
    unfold Wit
    rw [hD] at h2 h3 ⊢
    rw [Int.toNat_natCast]
    have hd := Int.natCast_dvd_natCast.1 h3
    have hpos : 0 < (p - 1).toNat := by omega
    exact h.2 _ (Nat.div_pos (Nat.le_of_dvd hpos hd) (by omega)) (Nat.div_lt_self hpos (by omega))
def genAt (w : World) (b : Nat) : Int := match w.cell? ⟨b, 2, none⟩ with | some v => intOf v | none => 0
theorem genAt_eq {w : World} {b : Nat} {x : Int} (h : w.cell? ⟨b, 2, none⟩ = some (.int .i64 x)) : genAt w b = x := by simp [genAt, h, intOf]
end Go.Att
namespace Go.Proofs.YtfepefbehgbjpaaGreatDoor
open Go.RowKit Go.Att

theorem gen_step {wr w1 : World} {G p : Int} {v : Value} {b m : Nat} (hb : w1.heap.size ≤ b) (c0 : wr.cell? ⟨b, 0, none⟩ = some (.int .i64 p)) (c1 : wr.cell? ⟨b, 1, none⟩ = some v) (c2 : wr.cell? ⟨b, 2, none⟩ = some (.int .i64 G)) (c3 : wr.frozen? ⟨b, 2, none⟩ = false) (hx : Ext w1 wr) :
    ((wr.drewN m).setCell ⟨b, 2, none⟩ (.int .i64 (G + 1))).cell? ⟨b, 0, none⟩ = some (.int .i64 p) ∧ ((wr.drewN m).setCell ⟨b, 2, none⟩ (.int .i64 (G + 1))).cell? ⟨b, 1, none⟩ = some v ∧
    ((wr.drewN m).setCell ⟨b, 2, none⟩ (.int .i64 (G + 1))).cell? ⟨b, 2, none⟩ = some (.int .i64 (G + 1)) ∧ ((wr.drewN m).setCell ⟨b, 2, none⟩ (.int .i64 (G + 1))).frozen? ⟨b, 2, none⟩ = false ∧ Ext w1 ((wr.drewN m).setCell ⟨b, 2, none⟩ (.int .i64 (G + 1))) := by
  refine ⟨?_, ?_, World.cell?_setCell_same _ _ _ c2, ?_, (hx.trans (Ext.drewN _ _)).below.setCell hb _⟩
  · rw [World.cell?_setCell_other _ _ _ _ (by simp)]; exact c0
  · rw [World.cell?_setCell_other _ _ _ _ (by simp)]; exact c1
  · rw [World.frozen?_setCell]; exact c3

theorem new_bad (p : Int) (w : World) (h : ¬ okP p) :
    Calls Tryz.prog 114 #[.int .i64 p] w fun e w' => e = .returned (.tuple #[.pointer none, errv 1]) ∧ w = w' := by
  rw [errv_pos (by decide)]
  by_cases h3 : p < 3
  · clear h
    go_enter Tryz.func114, Tryz.ntmps114
    go_wp2_with fail
    go_ret2; exact ⟨rfl, rfl⟩
  · by_cases h4 : 2147483647 < p
    · clear h
      go_enter Tryz.func114, Tryz.ntmps114
      go_wp2_with fail
      go_ret2; exact ⟨rfl, rfl⟩
    · have hb := okB_false h
      clear h
      go_enter Tryz.func114, Tryz.ntmps114
      go_wp2_with (go_at_call 147; refine (prime_any _ _ (by omega) (by omega)).mono ?_; rintro e w' ⟨rfl, rfl⟩)
      go_ret2; exact ⟨rfl, rfl⟩

set_option maxHeartbeats 2000000 in
theorem new_ok (p : Int) (w : World) (h : okP p) :
    Calls Tryz.prog 114 #[.int .i64 p] w (Gives w fun v w' => ∃ f g, v = .tuple #[f, .nilIface] ∧ FieldOf w' f p g) := by
  have hb := okB_true h
  obtain ⟨hp, lo, hi⟩ := h
  obtain ⟨g0, hg1, hg2, hg3⟩ := exists_gen hp lo
  have HP := Lib.hid hp; clear hp
  have HG := Lib.hid hg3; clear hg3
  have eQ : p - 1 = ((p - 1).toNat : Int) := by omega
  have EQ := Lib.hid eQ; clear eQ
  go_enter Tryz.func114, Tryz.ntmps114
  go_wp2_with (first | (go_at_call 147; refine (prime_any _ _ (by omega) (by omega)).mono ?_; rintro e w' ⟨rfl, rfl⟩) | (go_at_call 148; rw [EQ.out]; refine (primes_any _ _ (by omega) (by omega)).mono ?_; rintro e w1 ⟨v, rfl, hx, fs, hv, hfs⟩; obtain ⟨ao, cap, rfl⟩ := hv.shape))
  have HFS := Lib.hid hfs; clear hfs
  have HV := Lib.hid hv; clear hv
  have HX := Lib.hid hx; clear hx
  go_loopw [26] (fun _ wr => ∃ G : Int, wr.cell? ⟨w1.heap.size, 0, none⟩ = some (.int .i64 p) ∧ wr.cell? ⟨w1.heap.size, 1, none⟩ = some (.slice ao fs.length cap) ∧ wr.cell? ⟨w1.heap.size, 2, none⟩ = some (.int .i64 G) ∧ wr.frozen? ⟨w1.heap.size, 2, none⟩ = false ∧ Ext w1 wr ∧ 1 ≤ G ∧ G ≤ g0 ∧ Hid (∀ x : Int, 1 ≤ x → x < G → ¬ IsGen p x)) (fun _ wr => (p - genAt wr w1.heap.size).toNat)
  case atStart => exact ⟨1, by simp, by simp, by simp, by simp, Ext.alloc _ _, by omega, hg1, Lib.hid (fun x h1 h2 => by omega)⟩
  case round =>
    obtain ⟨G, c0, c1, c2, c3, hxr, hG1, hG2, HL⟩ := hrel
    have HF := Lib.hid (show Fld wr (.pointer (some ⟨w1.heap.size, 0, none⟩)) p G fs from ⟨⟨_, _, rfl, c0, c1, HV.out.ext hxr, c2⟩, HP.out, lo, hi⟩)
    have HM := Lib.hid (genAt_eq c2)
    by_cases hgen : IsGen p G
    · have HI := Lib.hid hgen; clear hgen
      go_wp2_with (go_at_call 149; refine (order_any HF.out _ HFS.out.1).mono ?_; rintro e w2 ⟨r, hr, rfl, m, rfl⟩; have hr2 : (r != p - 1) = false := (by rw [bne_eq_false_iff_eq]; exact hr.2 ((isGen_iff HP.out lo HFS.out).2 HI.out)); clear hr)
      go_ret2
      exact .mk _ rfl ((HX.out.trans hxr).trans (Ext.drewN _ _)) ⟨_, G, rfl, ⟨⟨fs, HF.out.drewN _⟩, HI.out, HL.out, hG1, by omega⟩⟩
    · have hGlt : G < g0 := by
        rcases Int.lt_or_eq_of_le hG2 with h | rfl
        · exact h
        · exact absurd HG.out hgen
      have HI := Lib.hid hgen; clear hgen
      go_wp2_with (go_at_call 149; refine (order_any HF.out _ HFS.out.1).mono ?_; rintro e w2 ⟨r, hr, rfl, m, rfl⟩; have hr2 : (r != p - 1) = true := (by rw [bne_iff_ne]; exact fun h => HI.out ((isGen_iff HP.out lo HFS.out).1 (hr.1 h))); clear hr)
      go_roundw
      case rel =>
        obtain ⟨d0, d1, d2, d3, dx⟩ := gen_step (m := m) (Nat.le_refl _) c0 c1 c2 c3 hxr
        exact ⟨G + 1, d0, d1, d2, d3, dx, by omega, by omega, Lib.hid (fun x h1 h2 => by
          rcases Int.lt_or_eq_of_le (show x ≤ G by omega) with h | rfl
          · exact HL.out x h1 h
          · exact HI.out)⟩
      case measure =>
        have e := genAt_eq (gen_step (m := m) (Nat.le_refl _) c0 c1 c2 c3 hxr).2.2.1
        rw [e, HM.out]; omega
end Go.Proofs.YtfepefbehgbjpaaGreatDoor
/-! A field on both sides: contract. -/
namespace Go.Proofs.YtfepefbehgbjpaaGreatDoor
open Go.RowKit Go.Att

set_option maxHeartbeats 1000000 in
theorem sfield_bad (p : Int) (w : World) (h : ¬ okP p) (hg : Hnd w) :
    Calls Tryz.prog 67 #[.int .i64 p] w (Gives w fun v _ => v = .tuple #[.pointer none, .bool true]) := by
  have HB := Lib.hid (okB_false h); have H := Lib.hid h; clear h
  have HG := Lib.hid hg; clear hg
  go_enter Tryz.func67, Tryz.ntmps67
  go_wp2_with (first | (go_at_call 114; refine (new_bad _ _ H.out).mono ?_; rintro e w' ⟨rfl, rfl⟩) | (go_at_call 115; refine (rprime_any _ _).mono ?_; rintro e w' ⟨rfl, rfl⟩; rw [HB.out]) | (go_at_call 10; refine (error_any 1 1 _ HG.out).mono ?_; rintro e w' ⟨rfl, hx⟩))
  go_ret2
  exact .mk _ rfl hx rfl

set_option maxHeartbeats 1000000 in
theorem sfield_ok (p : Int) (w : World) (h : okP p) (hg : Hnd w) :
    Calls Tryz.prog 67 #[.int .i64 p] w (Gives w fun v w' => ∃ f g, v = .tuple #[f, .bool true] ∧ FieldOf w' f p g) := by
  have HB := Lib.hid (okB_true h); have H := Lib.hid h; clear h
  have HG := Lib.hid hg; clear hg
  go_enter Tryz.func67, Tryz.ntmps67
  go_wp2_with (first | (go_at_call 114; refine (new_ok _ _ H.out).mono ?_; rintro e w1 ⟨v, rfl, hx, f, g, rfl, hf⟩; obtain ⟨b, rfl⟩ := hf.ptr) | (go_at_call 115; refine (rprime_any _ _).mono ?_; rintro e w' ⟨rfl, rfl⟩; rw [HB.out]) | (go_at_call 10; refine (error_any 0 0 _ (HG.out.ext hx)).mono ?_; rintro e w2 ⟨rfl, hx2⟩))
  go_ret2
  exact .mk _ rfl (hx.trans hx2) ⟨_, g, rfl, hf.ext hx2⟩
end Go.Proofs.YtfepefbehgbjpaaGreatDoor
/-! Lists as elements; whether all of a list are unlike: contracts of the document's side. -/
namespace Go.Att
theorem take_snoc_map {l : List Int} {i : Nat} (g : Int → Int) (h : i < l.length) : (l.take (i + 1)).map g = (l.take i).map g ++ [g (nth l i)] := by
  rw [List.take_succ_eq_append_getElem h, List.map_append, nth_eq h]; rfl
end Go.Att
namespace Go.Proofs.YtfepefbehgbjpaaGreatDoor
open Go.RowKit Go.Att

end Go.Proofs.YtfepefbehgbjpaaGreatDoor
end
section
/-! The document's powers, orders, generators, roots: contracts. -/
namespace Go.Att
def OrdUpTo (p a : Int) (i : Int) : Prop := ∀ d : Nat, d ∣ (p - 1).toNat → d < (p - 1).toNat → ((d : Int) < i ∨ (((p - 1).toNat / d : Nat) : Int) < i) → a ^ d % p ≠ 1
theorem not_gen_div {p a : Int} (hp : Pr p) (hp3 : 3 ≤ p) (h0 : ¬ p ∣ a) (h : ¬ IsGen p a) : ∃ d : Nat, d ∣ (p - 1).toNat ∧ d < (p - 1).toNat ∧ a ^ d % p = 1 := by
  have h1 : ∃ n : Nat, 0 < n ∧ n < (p - 1).toNat ∧ a ^ n % p = 1 := by
    apply Classical.byContradiction
    intro hc
    exact h ⟨h0, fun n hn hlt he => hc ⟨n, hn, hlt, he⟩⟩
  obtain ⟨n, hn, hlt, he⟩ := h1
  refine ⟨Nat.gcd n (p - 1).toNat, Nat.gcd_dvd_right _ _, ?_, pow_one_gcd (by omega) he (fermat hp h0)⟩
  exact Nat.lt_of_le_of_lt (Nat.le_of_dvd hn (Nat.gcd_dvd_left _ _)) hlt
theorem ordUpTo_gen {p a i : Int} (hp : Pr p) (hp3 : 3 ≤ p) (h0 : ¬ p ∣ a) (hi : p - 1 < i * i) (hi1 : 1 ≤ i) (h : OrdUpTo p a i) : IsGen p a := by
  apply Classical.byContradiction
  intro hn
  obtain ⟨d, h1, h2, h3⟩ := not_gen_div hp hp3 h0 hn
  refine h d h1 h2 ?_ h3
  apply Classical.byContradiction
  intro hc
  have hc1 : i ≤ (d : Int) := by omega
  have hc2 : i ≤ (((p - 1).toNat / d : Nat) : Int) := by omega
  have h4 : (p - 1).toNat / d * d = (p - 1).toNat := Nat.div_mul_cancel h1
  have h5 : i * i ≤ (((p - 1).toNat / d : Nat) : Int) * (d : Int) := Int.mul_le_mul hc2 hc1 (by omega) (by omega)
  rw [← Int.natCast_mul, h4] at h5
  omega
theorem ordUpTo_start (p a : Int) : OrdUpTo p a 1 := by
  intro d h1 h2 h3
  exfalso
  rcases h3 with h3 | h3
  · obtain rfl : d = 0 := by omega
    have := Nat.eq_zero_of_zero_dvd h1; omega
  · have : 0 < (p - 1).toNat / d := Nat.div_pos (by omega) (Nat.pos_of_ne_zero (fun e => by subst e; have := Nat.eq_zero_of_zero_dvd h1; omega))
    omega
theorem ordUpTo_step {p a : Int} {i : Nat} (h : OrdUpTo p a i) (h1 : i ∣ (p - 1).toNat → i < (p - 1).toNat → a ^ i % p ≠ 1) (h2 : i ∣ (p - 1).toNat → (p - 1).toNat / i < (p - 1).toNat → a ^ ((p - 1).toNat / i) % p ≠ 1) : OrdUpTo p a ((i : Int) + 1) := by
  intro d hd hlt hor
  by_cases hh : ((d : Int) < i ∨ (((p - 1).toNat / d : Nat) : Int) < i)
  · exact h d hd hlt hh
  · have : d = i ∨ (p - 1).toNat / d = i := by omega
    rcases this with rfl | hi
    · exact h1 hd hlt
    · have h4 : (p - 1).toNat / d * d = (p - 1).toNat := Nat.div_mul_cancel hd
      have hdp : 0 < d := Nat.pos_of_ne_zero (fun e => by subst e; have := Nat.eq_zero_of_zero_dvd hd; omega)
      rw [hi] at h4
      have hi0 : 0 < i := Nat.pos_of_ne_zero (fun e => by subst e; omega)
      have e : (p - 1).toNat / i = d := by rw [← h4]; exact Nat.mul_div_cancel_left _ hi0
      have := h2 ⟨d, h4.symm⟩ (by rw [e]; exact hlt)
      rw [e] at this; exact this
theorem gen_ordUpTo {p a : Int} (_hp3 : 3 ≤ p) (h : IsGen p a) (i : Int) : OrdUpTo p a i := by
  intro d h1 h2 _
  exact h.2 d (Nat.pos_of_ne_zero (fun e => by subst e; have := Nat.eq_zero_of_zero_dvd h1; omega)) h2
theorem int_dvd_sub_one {p : Int} {i : Nat} (hp : 3 ≤ p) : ((p - 1) % (i : Int) = 0) ↔ i ∣ (p - 1).toNat := by
  obtain ⟨q, hq⟩ := Int.eq_ofNat_of_zero_le (show 0 ≤ p - 1 by omega)
  rw [hq, Int.toNat_natCast, Nat.dvd_iff_mod_eq_zero, ← Int.natCast_emod]
  omega
theorem int_quo_sub_one {p : Int} {i : Nat} (hp : 3 ≤ p) : (p - 1) / (i : Int) = (((p - 1).toNat / i : Nat) : Int) := by
  obtain ⟨q, hq⟩ := Int.eq_ofNat_of_zero_le (show 0 ≤ p - 1 by omega)
  rw [hq, Int.toNat_natCast, ← Int.natCast_ediv]
def upd (p a B : Int) (d : Nat) : Int := if fpow p a d = 1 ∧ (d : Int) < B then d else B
theorem upd_yes {p a B : Int} {d : Nat} (h1 : fpow p a d = 1) (h2 : (d : Int) < B) : upd p a B d = d := if_pos ⟨h1, h2⟩
theorem upd_no1 {p a B : Int} {d : Nat} (h1 : fpow p a d ≠ 1) : upd p a B d = B := if_neg fun h => h1 h.1
theorem upd_no2 {p a B : Int} {d : Nat} (h2 : ¬ (d : Int) < B) : upd p a B d = B := if_neg fun h => h2 h.2
theorem upd_iff {p a B : Int} {d : Nat} (hB : B ≤ p - 1) : upd p a B d = p - 1 ↔ B = p - 1 ∧ ¬ (a ^ d % p = 1 ∧ (d : Int) < p - 1) := by
  unfold upd fpow
  split
  · rename_i h
    constructor
    · intro e; omega
    · rintro ⟨e, h2⟩; exact absurd ⟨h.1, by omega⟩ h2
  · rename_i h
    constructor
    · intro e; exact ⟨e, fun h2 => h ⟨h2.1, by omega⟩⟩
    · intro e; exact e.1
theorem upd_le {p a B : Int} {d : Nat} (hd : (1 : Int) ≤ d) (h1 : 1 ≤ B) (hB : B ≤ p - 1) : 1 ≤ upd p a B d ∧ upd p a B d ≤ p - 1 := by
  unfold upd; split <;> omega
theorem ord_next {p a B : Int} {i K : Nat} (hp3 : 3 ≤ p) (hB : B ≤ p - 1) (hB1 : 1 ≤ B) (hi : 1 ≤ i) (hd : i ∣ (p - 1).toNat) (hK : (p - 1).toNat / i = K) (h : B = p - 1 ↔ OrdUpTo p a i) : upd p a (upd p a B i) K = p - 1 ↔ OrdUpTo p a ((i : Int) + 1) := by
  have hu := upd_le (p := p) (a := a) (B := B) (d := i) (by omega) hB1 hB
  rw [upd_iff hu.2, upd_iff hB, h]
  have hKq : K ∣ (p - 1).toNat := ⟨i, by rw [← hK]; exact (Nat.div_mul_cancel hd).symm⟩
  have hKi : (p - 1).toNat / K = i := by
    have h4 : K * i = (p - 1).toNat := by rw [← hK]; exact Nat.div_mul_cancel hd
    have hK0 : 0 < K := Nat.pos_of_ne_zero (fun e => by subst e; omega)
    rw [← h4]; exact Nat.mul_div_cancel_left _ hK0
  constructor
  · rintro ⟨⟨h1, h2⟩, h3⟩
    exact ordUpTo_step h1 (fun _ hlt he => h2 ⟨he, by omega⟩) (fun _ hlt he => h3 ⟨by rw [← hK]; exact he, by omega⟩)
  · intro h1
    refine ⟨⟨fun d k1 k2 k3 => h1 d k1 k2 (by omega), fun k => h1 i hd (by omega) (.inl (by omega)) k.1⟩, fun k => h1 K hKq (by omega) (.inr (by rw [hKi]; omega)) k.1⟩
end Go.Att
namespace Go.Proofs.YtfepefbehgbjpaaGreatDoor
open Go.RowKit Go.Att

set_option maxHeartbeats 1000000 in
theorem rpow_any (p a : Int) (n : Nat) (w : World) (hp : 2 ≤ p) (hp2 : p ≤ 2147483647) (hn : n ≤ 9223372036854775807) :
    Calls Tryz.prog 94 #[.int .i64 p, .int .i64 a, .int .i64 n] w fun e w' => e = .returned (.int .i64 (fpow p a n)) ∧ w = w' := by
  have hx := fof_bd hp a
  go_enter Tryz.func94, Tryz.ntmps94
  go_wp2_with (go_at_call 40; refine (rof_any _ _ _ hp hp2).mono ?_; rintro e w' ⟨rfl, rfl⟩)
  go_loop [1, 2, 7] (fun x1 x2 x7 => ∃ (A X : Int) (k : Nat), x1 = .int .i64 A ∧ x2 = .int .i64 k ∧ x7 = .int .i64 X ∧ 0 ≤ A ∧ A < p ∧ 0 ≤ X ∧ X < p ∧ k ≤ n ∧ Hid ((X * A ^ k) % p = fpow p a n)) (fun _ x2 _ => (intOf x2).toNat)
  case atStart => exact ⟨_, _, n, rfl, rfl, rfl, hx.1, hx.2, by omega, by omega, Nat.le_refl _, Lib.hid (by simp [fof, fpow, pow_mod])⟩
  case round =>
    obtain ⟨A, X, k, rfl, rfl, rfl, hA0, hA1, hX0, hX1, hkn, H⟩ := hrel
    have hmA := mul_small hp hp2 ⟨hA0, hA1⟩ ⟨hA0, hA1⟩
    have hmX := mul_small hp hp2 ⟨hX0, hX1⟩ ⟨hA0, hA1⟩
    have bA := mod_bd hp (A * A)
    have bX := mod_bd hp (X * A)
    by_cases hk : k = 0
    · subst hk
      go_wp2
      go_ret
      exact ⟨ret_int (by have := H.out; rw [Int.pow_zero, Int.mul_one, Int.emod_eq_of_lt hX0 hX1] at this; exact this), rfl⟩
    · have H2 := Lib.hid (pow_step H.out)
      rcases Nat.mod_two_eq_zero_or_one k with ho | ho
      · have hb : ((k : Int) % 2 != 0) = false := by rw [bne_eq_false_iff_eq]; omega
        have HO := Lib.hid ho; clear ho H
        go_wp2
        go_round
        case rel => exact ⟨_, _, k / 2, rfl, by go_num, rfl, bA.1, bA.2, hX0, hX1, by omega, Lib.hid (by have := H2.out; rw [HO.out, Int.pow_zero, Int.mul_one, Int.emod_eq_of_lt hX0 hX1] at this; exact this)⟩
        case measure => simp [intOf]; omega
      · have hb : ((k : Int) % 2 != 0) = true := by rw [bne_iff_ne]; omega
        have HO := Lib.hid ho; clear ho H
        go_wp2
        go_round
        case rel => exact ⟨_, _, k / 2, rfl, by go_num, rfl, bA.1, bA.2, bX.1, bX.2, by omega, Lib.hid (by have := H2.out; rw [HO.out, Int.pow_succ, Int.pow_zero, Int.one_mul] at this; exact this)⟩
        case measure => simp [intOf]; omega

theorem rpow_int (p a n : Int) (w : World) (hp : 2 ≤ p) (hp2 : p ≤ 2147483647) (h0 : 0 ≤ n) (hn : n ≤ 9223372036854775807) :
    Calls Tryz.prog 94 #[.int .i64 p, .int .i64 a, .int .i64 n] w fun e w' => e = .returned (.int .i64 (fpow p a n.toNat)) ∧ w = w' := by
  obtain ⟨k, rfl⟩ := Int.eq_ofNat_of_zero_le h0
  rw [Int.toNat_natCast]; exact rpow_any p a k w hp hp2 (by omega)

set_option maxHeartbeats 400000 in
theorem rinv_any (p a : Int) (w : World) (hp : 2 ≤ p) (hp2 : p ≤ 2147483647) :
    Calls Tryz.prog 132 #[.int .i64 p, .int .i64 a] w fun e w' => e = .returned (.int .i64 (finv p a)) ∧ w = w' := by
  go_enter Tryz.func132, Tryz.ntmps132
  go_wp2_with (go_at_call 94; refine (rpow_int _ _ _ _ hp hp2 (by omega) (by omega)).mono ?_; rintro e w' ⟨rfl, rfl⟩)
  go_ret; exact ⟨ret_int (finv_eq _ _), rfl⟩

def OrdIs (p a : Int) : Ending → World → World → Prop := fun e w w' => ∃ r, e = .returned (.int .i64 r) ∧ w = w' ∧ (r = p - 1 ↔ IsGen p a)
theorem OrdIs.mk {p a r : Int} {e : Ending} {w : World} (h1 : e = .returned (.int .i64 r)) (h2 : r = p - 1 ↔ IsGen p a) : OrdIs p a e w w := ⟨r, h1, rfl, h2⟩

set_option maxRecDepth 100000 in
set_option maxHeartbeats 4000000 in
theorem rorder_any (p a : Int) (w : World) (hpr : Pr p) (hp : 3 ≤ p) (hp2 : p ≤ 2147483647) :
    Calls Tryz.prog 131 #[.int .i64 p, .int .i64 a] w fun e w' => OrdIs p a e w w' := by
  have hp0 : 2 ≤ p := by omega
  have hx := fof_bd hp0 a
  have HP := Lib.hid hpr; clear hpr
  by_cases ha : fof p a = 0
  · have hb : (fof p a == 0) = true := by rw [beq_iff_eq]; exact ha
    have HA := Lib.hid (show ¬ IsGen p a from fun h => h.1 (Int.dvd_of_emod_eq_zero ha)); clear ha
    go_enter Tryz.func131, Tryz.ntmps131
    go_wp2_with (go_at_call 40; refine (rof_any _ _ _ hp0 hp2).mono ?_; rintro e w' ⟨rfl, rfl⟩)
    go_ret
    exact .mk rfl ⟨fun h => by omega, fun h => absurd h HA.out⟩
  · have hb : (fof p a == 0) = false := by rw [beq_eq_false_iff_ne]; exact ha
    have HA := Lib.hid (show ¬ p ∣ a from fun h => ha (Int.emod_eq_zero_of_dvd h)); clear ha
    have hpe : ∀ n : Nat, fpow p (fof p a) n = fpow p a n := fun n => by simp [fof, fpow, pow_mod]
    have HPE := Lib.hid hpe; clear hpe
    go_enter Tryz.func131, Tryz.ntmps131
    go_wp2_with (go_at_call 40; refine (rof_any _ _ _ hp0 hp2).mono ?_; rintro e w' ⟨rfl, rfl⟩)
    go_loop [5, 6, 7, 8] (fun x5 x6 _ _ => ∃ (B : Int) (i : Nat), x5 = .int .i64 B ∧ x6 = .int .i64 i ∧ 1 ≤ i ∧ i ≤ 46342 ∧ 1 ≤ B ∧ B ≤ p - 1 ∧ Hid (B = p - 1 ↔ OrdUpTo p a i)) (fun _ x6 _ _ => 46343 - (intOf x6).toNat)
    case atStart => exact ⟨_, 1, rfl, rfl, Nat.le_refl _, by omega, by omega, by omega, Lib.hid ⟨fun _ => ordUpTo_start p a, fun _ => rfl⟩⟩
    case round =>
      obtain ⟨B, i, rfl, rfl, hi1, hi2, hB1, hB2, H⟩ := hrel
      have hii : (i : Int) * i ≤ 46342 * 46342 := Int.mul_le_mul (by omega) (by omega) (by omega) (by omega)
      have hii0 : (0 : Int) ≤ (i : Int) * i := Int.mul_nonneg (by omega) (by omega)
      by_cases hgo : (i : Int) * i ≤ p - 1
      · have hi3 : (i : Int) ≤ 46341 := by
          apply Classical.byContradiction
          intro hc
          have : (46342 : Int) * 46342 ≤ (i : Int) * i := Int.mul_le_mul (by omega) (by omega) (by omega) (by omega)
          omega
        have hile : (i : Int) ≤ p - 1 := by
          have : (i : Int) * 1 ≤ (i : Int) * i := Int.mul_le_mul_of_nonneg_left (by omega) (by omega)
          omega
        have hq := int_quo_sub_one (i := i) hp
        have hqn : (p - 1).toNat / i ≤ (p - 1).toNat := Nat.div_le_self _ _
        have hqp : 1 ≤ (p - 1).toNat / i := Nat.div_pos (by omega) (by omega)
        generalize hK : (p - 1).toNat / i = K at hq hqn hqp
        have HK := Lib.hid hK; clear hK
        by_cases hd : i ∣ (p - 1).toNat
        · have hb2 : ((p - 1) % (i : Int) != 0) = false := by rw [bne_eq_false_iff_eq]; exact (int_dvd_sub_one hp).2 hd
          have HD := Lib.hid hd; clear hd
          have hidq : i ≤ (p - 1).toNat := by omega
          have HN := Lib.hid (ord_next hp hB2 hB1 hi1 HD.out HK.out H.out)
          have hKB : (K : Int) ≤ p - 1 := by omega
          have hcast : IntKind.i64.wrap ((p - 1) / (i : Int)) = (K : Int) := by rw [hq]; exact IntWalk.i64_in _ (by omega)
          have PI := HPE.out i
          have PK := HPE.out K
          have next : ∀ (B2 : Int), B2 = upd p a (upd p a B i) K → 1 ≤ B2 → B2 ≤ p - 1 → Hid (B2 = p - 1 ↔ OrdUpTo p a ((i : Int) + 1)) := fun B2 e _ _ => Lib.hid (by rw [e]; exact HN.out)
          have NX := Lib.hid next; clear next HN
          by_cases e1 : fpow p a i = 1
          · have E1 : (fpow p a i == 1) = true := by rw [beq_iff_eq]; exact e1
            by_cases e2 : (i : Int) < B
            · have U1 := upd_yes e1 e2
              by_cases e3 : fpow p a K = 1
              · have E3 : (fpow p a K == 1) = true := by rw [beq_iff_eq]; exact e3
                by_cases e4 : (K : Int) < (i : Int)
                · have V := Lib.hid (show (K : Int) = upd p a (upd p a B i) K by rw [U1, upd_yes e3 e4]); clear U1 e1 e3
                  go_wp2_with (go_at_call 94; refine (rpow_any _ _ _ _ hp0 hp2 (by omega)).mono ?_; rintro e w' ⟨rfl, rfl⟩; (first | rw [PI] | rw [hq, PK] | rw [PK]))
                  go_round
                  case rel => exact ⟨_, i + 1, rfl, by go_num, by omega, by omega, by omega, by omega, NX.out _ V.out (by omega) (by omega)⟩
                  case measure => simp [intOf]; omega
                · have V := Lib.hid (show (i : Int) = upd p a (upd p a B i) K by rw [U1, upd_no2 e4]); clear U1 e1 e3
                  go_wp2_with (go_at_call 94; refine (rpow_any _ _ _ _ hp0 hp2 (by omega)).mono ?_; rintro e w' ⟨rfl, rfl⟩; (first | rw [PI] | rw [hq, PK] | rw [PK]))
                  go_round
                  case rel => exact ⟨_, i + 1, rfl, by go_num, by omega, by omega, by omega, by omega, NX.out _ V.out (by omega) (by omega)⟩
                  case measure => simp [intOf]; omega
              · have E3 : (fpow p a K == 1) = false := by rw [beq_eq_false_iff_ne]; exact e3
                have V := Lib.hid (show (i : Int) = upd p a (upd p a B i) K by rw [U1, upd_no1 e3]); clear U1 e1 e3
                go_wp2_with (go_at_call 94; refine (rpow_any _ _ _ _ hp0 hp2 (by omega)).mono ?_; rintro e w' ⟨rfl, rfl⟩; (first | rw [PI] | rw [hq, PK] | rw [PK]))
                go_round
                case rel => exact ⟨_, i + 1, rfl, by go_num, by omega, by omega, by omega, by omega, NX.out _ V.out (by omega) (by omega)⟩
                case measure => simp [intOf]; omega
            · have U1 := upd_no2 (p := p) (a := a) e2
              by_cases e3 : fpow p a K = 1
              · have E3 : (fpow p a K == 1) = true := by rw [beq_iff_eq]; exact e3
                by_cases e4 : (K : Int) < B
                · have V := Lib.hid (show (K : Int) = upd p a (upd p a B i) K by rw [U1, upd_yes e3 e4]); clear U1 e1 e3
                  go_wp2_with (go_at_call 94; refine (rpow_any _ _ _ _ hp0 hp2 (by omega)).mono ?_; rintro e w' ⟨rfl, rfl⟩; (first | rw [PI] | rw [hq, PK] | rw [PK]))
                  go_round
                  case rel => exact ⟨_, i + 1, rfl, by go_num, by omega, by omega, by omega, by omega, NX.out _ V.out (by omega) (by omega)⟩
                  case measure => simp [intOf]; omega
                · have V := Lib.hid (show B = upd p a (upd p a B i) K by rw [U1, upd_no2 e4]); clear U1 e1 e3
                  go_wp2_with (go_at_call 94; refine (rpow_any _ _ _ _ hp0 hp2 (by omega)).mono ?_; rintro e w' ⟨rfl, rfl⟩; (first | rw [PI] | rw [hq, PK] | rw [PK]))
                  go_round
                  case rel => exact ⟨_, i + 1, rfl, by go_num, by omega, by omega, by omega, by omega, NX.out _ V.out (by omega) (by omega)⟩
                  case measure => simp [intOf]; omega
              · have E3 : (fpow p a K == 1) = false := by rw [beq_eq_false_iff_ne]; exact e3
                have V := Lib.hid (show B = upd p a (upd p a B i) K by rw [U1, upd_no1 e3]); clear U1 e1 e3
                go_wp2_with (go_at_call 94; refine (rpow_any _ _ _ _ hp0 hp2 (by omega)).mono ?_; rintro e w' ⟨rfl, rfl⟩; (first | rw [PI] | rw [hq, PK] | rw [PK]))
                go_round
                case rel => exact ⟨_, i + 1, rfl, by go_num, by omega, by omega, by omega, by omega, NX.out _ V.out (by omega) (by omega)⟩
                case measure => simp [intOf]; omega
          · have E1 : (fpow p a i == 1) = false := by rw [beq_eq_false_iff_ne]; exact e1
            have U1 := upd_no1 (B := B) e1
            by_cases e3 : fpow p a K = 1
            · have E3 : (fpow p a K == 1) = true := by rw [beq_iff_eq]; exact e3
              by_cases e4 : (K : Int) < B
              · have V := Lib.hid (show (K : Int) = upd p a (upd p a B i) K by rw [U1, upd_yes e3 e4]); clear U1 e1 e3
                go_wp2_with (go_at_call 94; refine (rpow_any _ _ _ _ hp0 hp2 (by omega)).mono ?_; rintro e w' ⟨rfl, rfl⟩; (first | rw [PI] | rw [hq, PK] | rw [PK]))
                go_round
                case rel => exact ⟨_, i + 1, rfl, by go_num, by omega, by omega, by omega, by omega, NX.out _ V.out (by omega) (by omega)⟩
                case measure => simp [intOf]; omega
              · have V := Lib.hid (show B = upd p a (upd p a B i) K by rw [U1, upd_no2 e4]); clear U1 e1 e3
                go_wp2_with (go_at_call 94; refine (rpow_any _ _ _ _ hp0 hp2 (by omega)).mono ?_; rintro e w' ⟨rfl, rfl⟩; (first | rw [PI] | rw [hq, PK] | rw [PK]))
                go_round
                case rel => exact ⟨_, i + 1, rfl, by go_num, by omega, by omega, by omega, by omega, NX.out _ V.out (by omega) (by omega)⟩
                case measure => simp [intOf]; omega
            · have E3 : (fpow p a K == 1) = false := by rw [beq_eq_false_iff_ne]; exact e3
              have V := Lib.hid (show B = upd p a (upd p a B i) K by rw [U1, upd_no1 e3]); clear U1 e1 e3
              go_wp2_with (go_at_call 94; refine (rpow_any _ _ _ _ hp0 hp2 (by omega)).mono ?_; rintro e w' ⟨rfl, rfl⟩; (first | rw [PI] | rw [hq, PK] | rw [PK]))
              go_round
              case rel => exact ⟨_, i + 1, rfl, by go_num, by omega, by omega, by omega, by omega, NX.out _ V.out (by omega) (by omega)⟩
              case measure => simp [intOf]; omega
        · have hb2 : ((p - 1) % (i : Int) != 0) = true := by rw [bne_iff_ne]; exact fun h => hd ((int_dvd_sub_one hp).1 h)
          have HD := Lib.hid hd; clear hd
          go_wp2_with fail
          go_round
          case rel => exact ⟨B, i + 1, rfl, by go_num, by omega, by omega, hB1, hB2, Lib.hid ⟨fun h => ordUpTo_step (H.out.1 h) (fun h => absurd h HD.out) (fun h => absurd h HD.out), fun h => H.out.2 (fun d h1 h2 h3 => h d h1 h2 (by omega))⟩⟩
          case measure => simp [intOf]; omega
      · have HG := Lib.hid hgo
        go_wp2_with fail
        go_ret
        exact .mk rfl ⟨fun h => ordUpTo_gen HP.out hp HA.out (by have := HG.out; omega) (by omega) (H.out.1 h), fun h => H.out.2 (gen_ordUpTo hp h _)⟩
set_option maxHeartbeats 1000000 in
theorem rgen_any (p g : Int) (w : World) (hpr : Pr p) (hp : 3 ≤ p) (hp2 : p ≤ 2147483647) (hg : IsGen p g) (hl : ∀ x : Int, 1 ≤ x → x < g → ¬ IsGen p x) (h1 : 1 ≤ g) (h2 : g < p) :
    Calls Tryz.prog 93 #[.int .i64 p] w fun e w' => e = .returned (.int .i64 g) ∧ w = w' := by
  have HP := Lib.hid hpr; have HG := Lib.hid hg; have HL := Lib.hid hl; clear hpr hg hl
  go_enter Tryz.func93, Tryz.ntmps93
  go_wp2
  go_loop [3, 4] (fun x3 _ => ∃ G : Int, x3 = .int .i64 G ∧ 1 ≤ G ∧ G ≤ g) (fun x3 _ => (p - intOf x3).toNat)
  case atStart => exact ⟨1, rfl, by omega, h1⟩
  case round =>
    obtain ⟨G, rfl, hG1, hG2⟩ := hrel
    by_cases hgen : IsGen p G
    · obtain rfl : G = g := by
        rcases Int.lt_or_eq_of_le hG2 with h | h
        · exact absurd hgen (HL.out G hG1 h)
        · exact h
      have HI := Lib.hid hgen; clear hgen
      go_wp2_with (go_at_call 131; refine (rorder_any _ _ _ HP.out hp hp2).mono ?_; rintro e w2 ⟨r, rfl, rfl, hr⟩; have hr2 : (r == p - 1) = true := (by rw [beq_iff_eq]; exact hr.2 HI.out); clear hr)
      go_ret
      exact ⟨rfl, rfl⟩
    · have hGlt : G < g := by
        rcases Int.lt_or_eq_of_le hG2 with h | rfl
        · exact h
        · exact absurd HG.out hgen
      have HI := Lib.hid hgen; clear hgen
      go_wp2_with (go_at_call 131; refine (rorder_any _ _ _ HP.out hp hp2).mono ?_; rintro e w2 ⟨r, rfl, rfl, hr⟩; have hr2 : (r == p - 1) = false := (by rw [beq_eq_false_iff_ne]; exact fun h => HI.out (hr.1 h)); clear hr)
      go_round
      case rel => exact ⟨G + 1, rfl, by omega, by omega⟩
      case measure => simp [intOf]; omega

def froot (p g n : Int) : Int := fpow p g ((p - 1) / n).toNat
set_option maxHeartbeats 1000000 in
theorem rroot_ok (p g n : Int) (w : World) (hpr : Pr p) (hp : 3 ≤ p) (hp2 : p ≤ 2147483647) (hg : IsGen p g) (hl : ∀ x : Int, 1 ≤ x → x < g → ¬ IsGen p x) (h1 : 1 ≤ g) (h2 : g < p) (hn : 1 ≤ n) (hd : (p - 1) % n = 0) :
    Calls Tryz.prog 39 #[.int .i64 p, .int .i64 n] w fun e w' => e = .returned (.int .i64 (froot p g n)) ∧ w = w' := by
  have HP := Lib.hid hpr; have HG := Lib.hid hg; have HL := Lib.hid hl; clear hpr hg hl
  have hb : ((p - 1) % n != 0) = false := by rw [bne_eq_false_iff_eq]; exact hd
  have hq0 : 0 ≤ (p - 1) / n := Int.ediv_nonneg (by omega) (by omega)
  have hq1 : (p - 1) / n ≤ p - 1 := Int.ediv_le_self _ (by omega)
  clear hd
  go_enter Tryz.func39, Tryz.ntmps39
  go_wp2_with (first | (go_at_call 93; refine (rgen_any _ g _ HP.out hp hp2 HG.out HL.out h1 h2).mono ?_; rintro e w2 ⟨rfl, rfl⟩) | (go_at_call 94; refine (rpow_int _ _ _ _ (by omega) hp2 (by omega) (by omega)).mono ?_; rintro e w' ⟨rfl, rfl⟩))
  go_ret; exact ⟨rfl, rfl⟩
end Go.Proofs.YtfepefbehgbjpaaGreatDoor
/-! The document's division: contract. -/
namespace Go.Proofs.YtfepefbehgbjpaaGreatDoor
open Go.RowKit Go.Att

set_option maxHeartbeats 400000 in
theorem rdiv_any (p a b : Int) (w : World) (hp : 2 ≤ p) (hp2 : p ≤ 2147483647) :
    Calls Tryz.prog 178 #[.int .i64 p, .int .i64 a, .int .i64 b] w fun e w' => e = .returned (.int .i64 (fdiv p a b)) ∧ w = w' := by
  go_enter Tryz.func178, Tryz.ntmps178
  go_wp2_with (first | (go_at_call 132; refine (rinv_any _ _ _ hp hp2).mono ?_; rintro e w' ⟨rfl, rfl⟩) | (go_at_call 102; refine (rmul_any _ _ _ _ hp hp2).mono ?_; rintro e w' ⟨rfl, rfl⟩))
  go_ret; exact ⟨ret_int (fdiv_of _ _ _), rfl⟩

end Go.Proofs.YtfepefbehgbjpaaGreatDoor
/-! The program's inverses, powers, roots: contracts. -/
namespace Go.Proofs.YtfepefbehgbjpaaGreatDoor
open Go.RowKit Go.Att

section
variable {w : World} {f : Value} {p g : Int} {fs : List Int}
theorem p_any (hf : Fld w f p g fs) : Calls Tryz.prog 69 #[f] w (Rd w (.int .i64 p)) := by
  obtain ⟨⟨b', v, rfl, hc, -, -, -⟩, -, -, -⟩ := hf
  go_enter Tryz.func69, Tryz.ntmps69
  go_wp2
  go_ret; exact .same rfl
theorem p_q (hf : Fld w f p g fs) (m : Nat) : Calls Tryz.prog 69 #[f] (w.drewN m) fun e w'' => e = .returned (.int .i64 p) ∧ ∃ m, w'' = w.drewN m := Calls.quiet_of (p_any (hf.drewN m))

theorem inv_any (hf : Fld w f p g fs) (a : Int) : Calls Tryz.prog 81 #[f, .int .i64 a] w (Rd w (.int .i64 (finv p a))) := by
  have C := Lib.hid hf
  obtain ⟨⟨b', v, rfl, hc, -, -, -⟩, -, lo, hi⟩ := hf
  go_enter Tryz.func81, Tryz.ntmps81
  go_wp2_with (go_at_call 80; refine (power_int C.out _ _ (by omega) (by omega)).mono ?_; rintro e w' ⟨rfl, m, rfl⟩)
  go_ret; exact .more _ (ret_int (finv_eq _ _))
theorem inv_q (hf : Fld w f p g fs) (a : Int) (m : Nat) : Calls Tryz.prog 81 #[f, .int .i64 a] (w.drewN m) fun e w'' => e = .returned (.int .i64 (finv p a)) ∧ ∃ m, w'' = w.drewN m := Calls.quiet_of (inv_any (hf.drewN m) a)

theorem pow_any (hf : Fld w f p g fs) (a n : Int) (h0 : 0 ≤ n) (hn : n ≤ 9223372036854775807) : Calls Tryz.prog 32 #[f, .int .i64 a, .int .i64 n] w (Rd w (.int .i64 (fpow p a n.toNat))) := by
  have C := Lib.hid hf; clear hf
  go_enter Tryz.func32, Tryz.ntmps32
  go_wp2_with (go_at_call 80; refine (power_int C.out _ _ h0 hn).mono ?_; rintro e w' ⟨rfl, m, rfl⟩)
  go_ret; exact .more _ rfl
theorem pow_q (hf : Fld w f p g fs) (a n : Int) (h0 : 0 ≤ n) (hn : n ≤ 9223372036854775807) (m : Nat) : Calls Tryz.prog 32 #[f, .int .i64 a, .int .i64 n] (w.drewN m) fun e w'' => e = .returned (.int .i64 (fpow p a n.toNat)) ∧ ∃ m, w'' = w.drewN m := Calls.quiet_of (pow_any (hf.drewN m) a n h0 hn)

theorem root_ok (hf : Fld w f p g fs) (n : Int) (hn : 1 ≤ n) (hd : (p - 1) % n = 0) : Calls Tryz.prog 70 #[f, .int .i64 n] w (Rd w (.int .i64 (froot p g n))) := by
  have C := Lib.hid hf
  obtain ⟨⟨b', v, rfl, hc, -, -, hg⟩, -, lo, hi⟩ := hf
  have hb : ((p - 1) % n != 0) = false := by rw [bne_eq_false_iff_eq]; exact hd
  have hq0 : 0 ≤ (p - 1) / n := Int.ediv_nonneg (by omega) (by omega)
  have hq1 : (p - 1) / n ≤ p - 1 := Int.ediv_le_self _ (by omega)
  clear hd
  go_enter Tryz.func70, Tryz.ntmps70
  go_wp2_with fail
  go_quiet ((go_at_call 80; exact power_int_q C.out _ _ hq0 (by omega) _))
  go_wp2_with fail
  go_ret; exact .more _ rfl
end
end Go.Proofs.YtfepefbehgbjpaaGreatDoor
end
section
/-! Domains on both sides: contracts. -/
namespace Go.Att
open Go.RowKit
theorem land_pred (a : Nat) (ha : 0 < a) : a &&& (a - 1) = 0 ↔ ∃ k : Nat, a = 2 ^ k := by
  induction a using Nat.strongRecOn with
  | _ a ih =>
    have h0 : (a &&& (a - 1)) % 2 = 0 := by
      rw [← Nat.and_one_is_mod, Nat.and_assoc, Nat.and_comm (a - 1), ← Nat.and_assoc]
      rcases Nat.mod_two_eq_zero_or_one a with h | h
      · rw [Nat.and_one_is_mod, h, Nat.zero_and]
      · rw [Nat.and_one_is_mod, h, Nat.and_comm, Nat.and_one_is_mod]; omega
    have h1 : (a &&& (a - 1)) / 2 = a / 2 &&& (a - 1) / 2 := Nat.and_div_two
    have h2 : a &&& (a - 1) = 0 ↔ a / 2 &&& (a - 1) / 2 = 0 := by rw [← h1]; omega
    rw [h2]
    rcases Nat.mod_two_eq_zero_or_one a with h | h
    · obtain ⟨b, rfl⟩ : ∃ b, a = 2 * b := ⟨a / 2, by omega⟩
      rw [show 2 * b / 2 = b by omega, show (2 * b - 1) / 2 = b - 1 by omega, ih b (by omega) (by omega)]
      constructor
      · rintro ⟨k, rfl⟩; exact ⟨k + 1, by rw [Nat.pow_succ]; omega⟩
      · rintro ⟨k, hk⟩
        cases k with
        | zero => rw [Nat.pow_zero] at hk; omega
        | succ k => exact ⟨k, by rw [Nat.pow_succ] at hk; omega⟩
    · rw [show (a - 1) / 2 = a / 2 by omega, Nat.and_self]
      constructor
      · intro h3; exact ⟨0, by rw [Nat.pow_zero]; omega⟩
      · rintro ⟨k, hk⟩
        cases k with
        | zero => rw [Nat.pow_zero] at hk; omega
        | succ k => rw [Nat.pow_succ] at hk; omega
def twoUp (k : Nat) (n : Int) : Bool := (List.range k).any fun j => (2 : Int) ^ j == n
def twoB (n : Int) : Bool := twoUp 17 n
theorem twoUp_succ (k : Nat) (n : Int) : twoUp (k + 1) n = (twoUp k n || (2 : Int) ^ k == n) := by simp [twoUp, List.range_succ]
theorem pow17 {k : Nat} (h : k < 17) : (1 : Int) ≤ 2 ^ k ∧ (2 : Int) ^ k ≤ 65536 := by
  have h1 : (2 : Nat) ^ k ≤ 2 ^ 16 := Nat.pow_le_pow_right (by decide) (by omega)
  have h2 : 1 ≤ (2 : Nat) ^ k := Nat.one_le_two_pow
  have : ((2 : Nat) ^ k : Nat) = (2 : Int) ^ k := by simp
  omega
theorem twoB_bd {n : Int} (h : twoB n = true) : 1 ≤ n ∧ n ≤ 65536 := by
  simp only [twoB, twoUp, List.any_eq_true, List.mem_range, beq_iff_eq] at h
  obtain ⟨k, hk, rfl⟩ := h
  exact pow17 hk
theorem twoB_iff {n : Int} (h1 : 1 ≤ n) (h2 : n ≤ 65536) : (bits .and .i64 n (n - 1) != 0) = !twoB n := by
  obtain ⟨a, rfl⟩ := Int.eq_ofNat_of_zero_le (show 0 ≤ n by omega)
  rw [show ((a : Int) - 1) = ((a - 1 : Nat) : Int) by omega, i64_and_nat _ _ (by omega) (by omega)]
  have h3 := land_pred a (by omega)
  by_cases hk : ∃ k : Nat, a = 2 ^ k
  · have : twoB a = true := by
      obtain ⟨k, rfl⟩ := hk
      simp only [twoB, twoUp, List.any_eq_true, List.mem_range, beq_iff_eq]
      refine ⟨k, ?_, by simp⟩
      apply Classical.byContradiction
      intro hc
      have : (2 : Nat) ^ 17 ≤ 2 ^ k := Nat.pow_le_pow_right (by decide) (by omega)
      omega
    rw [this, bne_eq_false_iff_eq.2 (by rw [h3.2 hk]; rfl)]; rfl
  · have : twoB a = false := by
      rw [Bool.eq_false_iff]
      intro hc
      simp only [twoB, twoUp, List.any_eq_true, List.mem_range, beq_iff_eq] at hc
      obtain ⟨k, _, e⟩ := hc
      exact hk ⟨k, by have : ((2 ^ k : Nat) : Int) = (2 : Int) ^ k := by simp
                      omega⟩
    rw [this, bne_iff_ne.2 (fun e => hk (h3.1 (by omega)))]; rfl
def domErr (p n sh : Int) : Int := if twoB n = true ∧ (p - 1) % n = 0 then (if fof p sh = 0 then 3 else 0) else 2
theorem domErr_two {p n sh : Int} (h : ¬ (twoB n = true ∧ (p - 1) % n = 0)) : domErr p n sh = 2 := if_neg h
theorem domErr_three {p n sh : Int} (h : twoB n = true ∧ (p - 1) % n = 0) (h2 : fof p sh = 0) : domErr p n sh = 3 := by unfold domErr; rw [if_pos h, if_pos h2]
theorem domErr_zero {p n sh : Int} (h : twoB n = true ∧ (p - 1) % n = 0) (h2 : fof p sh ≠ 0) : domErr p n sh = 0 := by unfold domErr; rw [if_pos h, if_neg h2]
theorem domErr_ok {p n sh : Int} (h : domErr p n sh = 0) : twoB n = true ∧ (p - 1) % n = 0 ∧ fof p sh ≠ 0 := by
  unfold domErr at h
  split at h
  · rename_i h1
    split at h
    · omega
    · exact ⟨h1.1, h1.2, by assumption⟩
  · omega
structure DomOf (w : World) (d f : Value) (n sh r : Int) : Prop where
  at_ : ∃ b, d = .pointer (some ⟨b, 0, none⟩) ∧ w.cell? ⟨b, 0, none⟩ = some f ∧ w.cell? ⟨b, 1, none⟩ = some (.int .i64 n) ∧ w.cell? ⟨b, 2, none⟩ = some (.int .i64 sh) ∧ w.cell? ⟨b, 3, none⟩ = some (.int .i64 r)
theorem DomOf.ext {w w' : World} {d f : Value} {n sh r : Int} (h : DomOf w d f n sh r) (hx : Ext w w') : DomOf w' d f n sh r := by
  obtain ⟨b, h1, h2, h3, h4, h5⟩ := h
  exact ⟨⟨b, h1, hx.cell h2, hx.cell h3, hx.cell h4, hx.cell h5⟩⟩
theorem DomOf.ptr {w : World} {d f : Value} {n sh r : Int} (h : DomOf w d f n sh r) : ∃ b, d = .pointer (some ⟨b, 0, none⟩) := by
  obtain ⟨b, h1, _⟩ := h; exact ⟨b, h1⟩
theorem DomOf.drewN {w : World} {d f : Value} {n sh r : Int} (h : DomOf w d f n sh r) (m : Nat) : DomOf (w.drewN m) d f n sh r := h.ext (Ext.drewN _ _)
def ptAt (p sh r : Int) (i : Nat) : Int := sh * r ^ i % p
theorem ptAt_zero {p sh r : Int} (h : 0 ≤ sh ∧ sh < p) : ptAt p sh r 0 = sh := by unfold ptAt; rw [Int.pow_zero, Int.mul_one, Int.emod_eq_of_lt h.1 h.2]
theorem ptAt_succ (p sh r : Int) (i : Nat) : fmul p (ptAt p sh r i) r = ptAt p sh r (i + 1) := by
  unfold fmul ptAt
  rw [Int.mul_emod, Int.emod_emod, ← Int.mul_emod, Int.pow_succ, Int.mul_assoc]
theorem ptAt_pow (p sh r : Int) (i : Nat) : fmul p (fpow p r i) sh = ptAt p sh r i := by
  unfold fmul ptAt fpow
  rw [Int.mul_emod, Int.emod_emod, ← Int.mul_emod, Int.mul_comm]
def points (p sh r : Int) (n : Nat) : List Int := (List.range n).map (ptAt p sh r)
theorem points_length (p sh r : Int) (n : Nat) : (points p sh r n).length = n := by simp [points]
theorem points_succ (p sh r : Int) (n : Nat) : (points p sh r (n + 1)).map (Value.int .i64) = (points p sh r n).map (Value.int .i64) ++ [.int .i64 (ptAt p sh r n)] := by simp [points, List.range_succ]
end Go.Att
namespace Go.Proofs.YtfepefbehgbjpaaGreatDoor
open Go.RowKit Go.Att

set_option maxHeartbeats 1000000 in
theorem rfault_any (p n sh : Int) (w : World) (hp : 3 ≤ p) (hp2 : p ≤ 2147483647) :
    Calls Tryz.prog 21 #[.int .i64 p, .int .i64 n, .int .i64 sh] w fun e w' => e = .returned (.int .i64 (domErr p n sh)) ∧ w = w' := by
  go_enter Tryz.func21, Tryz.ntmps21
  go_wp2
  go_loop [7, 8] (fun x7 x8 => ∃ k : Nat, k ≤ 17 ∧ x7 = .bool (twoUp k n) ∧ x8 = .int .i64 ((2 : Int) ^ k)) (fun _ x8 => (131072 - intOf x8).toNat)
  case atStart => exact ⟨0, by omega, rfl, rfl⟩
  case round =>
    obtain ⟨k, hk, rfl, rfl⟩ := hrel
    by_cases hk2 : k < 17
    · have hb := pow17 hk2
      have hs := twoUp_succ k n
      have hp2 : (2 : Int) ^ (k + 1) = 2 ^ k * 2 := Int.pow_succ _ _
      generalize (2 : Int) ^ k = N at hb hs hp2 ⊢
      generalize twoUp k n = B at hs ⊢
      have HS := Lib.hid hs; have HP := Lib.hid hp2; clear hs hp2
      cases B
      · go_wp2
        go_round
        case rel => exact ⟨k + 1, by omega, by rw [HS.out, Bool.false_or], by rw [HP.out]⟩
        case measure => simp [intOf]; omega
      · go_wp2
        go_round
        case rel => exact ⟨k + 1, by omega, by rw [HS.out, Bool.true_or], by rw [HP.out]⟩
        case measure => simp [intOf]; omega
    · obtain rfl : k = 17 := by omega
      have e : (2 : Int) ^ 17 = 131072 := by decide
      rw [e]
      by_cases h2 : twoUp 17 n = true
      · have hbd := twoB_bd h2
        rw [h2]
        by_cases hd : (p - 1) % n = 0
        · have hdb : ((p - 1) % n != 0) = false := by rw [bne_eq_false_iff_eq]; exact hd
          have HD := Lib.hid (show twoB n = true ∧ (p - 1) % n = 0 from ⟨h2, hd⟩); clear hd h2
          by_cases hz : fof p sh = 0
          · have hzb : (fof p sh == 0) = true := by rw [beq_iff_eq]; exact hz
            have HZ := Lib.hid (domErr_three HD.out hz); clear hz
            go_wp2_with (go_at_call 40; refine (rof_any _ _ _ (by omega) hp2).mono ?_; rintro e w' ⟨rfl, rfl⟩)
            go_ret
            exact ⟨ret_int HZ.out.symm, rfl⟩
          · have hzb : (fof p sh == 0) = false := by rw [beq_eq_false_iff_ne]; exact hz
            have HZ := Lib.hid (domErr_zero HD.out hz); clear hz
            go_wp2_with (go_at_call 40; refine (rof_any _ _ _ (by omega) hp2).mono ?_; rintro e w' ⟨rfl, rfl⟩)
            go_ret
            exact ⟨ret_int HZ.out.symm, rfl⟩
        · have hdb : ((p - 1) % n != 0) = true := by rw [bne_iff_ne]; exact hd
          have HZ := Lib.hid (domErr_two (p := p) (sh := sh) (fun h => hd h.2)); clear hd h2
          go_wp2_with fail
          go_ret
          exact ⟨ret_int HZ.out.symm, rfl⟩
      · have HZ := Lib.hid (domErr_two (p := p) (sh := sh) (fun h => h2 h.1))
        have h3 : twoUp 17 n = false := by simpa using h2
        clear h2
        rw [h3]
        clear h3
        go_wp2_with fail
        go_ret
        exact ⟨ret_int HZ.out.symm, rfl⟩

theorem size_any {w : World} {d f : Value} {n sh r : Int} (h : DomOf w d f n sh r) : Calls Tryz.prog 37 #[d] w (Rd w (.int .i64 n)) := by
  obtain ⟨b, rfl, h1, h2, h3, h4⟩ := h
  go_enter Tryz.func37, Tryz.ntmps37
  go_wp2
  go_ret; exact .same rfl
theorem size_q {w : World} {d f : Value} {n sh r : Int} (h : DomOf w d f n sh r) (m : Nat) : Calls Tryz.prog 37 #[d] (w.drewN m) fun e w'' => e = .returned (.int .i64 n) ∧ ∃ m, w'' = w.drewN m := Calls.quiet_of (size_any (h.drewN m))
theorem dfield_any {w : World} {d : Value} {b : Addr} {n sh r : Int} (h : DomOf w d (.pointer (some b)) n sh r) : Calls Tryz.prog 109 #[d] w (Rd w (.pointer (some b))) := by
  obtain ⟨b, rfl, h1, h2, h3, h4⟩ := h
  go_enter Tryz.func109, Tryz.ntmps109
  go_wp2
  go_ret; exact .same rfl
set_option maxHeartbeats 1000000 in
theorem dnew_bad {w : World} {f : Value} {p g : Int} {fs : List Int} (hf : Fld w f p g fs) (n sh : Int) (hE : domErr p n sh ≠ 0) :
    Calls Tryz.prog 20 #[f, .int .i64 n, .int .i64 sh] w (Rd w (.tuple #[.pointer none, errv (domErr p n sh)])) := by
  have lo := hf.lo; have hi := hf.hi
  have C := Lib.hid hf; clear hf
  by_cases h2 : twoB n = true
  · have hbd := twoB_bd h2
    have hm : (bits BinOp.and IntKind.i64 n (n - 1) != 0) = false := by rw [twoB_iff hbd.1 hbd.2, h2]; rfl
    by_cases hd : (p - 1) % n = 0
    · have hdb : ((p - 1) % n != 0) = false := by rw [bne_eq_false_iff_eq]; exact hd
      have hz : fof p sh = 0 := Classical.byContradiction fun h => hE (domErr_zero ⟨h2, hd⟩ h)
      have hzb : (fof p sh == 0) = true := by rw [beq_iff_eq]; exact hz
      rw [domErr_three ⟨h2, hd⟩ hz, errv_pos (by decide)]
      clear hE h2 hd hz
      go_enter Tryz.func20, Tryz.ntmps20
      go_wp2_with (first | (go_at_call 69; refine (p_any C.out).mono ?_; rintro e w' ⟨rfl, m, rfl⟩) | (go_at_call 66; refine (of_any (C.out.drewN _) _).mono ?_; rintro e w' ⟨rfl, m2, rfl⟩))
      go_ret2
      exact .more _ rfl
    · have hdb : ((p - 1) % n != 0) = true := by rw [bne_iff_ne]; exact hd
      rw [domErr_two (fun h => hd h.2), errv_pos (by decide)]
      clear hE h2 hd
      go_enter Tryz.func20, Tryz.ntmps20
      go_wp2_with (go_at_call 69; refine (p_any C.out).mono ?_; rintro e w' ⟨rfl, m, rfl⟩)
      go_ret2
      exact .more _ rfl
  · rw [domErr_two (fun h => h2 h.1), errv_pos (by decide)]
    by_cases h1 : n < 1
    · clear hE h2
      go_enter Tryz.func20, Tryz.ntmps20
      go_wp2_with fail
      go_ret2
      exact .same rfl
    · by_cases h3 : 65536 < n
      · clear hE h2
        go_enter Tryz.func20, Tryz.ntmps20
        go_wp2_with fail
        go_ret2
        exact .same rfl
      · have hm : (bits BinOp.and IntKind.i64 n (n - 1) != 0) = true := by rw [twoB_iff (by omega) (by omega)]; simp [h2]
        clear hE h2
        go_enter Tryz.func20, Tryz.ntmps20
        go_wp2_with fail
        go_ret2
        exact .same rfl

set_option maxHeartbeats 1000000 in
theorem dnew_ok {w : World} {f : Value} {p g : Int} (hf : FieldOf w f p g) (n sh : Int) (hE : domErr p n sh = 0) :
    Calls Tryz.prog 20 #[f, .int .i64 n, .int .i64 sh] w (Gives w fun v w' => ∃ d, v = .tuple #[d, .nilIface] ∧ DomOf w' d f n (fof p sh) (froot p g n)) := by
  obtain ⟨fs, hf1⟩ := hf.fld
  have lo := hf1.lo; have hi := hf1.hi
  obtain ⟨bf, rfl⟩ := hf.ptr
  obtain ⟨h2, hd, hz⟩ := domErr_ok hE
  have C := Lib.hid hf1; have HF := Lib.hid hf; clear hf hf1
  have hbd := twoB_bd h2
  have hm : (bits BinOp.and IntKind.i64 n (n - 1) != 0) = false := by rw [twoB_iff hbd.1 hbd.2, h2]; rfl
  have hdb : ((p - 1) % n != 0) = false := by rw [bne_eq_false_iff_eq]; exact hd
  have hzb : (fof p sh == 0) = false := by rw [beq_eq_false_iff_ne]; exact hz
  have HD := Lib.hid hd
  clear hE h2 hd hz
  go_enter Tryz.func20, Tryz.ntmps20
  go_wp2_with (first | (go_at_call 69; refine (p_any C.out).mono ?_; rintro e w' ⟨rfl, m, rfl⟩) | (go_at_call 66; refine (of_any (C.out.drewN _) _).mono ?_; rintro e w' ⟨rfl, m2, rfl⟩) | (go_at_call 70; refine (root_ok (C.out.drewN _) _ hbd.1 HD.out).mono ?_; rintro e w' ⟨rfl, m2, rfl⟩))
  go_ret2
  refine .mk _ rfl ((Ext.drewN _ _).trans (Ext.alloc _ _)) ⟨.pointer (some ⟨w.heap.size, 0, none⟩), rfl, ⟨⟨w.heap.size, rfl, ?_, ?_, ?_, ?_⟩⟩⟩
  all_goals (rw [cell_newN]; rfl)

end Go.Proofs.YtfepefbehgbjpaaGreatDoor
/-! Words made one, on both sides: contracts. -/
namespace Go.Att
open Go.RowKit
def bs (l : List Int) (g h : Int) : Nat → Int
  | 0 => 0
  | j + 1 => bs l g h j + g ^ (2 * j + 1) * nth l j + g ^ (2 * j + 2) * nth l j * h
end Go.Att
namespace Go.Proofs.YtfepefbehgbjpaaGreatDoor
open Go.RowKit Go.Att

set_option maxRecDepth 100000 in
set_option maxHeartbeats 1000000 in
theorem r2new_any (p g n sh : Int) (w : World) (hpr : Pr p) (hp : 3 ≤ p) (hp2 : p ≤ 2147483647) (hg : IsGen p g) (hl : ∀ x : Int, 1 ≤ x → x < g → ¬ IsGen p x) (h1 : 1 ≤ g) (h2 : g < p) (hE : domErr p n sh = 0) :
    Calls Tryz.prog 7 #[.int .i64 p, .int .i64 n, .int .i64 sh] w (Gives w fun v _ => v = .agg #[.int .i64 p, .int .i64 n, .int .i64 (fof p sh), .int .i64 (froot p g n)]) := by
  obtain ⟨h3, h4, -⟩ := domErr_ok hE
  have hbd := twoB_bd h3
  have C := Lib.hid (fun W => rroot_ok p g n W hpr hp hp2 hg hl h1 h2 hbd.1 h4)
  clear hpr hg hl hE h4
  go_enter Tryz.func7, Tryz.ntmps7
  go_wp2_with (first | (go_at_call 39; refine (C.out _).mono ?_; rintro e w2 ⟨rfl, rfl⟩) | (go_at_call 40; refine (rof_any _ _ _ (by omega) hp2).mono ?_; rintro e w' ⟨rfl, rfl⟩))
  (try simp only [Exit.inBlock, Exit.then]); refine bodyPost_ret (results_cell_row rfl _ _ w.heap.size 39 _ _ _ rfl (heap_alloc_new _ _) Tryz.underlying39 rfl (by kernel_rfl)) rfl ?_
  exact .mk _ rfl (Ext.alloc _ _) rfl

end Go.Proofs.YtfepefbehgbjpaaGreatDoor
end
