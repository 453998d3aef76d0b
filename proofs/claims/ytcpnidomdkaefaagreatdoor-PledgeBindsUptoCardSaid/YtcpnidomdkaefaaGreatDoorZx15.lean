/- The primes that divide a number: the loop's plain law, and the contract. errors.As at the target *api.Errno, and what tells an error's number: contracts (turned from the guide's worked example ToyasAs). The making of a field: contract. Words for worlds: a slice that the call grows, whose elements may hold slices made meanwhile. No program in sight. -/
import Derived.Test.YtcpnidomdkaefaaGreatDoorZx5
import Derived.Test.YtcpnidomdkaefaaGreatDoorVc
import Derived.Test.YtcpnidomdkaefaaGreatDoorProg
import Derived.LaidEql
import Derived.Stop.Asserts
import Derived.RowKitTokens
section
/-! The primes that divide a number: the loop's plain law, and the contract. -/
namespace Go.Att
/-- What holds as primes are taken out. -/
structure PInv (N0 N D : Nat) (fs : List Int) : Prop where
  pos : 1 ≤ N
  dvd : N ∣ N0
  small : ∀ d, 2 ≤ d → d < D → ¬ d ∣ N
  mem : ∀ x ∈ fs, 2 ≤ x ∧ x ∣ (N0 : Int)
  cov : ∀ q, PrN q → q ∣ N0 → (q : Int) ∈ fs ∨ q ∣ N
  len : fs.length + 2 ≤ D
  two : 2 ≤ D
theorem PrN.euclid {q a b : Nat} (h : PrN q) (hd : q ∣ a * b) : q ∣ a ∨ q ∣ b := by
  by_cases ha : q ∣ a
  · exact .inl ha
  · exact .inr (Nat.Coprime.dvd_of_dvd_mul_left (h.coprime ha) hd)
theorem PInv.start {N0 : Nat} (h : 1 ≤ N0) : PInv N0 N0 2 [] := ⟨h, Nat.dvd_refl _, fun d h1 h2 => by omega, by simp, fun q _ h => .inr h, by simp, by omega⟩
theorem PInv.skip {N0 N D : Nat} {fs : List Int} (h : PInv N0 N D fs) (hd : ¬ D ∣ N) : PInv N0 N (D + 1) fs :=
  ⟨h.pos, h.dvd, fun d h1 h2 => by rcases Nat.lt_or_eq_of_le (show d ≤ D by omega) with h3 | rfl; exact h.small d h1 h3; exact hd, h.mem, h.cov, by have := h.len; omega, by have := h.two; omega⟩
/-- The inner loop: M is N without some of its factors D. -/
def PIn (N D M : Nat) : Prop := 1 ≤ M ∧ M ∣ N ∧ ∀ q, PrN q → q ∣ N → q = D ∨ q ∣ M
theorem PIn.start {N D : Nat} (h : 1 ≤ N) : PIn N D N := ⟨h, Nat.dvd_refl _, fun _q _ h => .inr h⟩
theorem PIn.step {N0 N D M : Nat} {fs : List Int} (hp : PInv N0 N D fs) (h : PIn N D M) (hd : D ∣ M) : PIn N D (M / D) := by
  obtain ⟨h1, h2, h3⟩ := h
  have htwo := hp.two
  obtain ⟨k, rfl⟩ := hd
  have e : D * k / D = k := Nat.mul_div_cancel_left k (by omega)
  rw [e]
  refine ⟨?_, Nat.dvd_trans ⟨D, Nat.mul_comm _ _⟩ h2, fun q hq hqN => ?_⟩
  · rcases Nat.eq_zero_or_pos k with rfl | h0
    · omega
    · exact h0
  · rcases h3 q hq hqN with h4 | h4
    · exact .inl h4
    · rcases hq.euclid h4 with h5 | h5
      · left
        rcases Nat.lt_or_ge q D with h6 | h6
        · exact absurd hqN (hp.small q hq.1 h6)
        · have := Nat.le_of_dvd (by omega) h5; omega
      · exact .inr h5
theorem PInv.take {N0 N D M : Nat} {fs : List Int} (hp : PInv N0 N D fs) (hD : D ∣ N) (h : PIn N D M) (hd : ¬ D ∣ M) : PInv N0 M (D + 1) (fs ++ [(D : Int)]) := by
  obtain ⟨h1, h2, h3⟩ := h
  refine ⟨h1, Nat.dvd_trans h2 hp.dvd, fun d k1 k2 k3 => ?_, fun x hx => ?_, fun q hq hqN => ?_, by have := hp.len; simp; omega, by have := hp.two; omega⟩
  · rcases Nat.lt_or_eq_of_le (show d ≤ D by omega) with h4 | rfl
    · exact hp.small d k1 h4 (Nat.dvd_trans k3 h2)
    · exact hd k3
  · rcases List.mem_append.1 hx with h4 | h4
    · exact hp.mem x h4
    · simp at h4; subst h4
      exact ⟨by have := hp.two; omega, Int.natCast_dvd_natCast.2 (Nat.dvd_trans hD hp.dvd)⟩
  · rcases hp.cov q hq hqN with h4 | h4
    · exact .inl (by simp [h4])
    · rcases h3 q hq h4 with rfl | h5
      · exact .inl (by simp)
      · exact .inr h5
/-- All of them. -/
def PrimesOf (N0 : Nat) (fs : List Int) : Prop := (∀ x ∈ fs, 2 ≤ x ∧ x ∣ (N0 : Int)) ∧ ∀ q, PrN q → q ∣ N0 → (q : Int) ∈ fs
theorem PInv.end_one {N0 N D : Nat} {fs : List Int} (hp : PInv N0 N D fs) (h : N ≤ 1) : PrimesOf N0 fs := by
  refine ⟨hp.mem, fun q hq hqN => (hp.cov q hq hqN).resolve_right fun hd => ?_⟩
  have := Nat.le_of_dvd hp.pos hd
  have := hq.1; omega
theorem PInv.end_more {N0 N D : Nat} {fs : List Int} (hp : PInv N0 N D fs) (h : 1 < N) (hs : N < D * D) : PrimesOf N0 (fs ++ [(N : Int)]) := by
  refine ⟨fun x hx => ?_, fun q hq hqN => ?_⟩
  · rcases List.mem_append.1 hx with h4 | h4
    · exact hp.mem x h4
    · simp at h4; subst h4
      exact ⟨by omega, Int.natCast_dvd_natCast.2 hp.dvd⟩
  · rcases hp.cov q hq hqN with h4 | ⟨m, hm⟩
    · simp [h4]
    · have hqD : D ≤ q := Nat.le_of_not_lt fun hlt => hp.small q hq.1 hlt ⟨m, hm⟩
      have hm1 : m = 1 := by
        rcases Nat.lt_trichotomy m 1 with h1 | h1 | h1
        · have : m = 0 := by omega
          subst this; omega
        · exact h1
        · have hmD : D ≤ m := Nat.le_of_not_lt fun hlt => hp.small m h1 hlt ⟨q, by rw [hm, Nat.mul_comm]⟩
          have := Nat.mul_le_mul hqD hmD
          omega
      subst hm1
      simp at hm; subst hm; simp
end Go.Att
namespace Go.Proofs.YtcpnidomdkaefaaGreatDoor
open Go.RowKit Go.Att
theorem sq_le_nat {k p : Nat} (h : k * k ≤ p) (hp : p ≤ 2147483647) : k ≤ 46340 := by
  rcases Nat.lt_or_ge 46340 k with h1 | h1
  · have : 46341 * 46341 ≤ k * k := Nat.mul_le_mul h1 h1
    omega
  · exact h1

set_option maxHeartbeats 2000000 in
theorem primes_any (N0 : Nat) (w : World) (h1 : 1 ≤ N0) (h4 : N0 ≤ 2147483647) :
    Calls Tryz.prog 162 #[.int .i64 N0] w (Gives w fun v w' => ∃ fs, Ints w' v fs ∧ PrimesOf N0 fs) := by
  go_enter Tryz.func162, Tryz.ntmps162
  go_wp2
  go_loopw [0, 3, 4] (fun x0 x3 x4 wr => ∃ (N D : Nat) (fs : List Int), x0 = .int .i64 N ∧ x4 = .int .i64 D ∧ N ≤ 2147483647 ∧ D ≤ 46341 ∧ Hid (PInv N0 N D fs) ∧ wr.ownsRow w.heap.size 3 1 x3 fs.length (fs.map (Value.int .i64)) ∧ Ext w wr) (fun _ _ x4 _ => (46341 - intOf x4).toNat)
  case atStart => exact ⟨N0, 2, [], rfl, rfl, h4, by omega, Lib.hid (PInv.start h1), World.ownsRow_nil _ _ _ _, Ext.refl _⟩
  case round =>
    obtain ⟨N, D, fs, rfl, rfl, hN, hD, H, HO, HX⟩ := hrel
    have hpos := H.out.pos
    have htwo := H.out.two
    have hlen := H.out.len
    have hs := sq_bd (show 0 ≤ (D : Int) by omega) (by omega)
    by_cases hle : (D : Int) * D ≤ N
    · have hD4 := sq_le_nat (show D * D ≤ N by exact_mod_cast hle) (by omega)
      by_cases hd : D ∣ N
      · have hm : ((N : Int) % D != 0) = false := by rw [bne_eq_false_iff_eq]; exact Int.emod_eq_zero_of_dvd (Int.natCast_dvd_natCast.2 hd)
        go_wp2_with (at_builtin; refine wpList_app1 rfl _ _ 22 rfl slInts rfl HX HO rfl _ rfl rfl (by omega) (by omega) ?_; intro v' w1 HO' HX' _)
        go_loop [0] (fun x0 => ∃ M : Nat, x0 = .int .i64 M ∧ M ≤ 2147483647 ∧ Hid (PIn N D M)) (fun x0 => (intOf x0).toNat)
        case atStart => exact ⟨N, rfl, hN, Lib.hid (PIn.start hpos)⟩
        case round =>
          obtain ⟨M, rfl, hM, HM⟩ := hrel
          have hM1 := HM.out.1
          by_cases hdM : D ∣ M
          · have hm2 : ((M : Int) % D == 0) = true := by rw [beq_iff_eq]; exact Int.emod_eq_zero_of_dvd (Int.natCast_dvd_natCast.2 hdM)
            have hlt : M / D < M := Nat.div_lt_self (by omega) (by omega)
            have hb : 0 ≤ (M : Int) / D ∧ (M : Int) / D ≤ 2147483647 := ⟨Int.ediv_nonneg (by omega) (by omega), Int.le_trans (Int.ediv_le_self _ (by omega)) (by omega)⟩
            have HN := Lib.hid (PIn.step H.out HM.out hdM)
            clear hm hd hdM
            go_wp2
            go_round
            case rel => exact ⟨M / D, by simp, by omega, HN⟩
            case measure => simp [intOf]; omega
          · have hm2 : ((M : Int) % D == 0) = false := by rw [beq_eq_false_iff_ne]; exact fun h => hdM (Int.natCast_dvd_natCast.1 (Int.dvd_of_emod_eq_zero h))
            have HN := Lib.hid (PInv.take H.out hd HM.out hdM)
            clear hm hd hdM
            go_wp2
            go_roundw
            case rel => exact ⟨M, D + 1, fs ++ [(D : Int)], rfl, by go_num, by omega, by omega, HN, by simpa using HO', HX'⟩
            case measure => simp [intOf]; omega
      · have hm : ((N : Int) % D != 0) = true := by rw [bne_iff_ne]; exact fun h => hd (Int.natCast_dvd_natCast.1 (Int.dvd_of_emod_eq_zero h))
        have HN := Lib.hid (PInv.skip H.out hd)
        clear hd
        go_wp2
        go_roundw
        case rel => exact ⟨N, D + 1, fs, rfl, by go_num, by omega, by omega, HN, HO, HX⟩
        case measure => simp [intOf]; omega
    · have hs2 : N < D * D := by
        rcases Nat.lt_or_ge N (D * D) with h | h
        · exact h
        · exact absurd (by exact_mod_cast h) hle
      by_cases h1 : (1 : Int) < N
      · have HE := Lib.hid (PInv.end_more H.out (by omega) hs2)
        clear hs2
        go_wp2_with (at_builtin; refine wpList_app1 rfl _ _ 22 rfl slInts rfl HX HO rfl _ rfl rfl (by omega) (by omega) ?_; intro v' w1 HO' HX' _)
        go_ret
        exact .mk _ rfl HX' ⟨fs ++ [(N : Int)], Ints.of_own (by simpa using HO'), HE.out⟩
      · have HE := Lib.hid (PInv.end_one H.out (by omega))
        clear hs2
        go_wp2
        go_ret
        exact .mk _ rfl HX ⟨fs, Ints.of_own HO, HE.out⟩
end Go.Proofs.YtcpnidomdkaefaaGreatDoor
/-! Whether an element makes all others: the plain law, and the contract. -/
namespace Go.Att
/-- a is no witness against d. -/
def Wit (p a : Int) (d : Int) : Prop := a ^ ((p - 1).toNat / d.toNat) % p ≠ 1
/-- What holds of n when the first i factors have been looked at. -/
structure OInv (p a : Int) (fs : List Int) (i N : Nat) : Prop where
  pos : 1 ≤ N
  dvd : N ∣ (p - 1).toNat
  iff : N = (p - 1).toNat ↔ ∀ j, j < i → Wit p a (nth fs j)
/-- .. within the loop over one factor. -/
def OIn (p a : Int) (fs : List Int) (i N M : Nat) : Prop := 1 ≤ M ∧ M ∣ (p - 1).toNat ∧ (M = N ∨ M < N ∧ ¬ ∀ j, j < i + 1 → Wit p a (nth fs j))
section
variable {p a : Int} {fs : List Int}
theorem OInv.start (h : 1 ≤ (p - 1).toNat) : OInv p a fs 0 (p - 1).toNat := ⟨h, Nat.dvd_refl _, by simp⟩
theorem OIn.start {i N : Nat} (h : OInv p a fs i N) : OIn p a fs i N N := ⟨h.pos, h.dvd, .inl rfl⟩
theorem OIn.step {i N M D : Nat} (h : OInv p a fs i N) (_hq : 1 ≤ (p - 1).toNat) (hi : OIn p a fs i N M) (hD2 : 2 ≤ D) (hD : (D : Int) = nth fs i) (hdv : D ∣ M) (h1 : a ^ (M / D) % p = 1) : OIn p a fs i N (M / D) := by
  obtain ⟨h2, h3, h4⟩ := hi
  have hlt : M / D < M := Nat.div_lt_self (by omega) (by omega)
  have hpos : 1 ≤ M / D := Nat.div_pos (Nat.le_of_dvd (by omega) hdv) (by omega)
  refine ⟨hpos, Nat.dvd_trans ⟨D, (Nat.div_mul_cancel hdv).symm⟩ h3, .inr ?_⟩
  rcases h4 with rfl | ⟨h5, h6⟩
  · refine ⟨hlt, fun hall => ?_⟩
    have hM : M = (p - 1).toNat := h.iff.2 fun j hj => hall j (by omega)
    have hw := hall i (by omega)
    unfold Wit at hw
    rw [← hD, ← hM, Int.toNat_natCast] at hw
    exact hw h1
  · exact ⟨by omega, h6⟩
theorem OIn.done {i N M D : Nat} (h : OInv p a fs i N) (hi : OIn p a fs i N M) (hD : (D : Int) = nth fs i) (hDq : D ∣ (p - 1).toNat) (hex : D ∣ M → a ^ (M / D) % p ≠ 1) : OInv p a fs (i + 1) M := by
  obtain ⟨h2, h3, h4⟩ := hi
  refine ⟨h2, h3, ?_⟩
  rcases h4 with rfl | ⟨h5, h6⟩
  · constructor
    · intro hM j hj
      rcases Nat.lt_or_eq_of_le (show j ≤ i by omega) with hj | rfl
      · exact h.iff.1 hM j hj
      · unfold Wit
        rw [← hD, Int.toNat_natCast, ← hM]
        exact hex (hM ▸ hDq)
    · intro hall; exact h.iff.2 fun j hj => hall j (by omega)
  · constructor
    · intro hM; exfalso; have := Nat.le_of_dvd (by have := h.pos; have := Nat.le_of_dvd (n := (p - 1).toNat) (m := M); omega) h.dvd; omega
    · intro hall; exact absurd hall h6
end
end Go.Att
namespace Go.Proofs.YtcpnidomdkaefaaGreatDoor
open Go.RowKit Go.Att

section
variable {w : World} {f : Value} {p g : Int} {fs : List Int}
theorem power_int (hf : Fld w f p g fs) (a n : Int) (h0 : 0 ≤ n) (hn : n ≤ 9223372036854775807) :
    Calls Tryz.prog 97 #[f, .int .i64 a, .int .i64 n] w (Rd w (.int .i64 (fpow p a n.toNat))) := by
  obtain ⟨k, rfl⟩ := Int.eq_ofNat_of_zero_le h0
  rw [Int.toNat_natCast]; exact power_any hf a k (by omega)
theorem power_int_q (hf : Fld w f p g fs) (a n : Int) (h0 : 0 ≤ n) (hn : n ≤ 9223372036854775807) (m : Nat) :
    Calls Tryz.prog 97 #[f, .int .i64 a, .int .i64 n] (w.drewN m) fun e w'' => e = .returned (.int .i64 (fpow p a n.toNat)) ∧ ∃ m, w'' = w.drewN m := Calls.quiet_of (power_int (hf.drewN m) a n h0 hn)

set_option maxHeartbeats 2000000 in
theorem order_any (hf : Fld w f p g fs) (a : Int) (hfs : ∀ x ∈ fs, 2 ≤ x ∧ x ∣ ((p - 1).toNat : Int)) :
    Calls Tryz.prog 163 #[f, .int .i64 a] w (RdI w fun r => r = p - 1 ↔ ¬ p ∣ a ∧ ∀ j, j < fs.length → Wit p a (nth fs j)) := by
  have C := Lib.hid hf
  have hx := fof_bd hf.two a
  have HF := Lib.hid hfs; clear hfs
  obtain ⟨⟨b', v, hf', hc, hc1, hv, -⟩, -, lo, hi⟩ := hf
  subst hf'
  have hlen := hv.len
  have HV := Lib.hid hv
  have hl := hv.run_len (P := Tryz.prog) slInts
  clear hv
  have hQ : ((p - 1).toNat : Int) = p - 1 := by omega
  by_cases ha : fof p a = 0
  · have hb : (fof p a == 0) = true := by rw [beq_iff_eq]; exact ha
    have HA := Lib.hid (show ¬ ¬ p ∣ a from fun h => h (Int.dvd_of_emod_eq_zero ha)); clear ha hQ
    go_enter Tryz.func163, Tryz.ntmps163
    go_wp2_with (go_at_call 83; refine (of_any C.out _).mono ?_; rintro e w' ⟨rfl, m, rfl⟩)
    go_ret
    exact ⟨0, ⟨fun h => by omega, fun h => absurd h.1 HA.out⟩, rfl, _, rfl⟩
  · have hb : (fof p a == 0) = false := by rw [beq_eq_false_iff_ne]; exact ha
    have HA := Lib.hid (show ¬ p ∣ a from fun h => ha (Int.emod_eq_zero_of_dvd h)); clear ha
    have HQ := Lib.hid hQ; clear hQ
    go_enter Tryz.func163, Tryz.ntmps163
    go_wp2_with (go_at_call 83; refine (of_any C.out _).mono ?_; rintro e w' ⟨rfl, m, rfl⟩)
    go_loopw [5, 22] (fun x5 x22 wr => ∃ (i N m' : Nat), x5 = .int .i64 N ∧ x22 = .int .i64 i ∧ i ≤ fs.length ∧ N ≤ 2147483647 ∧ Hid (OInv p a fs i N) ∧ wr = w.drewN m') (fun _ x22 _ => fs.length - (intOf x22).toNat)
    case atStart => exact ⟨0, (p - 1).toNat, _, by rw [HQ.out], rfl, Nat.zero_le _, by omega, Lib.hid (OInv.start (by omega)), rfl⟩
    case round =>
      obtain ⟨i, N, m1, rfl, rfl, hi1, hN, H, rfl⟩ := hrel
      have hpos := H.out.pos
      by_cases hlt : i < fs.length
      · have hix := HV.out.run_index (P := Tryz.prog) slInts i hlt
        have hcell := HV.out.cell i hlt
        obtain ⟨hd2, hdq⟩ := HF.out (nth fs i) (nth_mem hlt)
        obtain ⟨D, hD⟩ := Int.eq_ofNat_of_zero_le (show 0 ≤ nth fs i by omega)
        rw [hD] at hcell hd2 hdq
        have HD := Lib.hid hD.symm; clear hD
        have HDQ := Lib.hid (Int.natCast_dvd_natCast.1 hdq); clear hdq
        go_wp2
        go_loopw [5] (fun x5 wr => ∃ (M m' : Nat), x5 = .int .i64 M ∧ M ≤ 2147483647 ∧ Hid (OIn p a fs i N M) ∧ wr = w.drewN m') (fun x5 _ => (intOf x5).toNat)
        case atStart => exact ⟨N, _, rfl, hN, Lib.hid (OIn.start H.out), rfl⟩
        case round =>
          obtain ⟨M, m2, rfl, hM, HM, rfl⟩ := hrel
          have hM1 := HM.out.1
          have hD2 : 2 ≤ D := by omega
          clear hix hcell
          have hbd : 0 ≤ (M : Int) / D ∧ (M : Int) / D ≤ 2147483647 := ⟨Int.ediv_nonneg (by omega) (by omega), Int.le_trans (Int.ediv_le_self _ (by omega)) (by omega)⟩
          have eN : ((M : Int) / D).toNat = M / D := by rw [← Int.natCast_ediv, Int.toNat_natCast]
          by_cases hdv : D ∣ M
          · have hm : ((M : Int) % D == 0) = true := by rw [beq_iff_eq]; exact Int.emod_eq_zero_of_dvd (Int.natCast_dvd_natCast.2 hdv)
            by_cases h1 : fpow p a ((M : Int) / D).toNat = 1
            · have hp1 : (fpow p a ((M : Int) / D).toNat == 1) = true := by rw [beq_iff_eq]; exact h1
              have hlt2 : M / D < M := Nat.div_lt_self (by omega) (by omega)
              have HN := Lib.hid (OIn.step H.out (by have := H.out.dvd; have := HQ.out; omega) HM.out hD2 HD.out hdv (by rw [eN] at h1; exact h1))
              clear h1 hdv eN
              go_wp2_with (go_at_call 97; refine (power_int (C.out.drewN _) _ _ hbd.1 (by omega)).mono ?_; rintro e w' ⟨rfl, m, rfl⟩)
              go_roundw
              case rel => exact ⟨M / D, _, by simp, by omega, HN, rfl⟩
              case measure => simp [intOf]; omega
            · have hp1 : (fpow p a ((M : Int) / D).toNat == 1) = false := by rw [beq_eq_false_iff_ne]; exact h1
              have HN := Lib.hid (OIn.done H.out HM.out HD.out HDQ.out (fun _ => by rw [eN] at h1; exact h1))
              clear h1 hdv eN
              go_wp2_with (go_at_call 97; refine (power_int (C.out.drewN _) _ _ hbd.1 (by omega)).mono ?_; rintro e w' ⟨rfl, m, rfl⟩)
              go_roundw
              case rel => exact ⟨i + 1, M, _, rfl, by go_num, by omega, hM, HN, rfl⟩
              case measure => simp [intOf]; omega
          · have hm : ((M : Int) % D == 0) = false := by rw [beq_eq_false_iff_ne]; exact fun h => hdv (Int.natCast_dvd_natCast.1 (Int.dvd_of_emod_eq_zero h))
            have HN := Lib.hid (OIn.done H.out HM.out HD.out HDQ.out (fun h => absurd h hdv))
            clear hdv eN
            go_wp2
            go_roundw
            case rel => exact ⟨i + 1, M, _, rfl, by go_num, by omega, hM, HN, rfl⟩
            case measure => simp [intOf]; omega
      · obtain rfl : i = fs.length := by omega
        go_wp2
        go_ret
        have hiff := H.out.iff
        have hq := HQ.out
        exact ⟨N, ⟨fun h => ⟨HA.out, hiff.1 (by omega)⟩, fun h => by have := hiff.2 h.2; omega⟩, rfl, _, rfl⟩
end
end Go.Proofs.YtcpnidomdkaefaaGreatDoor
end
section
/-! errors.As at the target *api.Errno, and what tells an error's number: contracts (turned from the guide's worked example ToyasAs). -/
namespace Go.Proofs.YtcpnidomdkaefaaGreatDoor
open Go.RowKit Go.Extern.Stop Go.Stop Go.Extern

/-! ### CLOSED FACTS ON THE MODEL's ENTRIES FOR internal/reflectlite, at this program's types: 25: *p.E · 27: **p.E · 23: error · 45: reflectlite's rtype · 1: how many package-level variables the dump has -/
theorem Tryz.valueOf27 (t : Addr) (w : World) : (ReflectliteValue.unpack (.iface 165 (.pointer (some t)))).run Tryz.prog w
    = .ok (.agg #[.pointer (some ⟨1, 165, none⟩), .pointer (some ⟨w.heap.size, 0, none⟩), .int .u64 150]) (w.alloc (.cells #[.pointer (some t)] 165)) := by kernel_rfl
theorem Tryz.type27 (a : Addr) (w : World) : (ReflectliteValue.methodAny (ReflectliteValue.valueError "reflectlite.Value.Type" 0) (fun t _ _ _ => ReflectliteType.toType t) #[.agg #[.pointer (some ⟨1, 165, none⟩), .pointer (some a), .int .u64 150]]).run Tryz.prog w
    = .ok (.iface 212 (.agg #[.pointer (some ⟨1, 165, none⟩)])) w := by kernel_rfl
theorem Tryz.methodKind (h : Value) (w : World) : (Go.method 362 212 (.agg #[h]) "Kind").run Tryz.prog w = .ok (206, h) w := by kernel_rfl
theorem Tryz.kind27 (w : World) : ((ReflectliteType.abiMethod fun t => (fun a : Nat => Value.int IntKind.u8 (a : Int)) <$> Rtype.kind t) #[.pointer (some ⟨1, 165, none⟩)]).run Tryz.prog w = .ok (.int .u8 22) w := by kernel_rfl
theorem Tryz.kind25 (w : World) : ((ReflectliteType.abiMethod fun t => (fun a : Nat => Value.int IntKind.u8 (a : Int)) <$> Rtype.kind t) #[.pointer (some ⟨1, 102, none⟩)]).run Tryz.prog w = .ok (.int .u8 2) w := by kernel_rfl

/-! ### THE ENTRIES THAT READ OR WRITE MEMORY: laws with a premise on the cell (after Derived/Lib/ReflectliteSlice.lean's manner: each unfolding a lemma of its own, by rfl) -/
theorem rlm (z : Sem Value) (f : TypeId → Addr → Nat → Nat → Sem Value) (v : Value) :
    ReflectliteValue.method z f #[v] = (do match ← ReflectliteValue.parts v with | none => z | some (t, a, fl) => f t a fl (fl % 32)) := rfl
theorem Tryz.parts27 (a : Addr) (w : World) : (ReflectliteValue.parts (.agg #[.pointer (some ⟨1, 165, none⟩), .pointer (some a), .int .u64 150])).run Tryz.prog w = .ok (some (165, a, 150)) w := by kernel_rfl
/-- (Value).IsNil at the Value of a **p.E that is not nil. -/
theorem Tryz.isNil27 (a p : Addr) (W : World) (ha : W.cell? a = some (.pointer (some p))) :
    (ReflectliteValue.method (ReflectliteValue.valueError "reflectlite.Value.IsNil" 0) ReflectliteValue.isNil #[.agg #[.pointer (some ⟨1, 165, none⟩), .pointer (some a), .int .u64 150]]).run Tryz.prog W = .ok (.bool false) W := by
  rw [rlm]
  simp only [Sem.run_bind, Tryz.parts27, Result.andThen]
  simp [ReflectliteValue.isNil, loadVar, isAgg, underlying, Tryz.underlying165, ha, Result.andThen]

theorem Tryz.methodElem (h : Value) (w : World) : (Go.method 362 212 (.agg #[h]) "Elem").run Tryz.prog w = .ok (218, .agg #[h]) w := by kernel_rfl
theorem Tryz.methodImplements (h : Value) (w : World) : (Go.method 362 212 (.agg #[h]) "Implements").run Tryz.prog w = .ok (219, .agg #[h]) w := by kernel_rfl
theorem Tryz.methodAssignableTo (h : Value) (w : World) : (Go.method 362 212 (.agg #[h]) "AssignableTo").run Tryz.prog w = .ok (216, .agg #[h]) w := by kernel_rfl
theorem Tryz.elem27 (w : World) : (ReflectliteType.method ReflectliteType.elem #[.agg #[.pointer (some ⟨1, 165, none⟩)]]).run Tryz.prog w = .ok (.iface 212 (.agg #[.pointer (some ⟨1, 102, none⟩)])) w := by kernel_rfl
theorem Tryz.implements25 (w : World) : (ReflectliteType.relation "Implements" ReflectliteType.implements_ #[.agg #[.pointer (some ⟨1, 102, none⟩)], .iface 212 (.agg #[.pointer (some ⟨1, 44, none⟩)])]).run Tryz.prog w = .ok (.bool true) w := by kernel_rfl
theorem Tryz.typeOf25 (v : Value) (w : World) : (ReflectliteType.typeOf #[.iface 102 v]).run Tryz.prog w = .ok (.iface 212 (.agg #[.pointer (some ⟨1, 102, none⟩)])) w := by kernel_rfl
theorem Tryz.assignable25 (w : World) : (ReflectliteType.relation "AssignableTo" ReflectliteType.assignableTo #[.agg #[.pointer (some ⟨1, 102, none⟩)], .iface 212 (.agg #[.pointer (some ⟨1, 102, none⟩)])]).run Tryz.prog w = .ok (.bool true) w := by kernel_rfl
theorem Tryz.valueOf25 (e : Int) (w : World) : (ReflectliteValue.unpack (.iface 102 (.int .i64 e))).run Tryz.prog w
    = .ok (.agg #[.pointer (some ⟨1, 102, none⟩), .pointer (some ⟨w.heap.size, 0, none⟩), .int .u64 130]) (w.alloc (.cells #[.int .i64 e] 102)) := by kernel_rfl

theorem Tryz.elemOf27 (w : World) : (Rtype.elem? 165).run Tryz.prog w = .ok (some 102) w := by kernel_rfl
theorem Tryz.mk25 (p : Addr) (w : World) : (ReflectliteValue.mk 102 p ReflectliteValue.flagAddr).run Tryz.prog w = .ok (.agg #[.pointer (some ⟨1, 102, none⟩), .pointer (some p), .int .u64 386]) w := by kernel_rfl
/-- (Value).Elem at the Value of a **p.E that is not nil: the Value of the *p.E variable that it points to, addressable. -/
theorem Tryz.elemV27 (a p : Addr) (W : World) (ha : W.cell? a = some (.pointer (some p))) :
    (ReflectliteValue.method (ReflectliteValue.valueError "reflectlite.Value.Elem" 0) ReflectliteValue.elem #[.agg #[.pointer (some ⟨1, 165, none⟩), .pointer (some a), .int .u64 150]]).run Tryz.prog W
      = .ok (.agg #[.pointer (some ⟨1, 102, none⟩), .pointer (some p), .int .u64 386]) W := by
  rw [rlm]
  simp only [Sem.run_bind, Tryz.parts27, Result.andThen]
  simp [ReflectliteValue.elem, loadVar, isAgg, underlying, Tryz.underlying165, ha, Result.andThen, Tryz.elemOf27, Tryz.mk25]
theorem rls (v x : Value) : ReflectliteValue.set #[v, x] = (do
    let (some (dst, a, fl), some (src, b, _)) := (← ReflectliteValue.parts v, ← ReflectliteValue.parts x)
      | unsupported (.noEntry "extern/(internal/reflectlite.Value).Set.zeroValue")
    if fl / ReflectliteValue.flagAddr % 2 == 0 then unsupported (.noEntry "extern/(internal/reflectlite.Value).Set.unaddressable")
    let val ← loadVar src b
    if ← Rtype.directlyAssignable dst src then storeVar dst a val
    else if ← Rtype.implements dst src then
      if (← Rtype.kind src) == 20 then
        match val with
        | .nilIface => unsupported (.noEntry "extern/reflectlite: a nil value of one interface type handed on as a value of another")
        | _ => storeVar dst a val
      else storeVar dst a (.iface src val)
    else panicString ("reflectlite.Set: value of type " ++ (← Rtype.spelt src) ++ " is not assignable to type " ++ (← Rtype.spelt dst))
    pure (.tuple #[])) := rfl
theorem Tryz.parts25a (a : Addr) (w : World) : (ReflectliteValue.parts (.agg #[.pointer (some ⟨1, 102, none⟩), .pointer (some a), .int .u64 386])).run Tryz.prog w = .ok (some (102, a, 386)) w := by kernel_rfl
theorem Tryz.parts25 (a : Addr) (w : World) : (ReflectliteValue.parts (.agg #[.pointer (some ⟨1, 102, none⟩), .pointer (some a), .int .u64 130])).run Tryz.prog w = .ok (some (102, a, 130)) w := by kernel_rfl
theorem Tryz.direct25 (w : World) : (Rtype.directlyAssignable 102 102).run Tryz.prog w = .ok true w := by kernel_rfl
/-- (Value).Set: the *p.E variable at 'ta' gets what the Value's own variable 'b' holds. -/
theorem Tryz.set25 (ta b : Addr) (e : Int) (old : Value) (W : World) (hb : W.cell? b = some (.int .i64 e)) (ht : W.cell? ta = some old) (hf : W.frozen? ta = false) :
    (ReflectliteValue.set #[.agg #[.pointer (some ⟨1, 102, none⟩), .pointer (some ta), .int .u64 386], .agg #[.pointer (some ⟨1, 102, none⟩), .pointer (some b), .int .u64 130]]).run Tryz.prog W
      = .ok (.tuple #[]) (W.setCell ta (.int .i64 e)) := by
  rw [rls]
  simp only [Sem.run_bind, Tryz.parts25a, Tryz.parts25, Result.andThen]
  simp [ReflectliteValue.flagAddr, loadVar, isAgg, underlying, Tryz.underlying102, hb, Result.andThen, Tryz.direct25, storeVar, Value.cells, storeCells, Addr.add]
  rw [run_store Tryz.prog W ta _ _ (by rfl)]
  simp [ht, hf]

set_option maxHeartbeats 4000000 in
theorem as_hit (e : Int) (t : Addr) (old : Value) (w : World) (hg : w.cell? ⟨0, 0, none⟩ = some (.iface 212 (.agg #[.pointer (some ⟨1, 44, none⟩)]))) (ht0 : w.cell? t = some old) (hf0 : w.frozen? t = false) :
    Calls Tryz.prog 128 #[.iface 102 (.int .i64 e), .iface 165 (.pointer (some t))] w fun ev w' => ev = .returned (.bool true) ∧ w' = ((((w.alloc (.cells #[.pointer (some t)] 165)).alloc (.cells #[.pointer (some ⟨1, 165, none⟩), .pointer (some ⟨w.heap.size, 0, none⟩), .int .u64 150] 191)).alloc (.cells #[.pointer (some ⟨1, 165, none⟩), .pointer (some ⟨w.heap.size, 0, none⟩), .int .u64 150] 191)).alloc (.cells #[.int .i64 e] 102)).setCell t (.int .i64 e) := by
  have h6 := @run_callFunc_extern Tryz.prog 156 _ (fun args => ReflectliteValue.unpack (args.getD 0 (.tuple #[]))) Tryz.func156 (by kernel_rfl) (by kernel_rfl) (by kernel_rfl) (by kernel_rfl)
  have h7 := @run_callFunc_extern Tryz.prog 157 _ (ReflectliteValue.methodAny (ReflectliteValue.valueError "reflectlite.Value.Type" 0) (fun t _ _ _ => ReflectliteType.toType t)) Tryz.func157 (by kernel_rfl) (by kernel_rfl) (by kernel_rfl) (by kernel_rfl)
  have h8 := @run_callFunc_extern Tryz.prog 158 _ (ReflectliteValue.method (ReflectliteValue.valueError "reflectlite.Value.IsNil" 0) ReflectliteValue.isNil) Tryz.func158 (by kernel_rfl) (by kernel_rfl) (by kernel_rfl) (by kernel_rfl)
  have h27 := @run_callFunc_extern Tryz.prog 206 _ (ReflectliteType.abiMethod fun t => do pure (.int .u8 (← Rtype.kind t))) Tryz.func206 (by kernel_rfl) (by kernel_rfl) (by kernel_rfl) (by kernel_rfl)
  have h37 := @run_callFunc_extern Tryz.prog 218 _ (ReflectliteType.method ReflectliteType.elem) Tryz.func218 (by kernel_rfl) (by kernel_rfl) (by kernel_rfl) (by kernel_rfl)
  have h38 := @run_callFunc_extern Tryz.prog 219 _ (ReflectliteType.relation "Implements" ReflectliteType.implements_) Tryz.func219 (by kernel_rfl) (by kernel_rfl) (by kernel_rfl) (by kernel_rfl)
  have h10 := @run_callFunc_extern Tryz.prog 179 _ ReflectliteType.typeOf Tryz.func179 (by kernel_rfl) (by kernel_rfl) (by kernel_rfl) (by kernel_rfl)
  have h35 := @run_callFunc_extern Tryz.prog 216 _ (ReflectliteType.relation "AssignableTo" ReflectliteType.assignableTo) Tryz.func216 (by kernel_rfl) (by kernel_rfl) (by kernel_rfl) (by kernel_rfl)
  have h11 := @run_callFunc_extern Tryz.prog 180 _ (ReflectliteValue.method (ReflectliteValue.valueError "reflectlite.Value.Elem" 0) ReflectliteValue.elem) Tryz.func180 (by kernel_rfl) (by kernel_rfl) (by kernel_rfl) (by kernel_rfl)
  have h12 := @run_callFunc_extern Tryz.prog 181 _ ReflectliteValue.set Tryz.func181 (by kernel_rfl) (by kernel_rfl) (by kernel_rfl) (by kernel_rfl)
  have tO := Tryz.typeOf25
  have mA := Tryz.methodAssignableTo
  have a25 := Tryz.assignable25
  have v25 := Tryz.valueOf25
  have f6 := Tryz.valueOf27
  have f7 := Tryz.type27
  have mK := Tryz.methodKind
  have mE := Tryz.methodElem
  have mI := Tryz.methodImplements
  have k27 := Tryz.kind27
  have k25 := Tryz.kind25
  have e27 := Tryz.elem27
  have i25 := Tryz.implements25
  have n8 := Tryz.isNil27 ⟨w.heap.size, 0, none⟩ t ((w.alloc (.cells #[.pointer (some t)] 165)).alloc (.cells #[.pointer (some ⟨1, 165, none⟩), .pointer (some ⟨w.heap.size, 0, none⟩), .int .u64 150] 191)) (by simp)
  have hlt : 0 < w.heap.size := World.block_lt_of_cell? w _ hg
  have hg2 : ((w.alloc (.cells #[.pointer (some t)] 165)).alloc (.cells #[.pointer (some ⟨1, 165, none⟩), .pointer (some ⟨w.heap.size, 0, none⟩), .int .u64 150] 191)).cell? ⟨0, 0, none⟩ = some (.iface 212 (.agg #[.pointer (some ⟨1, 44, none⟩)])) := by
    rw [World.cell?_alloc_lt _ _ ⟨0, 0, none⟩ (by rw [World.size_alloc]; exact Nat.lt_succ_of_lt hlt), World.cell?_alloc_lt _ _ ⟨0, 0, none⟩ hlt]; exact hg
  have htl : t.block < w.heap.size := by
    rcases Nat.lt_or_ge t.block w.heap.size with h | h
    · exact h
    · simp [World.cell?, Array.getElem?_eq_none h] at ht0
  have el := Tryz.elemV27 ⟨w.heap.size, 0, none⟩ t (((w.alloc (.cells #[.pointer (some t)] 165)).alloc (.cells #[.pointer (some ⟨1, 165, none⟩), .pointer (some ⟨w.heap.size, 0, none⟩), .int .u64 150] 191)).alloc (.cells #[.pointer (some ⟨1, 165, none⟩), .pointer (some ⟨w.heap.size, 0, none⟩), .int .u64 150] 191)) (by rw [World.cell?_alloc_lt _ _ ⟨w.heap.size, 0, none⟩ (by simp; omega)]; simp)
  have st := Tryz.set25 t ⟨w.heap.size + 1 + 1 + 1, 0, none⟩ e old ((((w.alloc (.cells #[.pointer (some t)] 165)).alloc (.cells #[.pointer (some ⟨1, 165, none⟩), .pointer (some ⟨w.heap.size, 0, none⟩), .int .u64 150] 191)).alloc (.cells #[.pointer (some ⟨1, 165, none⟩), .pointer (some ⟨w.heap.size, 0, none⟩), .int .u64 150] 191)).alloc (.cells #[.int .i64 e] 102))
    (by rw [World.cell?_alloc_at _ _ _ _ (by simp)]; rfl)
    (by rw [World.cell?_alloc_lt _ _ t (by simp; omega), World.cell?_alloc_lt _ _ t (by simp; omega), World.cell?_alloc_lt _ _ t (by simp; omega), World.cell?_alloc_lt _ _ t htl]; exact ht0)
    (by rw [World.frozen?_alloc_old _ _ t (by simp; omega), World.frozen?_alloc_old _ _ t (by simp; omega), World.frozen?_alloc_old _ _ t (by simp; omega), World.frozen?_alloc_old _ _ t (Nat.ne_of_lt htl)]; exact hf0)
  go_enter Tryz.func128, Tryz.ntmps128
  go_wp2
  refine wp_loop_rounds 1 ?_
  rw [rounds_succ]
  go_wp2
  go_ret
  exact ⟨rfl, rfl⟩
end Go.Proofs.YtcpnidomdkaefaaGreatDoor
/-! The number of an error, told: contracts. -/
namespace Go.Proofs.YtcpnidomdkaefaaGreatDoor
open Go.RowKit Go.Att

/-- The package errors' one variable holds the type of errors. -/
def Hnd (w : World) : Prop := w.cell? ⟨0, 0, none⟩ = some (.iface 212 (.agg #[.pointer (some ⟨1, 44, none⟩)]))
theorem Hnd.ext {w w' : World} (h : Hnd w) (hx : Ext w w') : Hnd w' := hx.cell h
/-- An error of a number; of 0 there is none. -/
def errv (k : Int) : Value := if k = 0 then .nilIface else .iface 102 (.int .i64 k)
theorem errv_zero : errv 0 = .nilIface := rfl
theorem errv_pos {k : Int} (h : k ≠ 0) : errv k = .iface 102 (.int .i64 k) := if_neg h

theorem told_nil (w : World) : Calls Tryz.prog 74 #[.nilIface] w fun e w' => e = .returned (.int .i64 0) ∧ w = w' := by
  go_enter Tryz.func74, Tryz.ntmps74
  go_wp2
  go_ret
  exact ⟨rfl, rfl⟩

set_option maxHeartbeats 1000000 in
theorem told_some (k : Int) (w : World) (hg : Hnd w) : Calls Tryz.prog 74 #[.iface 102 (.int .i64 k)] w fun e w' => e = .returned (.int .i64 k) ∧ Ext w w' := by
  have hA : (w.alloc (.cells #[.int .i64 0] 102)).cell? ⟨0, 0, none⟩ = some (.iface 212 (.agg #[.pointer (some ⟨1, 44, none⟩)])) := (Ext.alloc _ _).cell hg
  have htA : (w.alloc (.cells #[.int .i64 0] 102)).cell? ⟨w.heap.size, 0, none⟩ = some (.int .i64 0) := by simp
  have hfA : (w.alloc (.cells #[.int .i64 0] 102)).frozen? ⟨w.heap.size, 0, none⟩ = false := by simp
  have C := Lib.hid (as_hit k ⟨w.heap.size, 0, none⟩ (.int .i64 0) _ hA htA hfA)
  clear hg hA htA hfA
  go_enter Tryz.func74, Tryz.ntmps74
  go_wp2_with (go_at_call 128; refine C.out.mono ?_; rintro e w' ⟨rfl, rfl⟩)
  go_ret
  refine ⟨rfl, ?_⟩
  repeat (refine Below.alloc ?_ (by first | exact Nat.le_refl _ | (simp only [World.size_alloc]; omega)) _)
  exact Below.refl _ _

set_option maxHeartbeats 400000 in
theorem error_any (k n : Int) (w : World) (hg : Hnd w) :
    Calls Tryz.prog 21 #[errv k, .int .i64 n] w fun e w' => e = .returned (.bool (k == n)) ∧ Ext w w' := by
  have HG := Lib.hid hg; clear hg
  by_cases hk : k = 0
  · subst hk
    rw [errv_zero]
    go_enter Tryz.func21, Tryz.ntmps21
    go_wp2_with (go_at_call 74; refine (told_nil _).mono ?_; rintro e w' ⟨rfl, rfl⟩)
    go_ret
    exact ⟨rfl, Ext.refl _⟩
  · rw [errv_pos hk]
    clear hk
    go_enter Tryz.func21, Tryz.ntmps21
    go_wp2_with (go_at_call 74; refine (told_some _ _ HG.out).mono ?_; rintro e w' ⟨rfl, hx⟩)
    go_ret
    exact ⟨rfl, hx⟩
end Go.Proofs.YtcpnidomdkaefaaGreatDoor
end
section
/-! The making of a field: contract. -/
namespace Go.Att
open Go.RowKit
/-- A field with its least generator. -/
structure FieldOf (w : World) (f : Value) (p g : Int) : Prop where
  fld : ∃ fs, Fld w f p g fs
  gen : IsGen p g
  least : ∀ x : Int, 1 ≤ x → x < g → ¬ IsGen p x
  lo : 1 ≤ g
  hi : g < p
theorem FieldOf.ext {w w' : World} {f : Value} {p g : Int} (h : FieldOf w f p g) (hx : Ext w w') : FieldOf w' f p g := by
  obtain ⟨⟨fs, h1⟩, h2, h3, h4, h5⟩ := h
  exact ⟨⟨fs, h1.ext hx⟩, h2, h3, h4, h5⟩
theorem FieldOf.ptr {w : World} {f : Value} {p g : Int} (h : FieldOf w f p g) : ∃ b, f = .pointer (some ⟨b, 0, none⟩) := by
  obtain ⟨fs, hf⟩ := h.fld
  obtain ⟨⟨b, v, h1, _⟩, _⟩ := hf
  exact ⟨b, h1⟩
/-- Witnesses against all primes that divide: a generator; and none but such has them. -/
theorem isGen_iff {p a : Int} {fs : List Int} (hp : Pr p) (hp3 : 3 ≤ p) (hfs : PrimesOf (p - 1).toNat fs) :
    (¬ p ∣ a ∧ ∀ j, j < fs.length → Wit p a (nth fs j)) ↔ IsGen p a := by
  constructor
  · rintro ⟨h0, h1⟩
    refine isGen_of_primes hp hp3 h0 fun q hq hqn => ?_
    have hm := hfs.2 q hq hqn
    obtain ⟨j, hj, e⟩ := List.getElem_of_mem hm
    have := h1 j hj
    unfold Wit at this
    rw [nth_eq hj, e, Int.toNat_natCast] at this
    exact this
  · intro h
    refine ⟨h.1, fun j hj => ?_⟩
    obtain ⟨h2, h3⟩ := hfs.1 _ (nth_mem hj)
    obtain ⟨D, hD⟩ := Int.eq_ofNat_of_zero_le (show 0 ≤ nth fs j by omega)
    unfold Wit
    rw [hD] at h2 h3 ⊢
    rw [Int.toNat_natCast]
    have hd := Int.natCast_dvd_natCast.1 h3
    have hpos : 0 < (p - 1).toNat := by omega
    exact h.2 _ (Nat.div_pos (Nat.le_of_dvd hpos hd) (by omega)) (Nat.div_lt_self hpos (by omega))
/-- What stands in the third cell of a block. -/
def genAt (w : World) (b : Nat) : Int := match w.cell? ⟨b, 2, none⟩ with | some v => intOf v | none => 0
theorem genAt_eq {w : World} {b : Nat} {x : Int} (h : w.cell? ⟨b, 2, none⟩ = some (.int .i64 x)) : genAt w b = x := by simp [genAt, h, intOf]
end Go.Att
namespace Go.Proofs.YtcpnidomdkaefaaGreatDoor
open Go.RowKit Go.Att

theorem gen_step {wr w1 : World} {G p : Int} {v : Value} {b m : Nat} (hb : w1.heap.size ≤ b) (c0 : wr.cell? ⟨b, 0, none⟩ = some (.int .i64 p)) (c1 : wr.cell? ⟨b, 1, none⟩ = some v) (c2 : wr.cell? ⟨b, 2, none⟩ = some (.int .i64 G)) (c3 : wr.frozen? ⟨b, 2, none⟩ = false) (hx : Ext w1 wr) :
    ((wr.drewN m).setCell ⟨b, 2, none⟩ (.int .i64 (G + 1))).cell? ⟨b, 0, none⟩ = some (.int .i64 p) ∧ ((wr.drewN m).setCell ⟨b, 2, none⟩ (.int .i64 (G + 1))).cell? ⟨b, 1, none⟩ = some v ∧
    ((wr.drewN m).setCell ⟨b, 2, none⟩ (.int .i64 (G + 1))).cell? ⟨b, 2, none⟩ = some (.int .i64 (G + 1)) ∧ ((wr.drewN m).setCell ⟨b, 2, none⟩ (.int .i64 (G + 1))).frozen? ⟨b, 2, none⟩ = false ∧ Ext w1 ((wr.drewN m).setCell ⟨b, 2, none⟩ (.int .i64 (G + 1))) := by
  refine ⟨?_, ?_, World.cell?_setCell_same _ _ _ c2, ?_, (hx.trans (Ext.drewN _ _)).below.setCell hb _⟩
  · rw [World.cell?_setCell_other _ _ _ _ (by simp)]; exact c0
  · rw [World.cell?_setCell_other _ _ _ _ (by simp)]; exact c1
  · rw [World.frozen?_setCell]; exact c3

theorem new_bad (p : Int) (w : World) (h : ¬ okP p) :
    Calls Tryz.prog 135 #[.int .i64 p] w fun e w' => e = .returned (.tuple #[.pointer none, errv 1]) ∧ w = w' := by
  rw [errv_pos (by decide)]
  by_cases h3 : p < 3
  · clear h
    go_enter Tryz.func135, Tryz.ntmps135
    go_wp2_with fail
    go_ret2; exact ⟨rfl, rfl⟩
  · by_cases h4 : 2147483647 < p
    · clear h
      go_enter Tryz.func135, Tryz.ntmps135
      go_wp2_with fail
      go_ret2; exact ⟨rfl, rfl⟩
    · have hb := okB_false h
      clear h
      go_enter Tryz.func135, Tryz.ntmps135
      go_wp2_with (go_at_call 161; refine (prime_any _ _ (by omega) (by omega)).mono ?_; rintro e w' ⟨rfl, rfl⟩)
      go_ret2; exact ⟨rfl, rfl⟩

set_option maxHeartbeats 2000000 in
theorem new_ok (p : Int) (w : World) (h : okP p) :
    Calls Tryz.prog 135 #[.int .i64 p] w (Gives w fun v w' => ∃ f g, v = .tuple #[f, .nilIface] ∧ FieldOf w' f p g) := by
  have hb := okB_true h
  obtain ⟨hp, lo, hi⟩ := h
  obtain ⟨g0, hg1, hg2, hg3⟩ := exists_gen hp lo
  have HP := Lib.hid hp; clear hp
  have HG := Lib.hid hg3; clear hg3
  have eQ : p - 1 = ((p - 1).toNat : Int) := by omega
  have EQ := Lib.hid eQ; clear eQ
  go_enter Tryz.func135, Tryz.ntmps135
  go_wp2_with (first | (go_at_call 161; refine (prime_any _ _ (by omega) (by omega)).mono ?_; rintro e w' ⟨rfl, rfl⟩) | (go_at_call 162; rw [EQ.out]; refine (primes_any _ _ (by omega) (by omega)).mono ?_; rintro e w1 ⟨v, rfl, hx, fs, hv, hfs⟩; obtain ⟨ao, cap, rfl⟩ := hv.shape))
  have HFS := Lib.hid hfs; clear hfs
  have HV := Lib.hid hv; clear hv
  have HX := Lib.hid hx; clear hx
  go_loopw [26] (fun _ wr => ∃ G : Int, wr.cell? ⟨w1.heap.size, 0, none⟩ = some (.int .i64 p) ∧ wr.cell? ⟨w1.heap.size, 1, none⟩ = some (.slice ao fs.length cap) ∧ wr.cell? ⟨w1.heap.size, 2, none⟩ = some (.int .i64 G) ∧ wr.frozen? ⟨w1.heap.size, 2, none⟩ = false ∧ Ext w1 wr ∧ 1 ≤ G ∧ G ≤ g0 ∧ Hid (∀ x : Int, 1 ≤ x → x < G → ¬ IsGen p x)) (fun _ wr => (p - genAt wr w1.heap.size).toNat)
  case atStart => exact ⟨1, by simp, by simp, by simp, by simp, Ext.alloc _ _, by omega, hg1, Lib.hid (fun x h1 h2 => by omega)⟩
  case round =>
    obtain ⟨G, c0, c1, c2, c3, hxr, hG1, hG2, HL⟩ := hrel
    have HF := Lib.hid (show Fld wr (.pointer (some ⟨w1.heap.size, 0, none⟩)) p G fs from ⟨⟨_, _, rfl, c0, c1, HV.out.ext hxr, c2⟩, HP.out, lo, hi⟩)
    have HM := Lib.hid (genAt_eq c2)
    by_cases hgen : IsGen p G
    · have HI := Lib.hid hgen; clear hgen
      go_wp2_with (go_at_call 163; refine (order_any HF.out _ HFS.out.1).mono ?_; rintro e w2 ⟨r, hr, rfl, m, rfl⟩; have hr2 : (r != p - 1) = false := (by rw [bne_eq_false_iff_eq]; exact hr.2 ((isGen_iff HP.out lo HFS.out).2 HI.out)); clear hr)
      go_ret2
      exact .mk _ rfl ((HX.out.trans hxr).trans (Ext.drewN _ _)) ⟨_, G, rfl, ⟨⟨fs, HF.out.drewN _⟩, HI.out, HL.out, hG1, by omega⟩⟩
    · have hGlt : G < g0 := by
        rcases Int.lt_or_eq_of_le hG2 with h | rfl
        · exact h
        · exact absurd HG.out hgen
      have HI := Lib.hid hgen; clear hgen
      go_wp2_with (go_at_call 163; refine (order_any HF.out _ HFS.out.1).mono ?_; rintro e w2 ⟨r, hr, rfl, m, rfl⟩; have hr2 : (r != p - 1) = true := (by rw [bne_iff_ne]; exact fun h => HI.out ((isGen_iff HP.out lo HFS.out).1 (hr.1 h))); clear hr)
      go_roundw
      case rel =>
        obtain ⟨d0, d1, d2, d3, dx⟩ := gen_step (m := m) (Nat.le_refl _) c0 c1 c2 c3 hxr
        exact ⟨G + 1, d0, d1, d2, d3, dx, by omega, by omega, Lib.hid (fun x h1 h2 => by
          rcases Int.lt_or_eq_of_le (show x ≤ G by omega) with h | rfl
          · exact HL.out x h1 h
          · exact HI.out)⟩
      case measure =>
        have e := genAt_eq (gen_step (m := m) (Nat.le_refl _) c0 c1 c2 c3 hxr).2.2.1
        rw [e, HM.out]; omega
end Go.Proofs.YtcpnidomdkaefaaGreatDoor
/-! A field on both sides: contract. -/
namespace Go.Proofs.YtcpnidomdkaefaaGreatDoor
open Go.RowKit Go.Att

set_option maxHeartbeats 1000000 in
theorem sfield_bad (p : Int) (w : World) (h : ¬ okP p) (hg : Hnd w) :
    Calls Tryz.prog 84 #[.int .i64 p] w (Gives w fun v _ => v = .tuple #[.pointer none, .bool true]) := by
  have HB := Lib.hid (okB_false h); have H := Lib.hid h; clear h
  have HG := Lib.hid hg; clear hg
  go_enter Tryz.func84, Tryz.ntmps84
  go_wp2_with (first | (go_at_call 135; refine (new_bad _ _ H.out).mono ?_; rintro e w' ⟨rfl, rfl⟩) | (go_at_call 136; refine (rprime_any _ _).mono ?_; rintro e w' ⟨rfl, rfl⟩; rw [HB.out]) | (go_at_call 21; refine (error_any 1 1 _ HG.out).mono ?_; rintro e w' ⟨rfl, hx⟩))
  go_ret2
  exact .mk _ rfl hx rfl

set_option maxHeartbeats 1000000 in
theorem sfield_ok (p : Int) (w : World) (h : okP p) (hg : Hnd w) :
    Calls Tryz.prog 84 #[.int .i64 p] w (Gives w fun v w' => ∃ f g, v = .tuple #[f, .bool true] ∧ FieldOf w' f p g) := by
  have HB := Lib.hid (okB_true h); have H := Lib.hid h; clear h
  have HG := Lib.hid hg; clear hg
  go_enter Tryz.func84, Tryz.ntmps84
  go_wp2_with (first | (go_at_call 135; refine (new_ok _ _ H.out).mono ?_; rintro e w1 ⟨v, rfl, hx, f, g, rfl, hf⟩; obtain ⟨b, rfl⟩ := hf.ptr) | (go_at_call 136; refine (rprime_any _ _).mono ?_; rintro e w' ⟨rfl, rfl⟩; rw [HB.out]) | (go_at_call 21; refine (error_any 0 0 _ (HG.out.ext hx)).mono ?_; rintro e w2 ⟨rfl, hx2⟩))
  go_ret2
  exact .mk _ rfl (hx.trans hx2) ⟨_, g, rfl, hf.ext hx2⟩
end Go.Proofs.YtcpnidomdkaefaaGreatDoor
/-! Lists as elements; whether all of a list are unlike: contracts of the document's side. -/
namespace Go.Att
end Go.Att
namespace Go.Proofs.YtcpnidomdkaefaaGreatDoor
open Go.RowKit Go.Att

end Go.Proofs.YtcpnidomdkaefaaGreatDoor
end
section
namespace Go.Att
open Go.RowKit
/-- In blocks from X on, below Y. -/
def InB (X Y : Nat) (v : Value) : Prop := ∀ k, v.ownBlock = some k → X ≤ k ∧ k < Y
theorem InB.mono {X Y X' Y' : Nat} {v : Value} (h : InB X Y v) (h1 : X' ≤ X) (h2 : Y ≤ Y') : InB X' Y' v := fun k hk => by have := h k hk; omega
/-- What reads its elements: it may be carried over a change elsewhere. -/
structure Rdg (α : Type) where
  sat : Nat → Nat → World → α → List Value → Prop
  keep : ∀ {X Y : Nat} {w w' : World} {x : α} {cs : List Value} {b : Option Nat}, sat X Y w x cs → w.grownBy w' b → (∀ k, b = some k → k < X ∨ Y ≤ k) → sat X Y w' x cs
  wide : ∀ {X Y X' Y' : Nat} {w : World} {x : α} {cs : List Value}, sat X Y w x cs → X' ≤ X → Y ≤ Y' → sat X' Y' w x cs
/-- A slice of its own (from block B on) that reads as l. -/
structure Lst {α : Type} (ρ : Rdg α) (B : Nat) (w : World) (e sz : Nat) (v : Value) (l : List α) (E : Nat → List Value) : Prop where
  own : w.ownsRow B e sz v l.length ((List.range l.length).flatMap E)
  each : ∀ i (h : i < l.length), ∃ X Y, B ≤ X ∧ Y ≤ w.heap.size ∧ (∀ k, v.ownBlock = some k → k < X ∨ Y ≤ k) ∧ ρ.sat X Y w l[i] (E i)
section
variable {α : Type} {ρ : Rdg α} {B : Nat} {w w' : World} {e sz : Nat} {v : Value} {l : List α} {E : Nat → List Value}
theorem Lst.nil (B : Nat) (w : World) (e sz : Nat) (h : w.ownsRow B e sz v 0 []) : Lst ρ B w e sz v [] E := ⟨h, fun i hi => by simp at hi⟩
theorem Lst.low (h : Lst ρ B w e sz v l E) {q : Nat} (hg : w.grownBy w' (some q)) (hq : q < B) : Lst ρ B w' e sz v l E :=
  ⟨own_low h.own hg hq, fun i hi => by
    obtain ⟨X, Y, h1, h2, h3, h4⟩ := h.each i hi
    exact ⟨X, Y, h1, Nat.le_trans h2 hg.size, h3, ρ.keep h4 hg (fun k hk => by have := Option.some.inj hk; omega)⟩⟩
theorem Lst.ext (h : Lst ρ B w e sz v l E) (hx : Ext w w') : Lst ρ B w' e sz v l E :=
  ⟨own_ext h.own hx, fun i hi => by
    obtain ⟨X, Y, h1, h2, h3, h4⟩ := h.each i hi
    exact ⟨X, Y, h1, Nat.le_trans h2 hx.size, h3, ρ.keep h4 (hx.grownBy none) (fun k hk => by cases hk)⟩⟩
end
/-- Numbers, as elements. -/
def rgInt : Rdg Int where
  sat := fun _ _ _ x cs => cs = [.int .i64 x]
  keep := fun h _ _ => h
  wide := fun h _ _ => h
theorem Lst.ints {B : Nat} {w : World} {e : Nat} {v : Value} {l : List Int} {E : Nat → List Value} (h : Lst rgInt B w e 1 v l E) : w.ownsRow B e 1 v l.length (l.map (Value.int .i64)) := by
  have : (List.range l.length).flatMap E = l.map (Value.int .i64) := by
    have h1 : (List.range l.length).flatMap E = (List.range l.length).flatMap fun i => [.int .i64 (nth l i)] := by
      rw [List.flatMap_def, List.flatMap_def]
      congr 1
      refine List.map_congr_left fun i hi => ?_
      have hi' := List.mem_range.1 hi
      obtain ⟨X, Y, _, _, _, h4⟩ := h.each i hi'
      rw [nth_eq hi']; exact h4
    rw [h1]
    apply List.ext_getElem?
    intro i
    have h2 : (List.range l.length).flatMap (fun i => [Value.int .i64 (nth l i)]) = (List.range l.length).map fun i => Value.int .i64 (nth l i) := by
      rw [List.flatMap_def]; induction (List.range l.length) <;> simp_all
    rw [h2]
    by_cases hi : i < l.length
    · simp [hi, nth_eq hi]
    · rw [List.getElem?_eq_none (by simp; omega), List.getElem?_eq_none (by simp; omega)]
  rw [← this]; exact h.own
end Go.Att
namespace Go.Att
end Go.Att
end
