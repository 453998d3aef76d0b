/- Whether an element makes all others: the plain law, and the contract. -/
import Derived.Test.YthjemncbphdomaaDoorF4
namespace Go.Att
/-- a is no witness against d. -/
def Wit (p a : Int) (d : Int) : Prop := a ^ ((p - 1).toNat / d.toNat) % p ≠ 1
/-- What holds of n when the first i factors have been looked at. -/
structure OInv (p a : Int) (fs : List Int) (i N : Nat) : Prop where
  pos : 1 ≤ N
  dvd : N ∣ (p - 1).toNat
  iff : N = (p - 1).toNat ↔ ∀ j, j < i → Wit p a (nth fs j)
/-- .. within the loop over one factor. -/
def OIn (p a : Int) (fs : List Int) (i N M : Nat) : Prop := 1 ≤ M ∧ M ∣ (p - 1).toNat ∧ (M = N ∨ M < N ∧ ¬ ∀ j, j < i + 1 → Wit p a (nth fs j))
section
variable {p a : Int} {fs : List Int}
theorem OInv.start (h : 1 ≤ (p - 1).toNat) : OInv p a fs 0 (p - 1).toNat := ⟨h, Nat.dvd_refl _, by simp⟩
theorem OIn.start {i N : Nat} (h : OInv p a fs i N) : OIn p a fs i N N := ⟨h.pos, h.dvd, .inl rfl⟩
theorem OIn.step {i N M D : Nat} (h : OInv p a fs i N) (hq : 1 ≤ (p - 1).toNat) (hi : OIn p a fs i N M) (hD2 : 2 ≤ D) (hD : (D : Int) = nth fs i) (hdv : D ∣ M) (h1 : a ^ (M / D) % p = 1) : OIn p a fs i N (M / D) := by
  obtain ⟨h2, h3, h4⟩ := hi
  have hlt : M / D < M := Nat.div_lt_self (by omega) (by omega)
  have hpos : 1 ≤ M / D := Nat.div_pos (Nat.le_of_dvd (by omega) hdv) (by omega)
  refine ⟨hpos, Nat.dvd_trans ⟨D, (Nat.div_mul_cancel hdv).symm⟩ h3, .inr ?_⟩
  rcases h4 with rfl | ⟨h5, h6⟩
  · refine ⟨hlt, fun hall => ?_⟩
    have hM : M = (p - 1).toNat := h.iff.2 fun j hj => hall j (by omega)
    have hw := hall i (by omega)
    unfold Wit at hw
    rw [← hD, ← hM, Int.toNat_natCast] at hw
    exact hw h1
  · exact ⟨by omega, h6⟩
theorem OIn.done {i N M D : Nat} (h : OInv p a fs i N) (hi : OIn p a fs i N M) (hD : (D : Int) = nth fs i) (hDq : D ∣ (p - 1).toNat) (hex : D ∣ M → a ^ (M / D) % p ≠ 1) : OInv p a fs (i + 1) M := by
  obtain ⟨h2, h3, h4⟩ := hi
  refine ⟨h2, h3, ?_⟩
  rcases h4 with rfl | ⟨h5, h6⟩
  · constructor
    · intro hM j hj
      rcases Nat.lt_or_eq_of_le (show j ≤ i by omega) with hj | rfl
      · exact h.iff.1 hM j hj
      · unfold Wit
        rw [← hD, Int.toNat_natCast, ← hM]
        exact hex (hM ▸ hDq)
    · intro hall; exact h.iff.2 fun j hj => hall j (by omega)
  · constructor
    · intro hM; exfalso; have := Nat.le_of_dvd (by have := h.pos; have := Nat.le_of_dvd (n := (p - 1).toNat) (m := M); omega) h.dvd; omega
    · intro hall; exact absurd hall h6
end
end Go.Att
namespace Go.Proofs.YthjemncbphdomaaDoor
open Go.RowKit Go.Att

section
variable {w : World} {f : Value} {p g : Int} {fs : List Int}
theorem power_int (hf : Fld w f p g fs) (a n : Int) (h0 : 0 ≤ n) (hn : n ≤ 9223372036854775807) :
    Calls Tryd.prog 142 #[f, .int .i64 a, .int .i64 n] w (Rd w (.int .i64 (fpow p a n.toNat))) := by
  obtain ⟨k, rfl⟩ := Int.eq_ofNat_of_zero_le h0
  rw [Int.toNat_natCast]; exact power_any hf a k (by omega)
theorem power_int_q (hf : Fld w f p g fs) (a n : Int) (h0 : 0 ≤ n) (hn : n ≤ 9223372036854775807) (m : Nat) :
    Calls Tryd.prog 142 #[f, .int .i64 a, .int .i64 n] (w.drewN m) fun e w'' => e = .returned (.int .i64 (fpow p a n.toNat)) ∧ ∃ m, w'' = w.drewN m := Calls.quiet_of (power_int (hf.drewN m) a n h0 hn)

set_option maxHeartbeats 2000000 in
theorem order_any (hf : Fld w f p g fs) (a : Int) (hfs : ∀ x ∈ fs, 2 ≤ x ∧ x ∣ ((p - 1).toNat : Int)) :
    Calls Tryd.prog 136 #[f, .int .i64 a] w (RdI w fun r => r = p - 1 ↔ ¬ p ∣ a ∧ ∀ j, j < fs.length → Wit p a (nth fs j)) := by
  have C := Lib.hid hf
  have hx := fof_bd hf.two a
  have HF := Lib.hid hfs; clear hfs
  obtain ⟨⟨b', v, hf', hc, hc1, hv, -⟩, -, lo, hi⟩ := hf
  subst hf'
  have hlen := hv.len
  have HV := Lib.hid hv
  have hl := hv.run_len (P := Tryd.prog) slInts
  clear hv
  have hQ : ((p - 1).toNat : Int) = p - 1 := by omega
  by_cases ha : fof p a = 0
  · have hb : (fof p a == 0) = true := by rw [beq_iff_eq]; exact ha
    have HA := Lib.hid (show ¬ ¬ p ∣ a from fun h => h (Int.dvd_of_emod_eq_zero ha)); clear ha hQ
    go_enter Tryd.func136, Tryd.ntmps136
    go_wp2_with (go_at_call 91; refine (of_any C.out _).mono ?_; rintro e w' ⟨rfl, m, rfl⟩)
    go_ret
    exact ⟨0, ⟨fun h => by omega, fun h => absurd h.1 HA.out⟩, rfl, _, rfl⟩
  · have hb : (fof p a == 0) = false := by rw [beq_eq_false_iff_ne]; exact ha
    have HA := Lib.hid (show ¬ p ∣ a from fun h => ha (Int.emod_eq_zero_of_dvd h)); clear ha
    have HQ := Lib.hid hQ; clear hQ
    go_enter Tryd.func136, Tryd.ntmps136
    go_wp2_with (go_at_call 91; refine (of_any C.out _).mono ?_; rintro e w' ⟨rfl, m, rfl⟩)
    go_loopw [5, 22] (fun x5 x22 wr => ∃ (i N m' : Nat), x5 = .int .i64 N ∧ x22 = .int .i64 i ∧ i ≤ fs.length ∧ N ≤ 2147483647 ∧ Hid (OInv p a fs i N) ∧ wr = w.drewN m') (fun _ x22 _ => fs.length - (intOf x22).toNat)
    case atStart => exact ⟨0, (p - 1).toNat, _, by rw [HQ.out], rfl, Nat.zero_le _, by omega, Lib.hid (OInv.start (by omega)), rfl⟩
    case round =>
      obtain ⟨i, N, m1, rfl, rfl, hi1, hN, H, rfl⟩ := hrel
      have hpos := H.out.pos
      by_cases hlt : i < fs.length
      · have hix := HV.out.run_index (P := Tryd.prog) slInts i hlt
        have hcell := HV.out.cell i hlt
        obtain ⟨hd2, hdq⟩ := HF.out (nth fs i) (nth_mem hlt)
        obtain ⟨D, hD⟩ := Int.eq_ofNat_of_zero_le (show 0 ≤ nth fs i by omega)
        rw [hD] at hcell hd2 hdq
        have HD := Lib.hid hD.symm; clear hD
        have HDQ := Lib.hid (Int.natCast_dvd_natCast.1 hdq); clear hdq
        go_wp2
        go_loopw [5] (fun x5 wr => ∃ (M m' : Nat), x5 = .int .i64 M ∧ M ≤ 2147483647 ∧ Hid (OIn p a fs i N M) ∧ wr = w.drewN m') (fun x5 _ => (intOf x5).toNat)
        case atStart => exact ⟨N, _, rfl, hN, Lib.hid (OIn.start H.out), rfl⟩
        case round =>
          obtain ⟨M, m2, rfl, hM, HM, rfl⟩ := hrel
          have hM1 := HM.out.1
          have hD2 : 2 ≤ D := by omega
          clear hix hcell
          have hbd : 0 ≤ (M : Int) / D ∧ (M : Int) / D ≤ 2147483647 := ⟨Int.ediv_nonneg (by omega) (by omega), Int.le_trans (Int.ediv_le_self _ (by omega)) (by omega)⟩
          have eN : ((M : Int) / D).toNat = M / D := by rw [← Int.natCast_ediv, Int.toNat_natCast]
          by_cases hdv : D ∣ M
          · have hm : ((M : Int) % D == 0) = true := by rw [beq_iff_eq]; exact Int.emod_eq_zero_of_dvd (Int.natCast_dvd_natCast.2 hdv)
            by_cases h1 : fpow p a ((M : Int) / D).toNat = 1
            · have hp1 : (fpow p a ((M : Int) / D).toNat == 1) = true := by rw [beq_iff_eq]; exact h1
              have hlt2 : M / D < M := Nat.div_lt_self (by omega) (by omega)
              have HN := Lib.hid (OIn.step H.out (by have := H.out.dvd; have := HQ.out; omega) HM.out hD2 HD.out hdv (by rw [eN] at h1; exact h1))
              clear h1 hdv eN
              go_wp2_with (go_at_call 142; refine (power_int (C.out.drewN _) _ _ hbd.1 (by omega)).mono ?_; rintro e w' ⟨rfl, m, rfl⟩)
              go_roundw
              case rel => exact ⟨M / D, _, by simp, by omega, HN, rfl⟩
              case measure => simp [intOf]; omega
            · have hp1 : (fpow p a ((M : Int) / D).toNat == 1) = false := by rw [beq_eq_false_iff_ne]; exact h1
              have HN := Lib.hid (OIn.done H.out HM.out HD.out HDQ.out (fun _ => by rw [eN] at h1; exact h1))
              clear h1 hdv eN
              go_wp2_with (go_at_call 142; refine (power_int (C.out.drewN _) _ _ hbd.1 (by omega)).mono ?_; rintro e w' ⟨rfl, m, rfl⟩)
              go_roundw
              case rel => exact ⟨i + 1, M, _, rfl, by go_num, by omega, hM, HN, rfl⟩
              case measure => simp [intOf]; omega
          · have hm : ((M : Int) % D == 0) = false := by rw [beq_eq_false_iff_ne]; exact fun h => hdv (Int.natCast_dvd_natCast.1 (Int.dvd_of_emod_eq_zero h))
            have HN := Lib.hid (OIn.done H.out HM.out HD.out HDQ.out (fun h => absurd h hdv))
            clear hdv eN
            go_wp2
            go_roundw
            case rel => exact ⟨i + 1, M, _, rfl, by go_num, by omega, hM, HN, rfl⟩
            case measure => simp [intOf]; omega
      · obtain rfl : i = fs.length := by omega
        go_wp2
        go_ret
        have hiff := H.out.iff
        have hq := HQ.out
        exact ⟨N, ⟨fun h => ⟨HA.out, hiff.1 (by omega)⟩, fun h => by have := hiff.2 h.2; omega⟩, rfl, _, rfl⟩
end
end Go.Proofs.YthjemncbphdomaaDoor
