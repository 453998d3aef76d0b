/- The numbers modulo a prime, as the document has them and as the program has them: contracts. What a table is at a point, the document's side: contracts. -/
import Derived.Test.YtcpnidomdkaefaaGreatDoorVc
import Derived.Test.YtcpnidomdkaefaaGreatDoorProg
import Derived.Test.YtcpnidomdkaefaaGreatDoorZx1
import Derived.Test.YtcpnidomdkaefaaGreatDoorZx9
section
/-! The numbers modulo a prime, as the document has them and as the program has them: contracts. -/
namespace Go.Proofs.YtcpnidomdkaefaaGreatDoor
open Go.RowKit Go.Att

set_option maxHeartbeats 400000 in
theorem rof_any (p n : Int) (w : World) (hp : 2 ≤ p) (hp2 : p ≤ 2147483647) :
    Calls Tryz.prog 47 #[.int .i64 p, .int .i64 n] w fun e w' => e = .returned (.int .i64 (fof p n)) ∧ w = w' := by
  obtain ⟨h1, h2, h3, h4⟩ := tm hp n
  have H3 := Lib.hid h3; have H4 := Lib.hid h4; clear h3 h4
  go_enter Tryz.func47, Tryz.ntmps47
  go_wp2
  · have hn : n.tmod p < 0 := by assumption
    go_ret; exact ⟨ret_int (H3.out hn), rfl⟩
  · have hn : 0 ≤ n.tmod p := by assumption
    go_ret; exact ⟨ret_int (H4.out hn), rfl⟩

/-! The program's. -/
section
variable {w : World} {f : Value} {p g : Int} {fs : List Int}
set_option maxHeartbeats 400000 in
theorem of_any (hf : Fld w f p g fs) (n : Int) :
    Calls Tryz.prog 83 #[f, .int .i64 n] w (Rd w (.int .i64 (fof p n))) := by
  obtain ⟨⟨b, v, rfl, hc, -, -, -⟩, -, lo, hi⟩ := hf
  obtain ⟨h1, h2, h3, h4⟩ := tm (show 2 ≤ p by omega) n
  have H3 := Lib.hid h3; have H4 := Lib.hid h4; clear h3 h4
  go_enter Tryz.func83, Tryz.ntmps83
  go_wp2
  · have hn : n.tmod p < 0 := by assumption
    go_ret; exact .same (ret_int (H3.out hn))
  · have hn : 0 ≤ n.tmod p := by assumption
    go_ret; exact .same (ret_int (H4.out hn))

/-- In a region: the same, after any draws. -/
theorem of_q (hf : Fld w f p g fs) (x : Int) (n : Nat) :
    Calls Tryz.prog 83 #[f, .int .i64 x] (w.drewN n) fun e w'' => e = .returned (.int .i64 (fof p x)) ∧ ∃ m, w'' = w.drewN m := Calls.quiet_of (of_any (hf.drewN n) x)

set_option maxHeartbeats 400000 in
theorem add_any (hf : Fld w f p g fs) (a b : Int) :
    Calls Tryz.prog 65 #[f, .int .i64 a, .int .i64 b] w (Rd w (.int .i64 (fadd p a b))) := by
  have C := Lib.hid hf
  obtain ⟨⟨b', v, hf', hc, -, -, -⟩, -, lo, hi⟩ := hf
  have hx := fof_bd (show 2 ≤ p by omega) a
  have hy := fof_bd (show 2 ≤ p by omega) b
  subst hf'
  go_enter Tryz.func65, Tryz.ntmps65
  go_wp2
  go_quiet ((go_at_call 83; exact of_q C.out _ _))
  go_wp2
  go_ret; exact .more _ (ret_int (fadd_of _ _ _))
theorem add_q (hf : Fld w f p g fs) (x y : Int) (n : Nat) :
    Calls Tryz.prog 65 #[f, .int .i64 x, .int .i64 y] (w.drewN n) fun e w'' => e = .returned (.int .i64 (fadd p x y)) ∧ ∃ m, w'' = w.drewN m := Calls.quiet_of (add_any (hf.drewN n) x y)

set_option maxHeartbeats 400000 in
theorem mul_any (hf : Fld w f p g fs) (a b : Int) :
    Calls Tryz.prog 94 #[f, .int .i64 a, .int .i64 b] w (Rd w (.int .i64 (fmul p a b))) := by
  have C := Lib.hid hf
  obtain ⟨⟨b', v, hf', hc, -, -, -⟩, -, lo, hi⟩ := hf
  have hx := fof_bd (show 2 ≤ p by omega) a
  have hy := fof_bd (show 2 ≤ p by omega) b
  have hm := mul_small (by omega) hi hx hy
  subst hf'
  go_enter Tryz.func94, Tryz.ntmps94
  go_wp2
  go_quiet ((go_at_call 83; exact of_q C.out _ _))
  go_wp2
  go_ret; exact .more _ (ret_int (fmul_of _ _ _))
theorem mul_q (hf : Fld w f p g fs) (x y : Int) (n : Nat) :
    Calls Tryz.prog 94 #[f, .int .i64 x, .int .i64 y] (w.drewN n) fun e w'' => e = .returned (.int .i64 (fmul p x y)) ∧ ∃ m, w'' = w.drewN m := Calls.quiet_of (mul_any (hf.drewN n) x y)

set_option maxHeartbeats 400000 in
theorem sub_any (hf : Fld w f p g fs) (a b : Int) :
    Calls Tryz.prog 99 #[f, .int .i64 a, .int .i64 b] w (Rd w (.int .i64 (fsub p a b))) := by
  have hx := fof_bd hf.two a
  have hy := fof_bd hf.two b
  have hi := hf.hi
  have C := Lib.hid hf; clear hf
  go_enter Tryz.func99, Tryz.ntmps99
  go_wp2_with (go_at_call 83; (first | refine (of_any C.out _).mono ?_ | refine (of_any (C.out.drewN _) _).mono ?_); rintro e w' ⟨rfl, n, rfl⟩)
  go_ret; exact .more _ (ret_int (fsub_of _ _ _))
theorem sub_q (hf : Fld w f p g fs) (x y : Int) (n : Nat) :
    Calls Tryz.prog 99 #[f, .int .i64 x, .int .i64 y] (w.drewN n) fun e w'' => e = .returned (.int .i64 (fsub p x y)) ∧ ∃ m, w'' = w.drewN m := Calls.quiet_of (sub_any (hf.drewN n) x y)
end
end Go.Proofs.YtcpnidomdkaefaaGreatDoor
/-! The document's sums and products in a region that draws. -/
namespace Go.Proofs.YtcpnidomdkaefaaGreatDoor
open Go.RowKit Go.Att
end Go.Proofs.YtcpnidomdkaefaaGreatDoor
/-! Powers, primes, the making of a field: contracts. -/
namespace Go.Proofs.YtcpnidomdkaefaaGreatDoor
open Go.RowKit Go.Att

section
variable {w : World} {f : Value} {p g : Int} {fs : List Int}
set_option maxHeartbeats 1000000 in
theorem power_any (hf : Fld w f p g fs) (a : Int) (n : Nat) (hn : n ≤ 9223372036854775807) :
    Calls Tryz.prog 97 #[f, .int .i64 a, .int .i64 n] w (Rd w (.int .i64 (fpow p a n))) := by
  have C := Lib.hid hf
  have hx := fof_bd hf.two a
  obtain ⟨⟨b', v, hf', hc, -, -, -⟩, -, lo, hi⟩ := hf
  subst hf'
  go_enter Tryz.func97, Tryz.ntmps97
  go_wp2_with (go_at_call 83; refine (of_any C.out _).mono ?_; rintro e w' ⟨rfl, m, rfl⟩)
  go_loopw [1, 2, 7] (fun x1 x2 x7 wr => ∃ (A X : Int) (k m : Nat), x1 = .int .i64 A ∧ x2 = .int .i64 k ∧ x7 = .int .i64 X ∧ 0 ≤ A ∧ A < p ∧ 0 ≤ X ∧ X < p ∧ k ≤ n ∧ Hid ((X * A ^ k) % p = fpow p a n) ∧ wr = w.drewN m) (fun _ x2 _ _ => (intOf x2).toNat)
  case atStart => exact ⟨_, _, n, _, rfl, rfl, rfl, hx.1, hx.2, by omega, by omega, Nat.le_refl _, Lib.hid (by simp [fof, fpow, pow_mod]), rfl⟩
  case round =>
    obtain ⟨A, X, k, m', rfl, rfl, rfl, hA0, hA1, hX0, hX1, hkn, H, rfl⟩ := hrel
    have hmA := mul_small (show 2 ≤ p by omega) hi ⟨hA0, hA1⟩ ⟨hA0, hA1⟩
    have hmX := mul_small (show 2 ≤ p by omega) hi ⟨hX0, hX1⟩ ⟨hA0, hA1⟩
    have bA := mod_bd (show 2 ≤ p by omega) (A * A)
    have bX := mod_bd (show 2 ≤ p by omega) (X * A)
    by_cases hk : 0 < k
    · have H2 := Lib.hid (pow_step H.out)
      rcases Nat.mod_two_eq_zero_or_one k with ho | ho
      · have hb : (bits BinOp.and IntKind.i64 (↑k) 1 == 1) = false := by rw [i64_and_one k (by omega), ho]; rfl
        have HO := Lib.hid ho; clear ho H
        go_wp2
        go_roundw
        case rel => exact ⟨_, _, k / 2, _, rfl, by go_num, rfl, bA.1, bA.2, hX0, hX1, by omega, Lib.hid (by have := H2.out; rw [HO.out, Int.pow_zero, Int.mul_one, Int.emod_eq_of_lt hX0 hX1] at this; exact this), rfl⟩
        case measure => simp [intOf]; omega
      · have hb : (bits BinOp.and IntKind.i64 (↑k) 1 == 1) = true := by rw [i64_and_one k (by omega), ho]; rfl
        have HO := Lib.hid ho; clear ho H
        go_wp2
        go_roundw
        case rel => exact ⟨_, _, k / 2, _, rfl, by go_num, rfl, bA.1, bA.2, bX.1, bX.2, by omega, Lib.hid (by have := H2.out; rw [HO.out, Int.pow_succ, Int.pow_zero, Int.one_mul] at this; exact this), rfl⟩
        case measure => simp [intOf]; omega
    · obtain rfl : k = 0 := by omega
      go_wp2
      go_ret
      exact .more _ (ret_int (by have := H.out; rw [Int.pow_zero, Int.mul_one, Int.emod_eq_of_lt hX0 hX1] at this; exact this))
end
end Go.Proofs.YtcpnidomdkaefaaGreatDoor
/-! Whether a number is a prime; the primes that divide one: contracts. -/
namespace Go.Proofs.YtcpnidomdkaefaaGreatDoor
open Go.RowKit Go.Att

theorem slInts : SlT Tryz.prog 22 3 1 8 (.int .i64 0) := SlT.mk' Tryz.underlying22 (by kernel_rfl) (by decide)

/-- A prime that may be. -/
def okP (p : Int) : Prop := Pr p ∧ 3 ≤ p ∧ p ≤ 2147483647
noncomputable def okB (p : Int) : Bool := @decide (okP p) (Classical.propDecidable _)
theorem okB_true {p : Int} (h : okP p) : okB p = true := @decide_eq_true _ (Classical.propDecidable _) h
theorem okB_false {p : Int} (h : ¬ okP p) : okB p = false := @decide_eq_false _ (Classical.propDecidable _) h

theorem sq_le {k p : Int} (h0 : 0 ≤ k) (h : k * k ≤ p) (hp : p ≤ 2147483647) : k ≤ 46340 := by
  rcases Int.lt_or_le 46340 k with h1 | h1
  · have : 46341 * 46341 ≤ k * k := Int.mul_le_mul (by omega) (by omega) (by omega) h0
    omega
  · exact h1
theorem sq_bd {k : Int} (h0 : 0 ≤ k) (h : k ≤ 46341) : 0 ≤ k * k ∧ k * k ≤ 2147488281 := by
  have h1 : k * k ≤ 46341 * 46341 := Int.mul_le_mul h h h0 (by omega)
  exact ⟨Int.mul_nonneg h0 h0, by omega⟩
/-- No divisor up to the root: a prime. -/
theorem prime_end {p k : Int} (hp : 2 ≤ p) (hk : p < k * k) (hk0 : 2 ≤ k) (h : ∀ d : Int, 2 ≤ d → d < k → ¬ d ∣ p) : Pr p := by
  refine ⟨hp, fun d h2 hd => h d h2 ?_⟩
  rcases Int.lt_or_le d k with h1 | h1
  · exact h1
  · have : k * k ≤ d * d := Int.mul_le_mul h1 h1 (by omega) (by omega)
    omega
theorem not_div_step {p k : Int} (h : ∀ d : Int, 2 ≤ d → d < k → ¬ d ∣ p) (hk : ¬ k ∣ p) : ∀ d : Int, 2 ≤ d → d < k + 1 → ¬ d ∣ p := by
  intro d h2 hd
  rcases Int.lt_or_eq_of_le (show d ≤ k by omega) with h1 | rfl
  · exact h d h2 h1
  · exact hk

set_option maxHeartbeats 1000000 in
/-- The document's test. -/
theorem rprime_any (p : Int) (w : World) :
    Calls Tryz.prog 136 #[.int .i64 p] w fun e w' => e = .returned (.bool (okB p)) ∧ w = w' := by
  by_cases h3 : p < 3
  · have HB := Lib.hid <| okB_false (fun h : okP p => by have := h.2.1; omega)
    go_enter Tryz.func136, Tryz.ntmps136
    go_wp2
    go_ret; exact ⟨ret_bool HB.out.symm, rfl⟩
  · by_cases h4 : 2147483647 < p
    · have HB := Lib.hid <| okB_false (fun h : okP p => by have := h.2.2; omega)
      go_enter Tryz.func136, Tryz.ntmps136
      go_wp2
      go_ret; exact ⟨ret_bool HB.out.symm, rfl⟩
    · go_enter Tryz.func136, Tryz.ntmps136
      go_wp2
      go_loop [3] (fun x => ∃ k : Int, x = .int .i64 k ∧ 2 ≤ k ∧ k ≤ 46341 ∧ Hid (∀ d : Int, 2 ≤ d → d < k → ¬ d ∣ p)) (fun x => (46341 - intOf x).toNat)
      case atStart => exact ⟨2, rfl, by omega, by omega, Lib.hid (fun d h1 h2 => by omega)⟩
      case round =>
        obtain ⟨k, rfl, hk2, hk3, H⟩ := hrel
        have hs := sq_bd (show 0 ≤ k by omega) hk3
        by_cases hle : k * k ≤ p
        · have hk4 := sq_le (show 0 ≤ k by omega) hle (by omega)
          by_cases hd : k ∣ p
          · have HB := Lib.hid <| okB_false (fun h : okP p => h.1.no k hk2 hle hd)
            have hm : (p % k == 0) = true := by rw [beq_iff_eq]; exact Int.emod_eq_zero_of_dvd hd
            go_wp2
            go_ret; exact ⟨ret_bool HB.out.symm, rfl⟩
          · have hm : (p % k == 0) = false := by rw [beq_eq_false_iff_ne]; exact fun h => hd (Int.dvd_of_emod_eq_zero h)
            have H' := Lib.hid (not_div_step H.out hd)
            clear hd
            go_wp2
            go_round
            case rel => exact ⟨k + 1, rfl, by omega, by omega, H'⟩
            case measure => simp [intOf]; omega
        · have HB := Lib.hid <| okB_true (show okP p from ⟨prime_end (by omega) (by omega) hk2 H.out, by omega, by omega⟩)
          go_wp2
          go_ret; exact ⟨ret_bool HB.out.symm, rfl⟩

set_option maxHeartbeats 1000000 in
/-- The program's test, of numbers that are not too great. -/
theorem prime_any (p : Int) (w : World) (h3 : 3 ≤ p) (h4 : p ≤ 2147483647) :
    Calls Tryz.prog 161 #[.int .i64 p] w fun e w' => e = .returned (.bool (okB p)) ∧ w = w' := by
  go_enter Tryz.func161, Tryz.ntmps161
  go_wp2
  go_loop [3] (fun x => ∃ k : Int, x = .int .i64 k ∧ 2 ≤ k ∧ k ≤ 46341 ∧ Hid (∀ d : Int, 2 ≤ d → d < k → ¬ d ∣ p)) (fun x => (46341 - intOf x).toNat)
  case atStart => exact ⟨2, rfl, by omega, by omega, Lib.hid (fun d h1 h2 => by omega)⟩
  case round =>
    obtain ⟨k, rfl, hk2, hk3, H⟩ := hrel
    have hs := sq_bd (show 0 ≤ k by omega) hk3
    by_cases hle : k * k ≤ p
    · have hk4 := sq_le (show 0 ≤ k by omega) hle (by omega)
      by_cases hd : k ∣ p
      · have HB := Lib.hid <| okB_false (fun h : okP p => h.1.no k hk2 hle hd)
        have hm : (p % k == 0) = true := by rw [beq_iff_eq]; exact Int.emod_eq_zero_of_dvd hd
        go_wp2
        go_ret; exact ⟨ret_bool HB.out.symm, rfl⟩
      · have hm : (p % k == 0) = false := by rw [beq_eq_false_iff_ne]; exact fun h => hd (Int.dvd_of_emod_eq_zero h)
        have H' := Lib.hid (not_div_step H.out hd)
        clear hd
        go_wp2
        go_round
        case rel => exact ⟨k + 1, rfl, by omega, by omega, H'⟩
        case measure => simp [intOf]; omega
    · have HB := Lib.hid <| okB_true (show okP p from ⟨prime_end (by omega) (by omega) hk2 H.out, by omega, by omega⟩)
      go_wp2
      go_ret; exact ⟨ret_bool (by rw [HB.out]; simp; omega), rfl⟩
end Go.Proofs.YtcpnidomdkaefaaGreatDoor
end
section
/-! What a table is at a point, the document's side: contracts. -/
namespace Go.Att
open Go.RowKit
end Go.Att
namespace Go.Proofs.YtcpnidomdkaefaaGreatDoor
open Go.RowKit Go.Att

end Go.Proofs.YtcpnidomdkaefaaGreatDoor
/-! What a table that is 1 at a place is at a point, both sides: contracts. -/
namespace Go.Att
theorem wU_step1 (p : Int) (l : List Int) (i k : Nat) (h : i / 2 ^ (l.length - 1 - k) % 2 = 1) : fmul p (wU l i k % p) (nth l k) = wU l i (k + 1) % p := by
  have d : dig l.length i k = 1 := h
  simp only [wU, wf, d, if_true, fmul, em_l]
theorem wU_step0 (p : Int) (l : List Int) (i k : Nat) (h : i / 2 ^ (l.length - 1 - k) % 2 = 0) : fmul p (wU l i k % p) (fsub p 1 (nth l k)) = wU l i (k + 1) % p := by
  have d : dig l.length i k ≠ 1 := by unfold dig; omega
  simp only [wU, wf, if_neg d, fmul, fsub, em_l, em_r]
end Go.Att
namespace Go.Proofs.YtcpnidomdkaefaaGreatDoor
open Go.RowKit Go.Att

section
variable {w : World} {f : Value} {p g : Int} {fs : List Int}
set_option maxRecDepth 100000 in
set_option maxHeartbeats 1000000 in
theorem unit_any (hf : Fld w f p g fs) (v : Value) (l : List Int) (i : Nat) (hv : Ints w v l) (hl : l.length ≤ 30) (hi : i ≤ 9223372036854775807) :
    Calls Tryz.prog 44 #[f, .int .i64 i, v] w (Rd w (.int .i64 (wgt l i % p))) := by
  have hlv := hv.run_len (P := Tryz.prog) slInts
  have lo := hf.lo
  have h1p : (1 : Int) % p = 1 := Int.emod_eq_of_lt (by omega) (by omega)
  have HV := Lib.hid hv; have C := Lib.hid hf; clear hv hf
  go_enter Tryz.func44, Tryz.ntmps44
  go_wp2_with fail
  go_loopw [7, 8, 9, 12] (fun x7 _ _ x12 wr => ∃ k m : Nat, k ≤ l.length ∧ x12 = .int .i64 k ∧ x7 = .int .i64 (wU l i k % p) ∧ wr = w.drewN m) (fun _ _ _ x12 _ => l.length - (intOf x12).toNat)
  case atStart => exact ⟨0, 0, Nat.zero_le _, rfl, by rw [wU, h1p], rfl⟩
  case round =>
    obtain ⟨k, m, hk, rfl, rfl, rfl⟩ := hrel
    by_cases hkl : k < l.length
    · have hix := HV.out.run_index (P := Tryz.prog) slInts k hkl
      have hcell := HV.out.cell k hkl
      have hcs : ((i : Int) / 2 ^ (l.length - 1 - k)) = ((i / 2 ^ (l.length - 1 - k) : Nat) : Int) := by simp
      have hle : i / 2 ^ (l.length - 1 - k) ≤ i := Nat.div_le_self _ _
      have hand := i64_and_one (i / 2 ^ (l.length - 1 - k)) (by omega)
      rw [← hcs] at hand
      rcases Nat.mod_two_eq_zero_or_one (i / 2 ^ (l.length - 1 - k)) with hb | hb
      · have S := Lib.hid (wU_step0 p l i k hb)
        have hbb : (bits BinOp.and IntKind.i64 ((i : Int) / 2 ^ (l.length - 1 - k)) 1 == 1) = false := by rw [hand, hb]; rfl
        clear hcs hle hand hb
        go_wp2_with (first | (go_at_call 99; refine (sub_any (C.out.drewN _) _ _).mono ?_; rintro e w' ⟨rfl, m2, rfl⟩) | (go_at_call 94; refine (mul_any (C.out.drewN _) _ _).mono ?_; rw [S.out]; rintro e w' ⟨rfl, m3, rfl⟩))
        go_roundw
        case rel => exact ⟨k + 1, _, by omega, by go_num, rfl, rfl⟩
        case measure => simp [intOf]; omega
      · have S := Lib.hid (wU_step1 p l i k hb)
        have hbb : (bits BinOp.and IntKind.i64 ((i : Int) / 2 ^ (l.length - 1 - k)) 1 == 1) = true := by rw [hand, hb]; rfl
        clear hcs hle hand hb
        go_wp2_with (go_at_call 94; refine (mul_any (C.out.drewN _) _ _).mono ?_; rw [S.out]; rintro e w' ⟨rfl, m3, rfl⟩)
        go_roundw
        case rel => exact ⟨k + 1, _, by omega, by go_num, rfl, rfl⟩
        case measure => simp [intOf]; omega
    · obtain rfl : k = l.length := by omega
      go_wp2_with fail
      go_ret
      exact .more _ rfl
end
end Go.Proofs.YtcpnidomdkaefaaGreatDoor
end
