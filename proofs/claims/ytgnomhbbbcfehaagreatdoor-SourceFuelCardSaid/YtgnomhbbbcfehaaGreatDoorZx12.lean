/- The numbers modulo a prime, as the document has them and as the program has them: contracts. The primes that divide a number: the loop's plain law, and the contract. -/
import Derived.Test.YtgnomhbbbcfehaaGreatDoorVc
import Derived.Test.YtgnomhbbbcfehaaGreatDoorProg
import Derived.Test.YtgnomhbbbcfehaaGreatDoorPl
section
/-! The numbers modulo a prime, as the document has them and as the program has them: contracts. -/
namespace Go.Proofs.YtgnomhbbbcfehaaGreatDoor
open Go.RowKit Go.Att

/-! The program's. -/
section
variable {w : World} {f : Value} {p g : Int} {fs : List Int}
set_option maxHeartbeats 400000 in
theorem of_any (hf : Fld w f p g fs) (n : Int) :
    Calls Tryz.prog 33 #[f, .int .i64 n] w (Rd w (.int .i64 (fof p n))) := by
  obtain ⟨⟨b, v, rfl, hc, -, -, -⟩, -, lo, hi⟩ := hf
  obtain ⟨h1, h2, h3, h4⟩ := tm (show 2 ≤ p by omega) n
  have H3 := Lib.hid h3; have H4 := Lib.hid h4; clear h3 h4
  go_enter Tryz.func33, Tryz.ntmps33
  go_wp2
  · have hn : n.tmod p < 0 := by assumption
    go_ret; exact .same (ret_int (H3.out hn))
  · have hn : 0 ≤ n.tmod p := by assumption
    go_ret; exact .same (ret_int (H4.out hn))

theorem of_q (hf : Fld w f p g fs) (x : Int) (n : Nat) :
    Calls Tryz.prog 33 #[f, .int .i64 x] (w.drewN n) fun e w'' => e = .returned (.int .i64 (fof p x)) ∧ ∃ m, w'' = w.drewN m := Calls.quiet_of (of_any (hf.drewN n) x)

set_option maxHeartbeats 400000 in
theorem add_any (hf : Fld w f p g fs) (a b : Int) :
    Calls Tryz.prog 136 #[f, .int .i64 a, .int .i64 b] w (Rd w (.int .i64 (fadd p a b))) := by
  have C := Lib.hid hf
  obtain ⟨⟨b', v, hf', hc, -, -, -⟩, -, lo, hi⟩ := hf
  have hx := fof_bd (show 2 ≤ p by omega) a
  have hy := fof_bd (show 2 ≤ p by omega) b
  subst hf'
  go_enter Tryz.func136, Tryz.ntmps136
  go_wp2
  go_quiet ((go_at_call 33; exact of_q C.out _ _))
  go_wp2
  go_ret; exact .more _ (ret_int (fadd_of _ _ _))
theorem add_q (hf : Fld w f p g fs) (x y : Int) (n : Nat) :
    Calls Tryz.prog 136 #[f, .int .i64 x, .int .i64 y] (w.drewN n) fun e w'' => e = .returned (.int .i64 (fadd p x y)) ∧ ∃ m, w'' = w.drewN m := Calls.quiet_of (add_any (hf.drewN n) x y)

set_option maxHeartbeats 400000 in
theorem mul_any (hf : Fld w f p g fs) (a b : Int) :
    Calls Tryz.prog 138 #[f, .int .i64 a, .int .i64 b] w (Rd w (.int .i64 (fmul p a b))) := by
  have C := Lib.hid hf
  obtain ⟨⟨b', v, hf', hc, -, -, -⟩, -, lo, hi⟩ := hf
  have hx := fof_bd (show 2 ≤ p by omega) a
  have hy := fof_bd (show 2 ≤ p by omega) b
  have hm := mul_small (by omega) hi hx hy
  subst hf'
  go_enter Tryz.func138, Tryz.ntmps138
  go_wp2
  go_quiet ((go_at_call 33; exact of_q C.out _ _))
  go_wp2
  go_ret; exact .more _ (ret_int (fmul_of _ _ _))
theorem mul_q (hf : Fld w f p g fs) (x y : Int) (n : Nat) :
    Calls Tryz.prog 138 #[f, .int .i64 x, .int .i64 y] (w.drewN n) fun e w'' => e = .returned (.int .i64 (fmul p x y)) ∧ ∃ m, w'' = w.drewN m := Calls.quiet_of (mul_any (hf.drewN n) x y)

set_option maxHeartbeats 400000 in
theorem sub_any (hf : Fld w f p g fs) (a b : Int) :
    Calls Tryz.prog 137 #[f, .int .i64 a, .int .i64 b] w (Rd w (.int .i64 (fsub p a b))) := by
  have hx := fof_bd hf.two a
  have hy := fof_bd hf.two b
  have hi := hf.hi
  have C := Lib.hid hf; clear hf
  go_enter Tryz.func137, Tryz.ntmps137
  go_wp2_with (go_at_call 33; (first | refine (of_any C.out _).mono ?_ | refine (of_any (C.out.drewN _) _).mono ?_); rintro e w' ⟨rfl, n, rfl⟩)
  go_ret; exact .more _ (ret_int (fsub_of _ _ _))
theorem sub_q (hf : Fld w f p g fs) (x y : Int) (n : Nat) :
    Calls Tryz.prog 137 #[f, .int .i64 x, .int .i64 y] (w.drewN n) fun e w'' => e = .returned (.int .i64 (fsub p x y)) ∧ ∃ m, w'' = w.drewN m := Calls.quiet_of (sub_any (hf.drewN n) x y)
end
end Go.Proofs.YtgnomhbbbcfehaaGreatDoor
/-! The document's sums and products in a region that draws. -/
namespace Go.Proofs.YtgnomhbbbcfehaaGreatDoor
open Go.RowKit Go.Att
end Go.Proofs.YtgnomhbbbcfehaaGreatDoor
/-! Powers, primes, the making of a field: contracts. -/
namespace Go.Proofs.YtgnomhbbbcfehaaGreatDoor
open Go.RowKit Go.Att

section
variable {w : World} {f : Value} {p g : Int} {fs : List Int}
set_option maxHeartbeats 1000000 in
theorem power_any (hf : Fld w f p g fs) (a : Int) (n : Nat) (hn : n ≤ 9223372036854775807) :
    Calls Tryz.prog 86 #[f, .int .i64 a, .int .i64 n] w (Rd w (.int .i64 (fpow p a n))) := by
  have C := Lib.hid hf
  have hx := fof_bd hf.two a
  obtain ⟨⟨b', v, hf', hc, -, -, -⟩, -, lo, hi⟩ := hf
  subst hf'
  go_enter Tryz.func86, Tryz.ntmps86
  go_wp2_with (go_at_call 33; refine (of_any C.out _).mono ?_; rintro e w' ⟨rfl, m, rfl⟩)
  go_loopw [1, 2, 7] (fun x1 x2 x7 wr => ∃ (A X : Int) (k m : Nat), x1 = .int .i64 A ∧ x2 = .int .i64 k ∧ x7 = .int .i64 X ∧ 0 ≤ A ∧ A < p ∧ 0 ≤ X ∧ X < p ∧ k ≤ n ∧ Hid ((X * A ^ k) % p = fpow p a n) ∧ wr = w.drewN m) (fun _ x2 _ _ => (intOf x2).toNat)
  case atStart => exact ⟨_, _, n, _, rfl, rfl, rfl, hx.1, hx.2, by omega, by omega, Nat.le_refl _, Lib.hid (by simp [fof, fpow, pow_mod]), rfl⟩
  case round =>
    obtain ⟨A, X, k, m', rfl, rfl, rfl, hA0, hA1, hX0, hX1, hkn, H, rfl⟩ := hrel
    have hmA := mul_small (show 2 ≤ p by omega) hi ⟨hA0, hA1⟩ ⟨hA0, hA1⟩
    have hmX := mul_small (show 2 ≤ p by omega) hi ⟨hX0, hX1⟩ ⟨hA0, hA1⟩
    have bA := mod_bd (show 2 ≤ p by omega) (A * A)
    have bX := mod_bd (show 2 ≤ p by omega) (X * A)
    by_cases hk : 0 < k
    · have H2 := Lib.hid (pow_step H.out)
      rcases Nat.mod_two_eq_zero_or_one k with ho | ho
      · have hb : (bits BinOp.and IntKind.i64 (↑k) 1 == 1) = false := by rw [i64_and_one k (by omega), ho]; rfl
        have HO := Lib.hid ho; clear ho H
        go_wp2
        go_roundw
        case rel => exact ⟨_, _, k / 2, _, rfl, by go_num, rfl, bA.1, bA.2, hX0, hX1, by omega, Lib.hid (by have := H2.out; rw [HO.out, Int.pow_zero, Int.mul_one, Int.emod_eq_of_lt hX0 hX1] at this; exact this), rfl⟩
        case measure => simp [intOf]; omega
      · have hb : (bits BinOp.and IntKind.i64 (↑k) 1 == 1) = true := by rw [i64_and_one k (by omega), ho]; rfl
        have HO := Lib.hid ho; clear ho H
        go_wp2
        go_roundw
        case rel => exact ⟨_, _, k / 2, _, rfl, by go_num, rfl, bA.1, bA.2, bX.1, bX.2, by omega, Lib.hid (by have := H2.out; rw [HO.out, Int.pow_succ, Int.pow_zero, Int.one_mul] at this; exact this), rfl⟩
        case measure => simp [intOf]; omega
    · obtain rfl : k = 0 := by omega
      go_wp2
      go_ret
      exact .more _ (ret_int (by have := H.out; rw [Int.pow_zero, Int.mul_one, Int.emod_eq_of_lt hX0 hX1] at this; exact this))
end
end Go.Proofs.YtgnomhbbbcfehaaGreatDoor
/-! Whether a number is a prime; the primes that divide one: contracts. -/
namespace Go.Proofs.YtgnomhbbbcfehaaGreatDoor
open Go.RowKit Go.Att

theorem slInts : SlT Tryz.prog 22 3 1 8 (.int .i64 0) := SlT.mk' Tryz.underlying22 (by kernel_rfl) (by decide)

def okP (p : Int) : Prop := Pr p ∧ 3 ≤ p ∧ p ≤ 2147483647
noncomputable def okB (p : Int) : Bool := @decide (okP p) (Classical.propDecidable _)
theorem okB_true {p : Int} (h : okP p) : okB p = true := @decide_eq_true _ (Classical.propDecidable _) h
theorem okB_false {p : Int} (h : ¬ okP p) : okB p = false := @decide_eq_false _ (Classical.propDecidable _) h

theorem sq_le {k p : Int} (h0 : 0 ≤ k) (h : k * k ≤ p) (hp : p ≤ 2147483647) : k ≤ 46340 := by
  rcases Int.lt_or_le 46340 k with h1 | h1
  · have : 46341 * 46341 ≤ k * k := Int.mul_le_mul (by omega) (by omega) (by omega) h0
    omega
  · exact h1
theorem sq_bd {k : Int} (h0 : 0 ≤ k) (h : k ≤ 46341) : 0 ≤ k * k ∧ k * k ≤ 2147488281 := by
  have h1 : k * k ≤ 46341 * 46341 := Int.mul_le_mul h h h0 (by omega)
  exact ⟨Int.mul_nonneg h0 h0, by omega⟩
theorem prime_end {p k : Int} (hp : 2 ≤ p) (hk : p < k * k) (hk0 : 2 ≤ k) (h : ∀ d : Int, 2 ≤ d → d < k → ¬ d ∣ p) : Pr p := by
  refine ⟨hp, fun d h2 hd => h d h2 ?_⟩
  rcases Int.lt_or_le d k with h1 | h1
  · exact h1
  · have : k * k ≤ d * d := Int.mul_le_mul h1 h1 (by omega) (by omega)
    omega
theorem not_div_step {p k : Int} (h : ∀ d : Int, 2 ≤ d → d < k → ¬ d ∣ p) (hk : ¬ k ∣ p) : ∀ d : Int, 2 ≤ d → d < k + 1 → ¬ d ∣ p := by
  intro d h2 hd
  rcases Int.lt_or_eq_of_le (show d ≤ k by omega) with h1 | rfl
  · exact h d h2 h1
  · exact hk

set_option maxHeartbeats 1000000 in
theorem prime_any (p : Int) (w : World) (h3 : 3 ≤ p) (h4 : p ≤ 2147483647) :
    Calls Tryz.prog 44 #[.int .i64 p] w fun e w' => e = .returned (.bool (okB p)) ∧ w = w' := by
  go_enter Tryz.func44, Tryz.ntmps44
  go_wp2
  go_loop [3] (fun x => ∃ k : Int, x = .int .i64 k ∧ 2 ≤ k ∧ k ≤ 46341 ∧ Hid (∀ d : Int, 2 ≤ d → d < k → ¬ d ∣ p)) (fun x => (46341 - intOf x).toNat)
  case atStart => exact ⟨2, rfl, by omega, by omega, Lib.hid (fun d h1 h2 => by omega)⟩
  case round =>
    obtain ⟨k, rfl, hk2, hk3, H⟩ := hrel
    have hs := sq_bd (show 0 ≤ k by omega) hk3
    by_cases hle : k * k ≤ p
    · have hk4 := sq_le (show 0 ≤ k by omega) hle (by omega)
      by_cases hd : k ∣ p
      · have HB := Lib.hid <| okB_false (fun h : okP p => h.1.no k hk2 hle hd)
        have hm : (p % k == 0) = true := by rw [beq_iff_eq]; exact Int.emod_eq_zero_of_dvd hd
        go_wp2
        go_ret; exact ⟨ret_bool HB.out.symm, rfl⟩
      · have hm : (p % k == 0) = false := by rw [beq_eq_false_iff_ne]; exact fun h => hd (Int.dvd_of_emod_eq_zero h)
        have H' := Lib.hid (not_div_step H.out hd)
        clear hd
        go_wp2
        go_round
        case rel => exact ⟨k + 1, rfl, by omega, by omega, H'⟩
        case measure => simp [intOf]; omega
    · have HB := Lib.hid <| okB_true (show okP p from ⟨prime_end (by omega) (by omega) hk2 H.out, by omega, by omega⟩)
      go_wp2
      go_ret; exact ⟨ret_bool (by rw [HB.out]; simp; omega), rfl⟩
end Go.Proofs.YtgnomhbbbcfehaaGreatDoor
end
section
/-! The primes that divide a number: the loop's plain law, and the contract. -/
namespace Go.Att
structure PInv (N0 N D : Nat) (fs : List Int) : Prop where
  pos : 1 ≤ N
  dvd : N ∣ N0
  small : ∀ d, 2 ≤ d → d < D → ¬ d ∣ N
  mem : ∀ x ∈ fs, 2 ≤ x ∧ x ∣ (N0 : Int)
  cov : ∀ q, PrN q → q ∣ N0 → (q : Int) ∈ fs ∨ q ∣ N
  len : fs.length + 2 ≤ D
  two : 2 ≤ D
theorem PrN.euclid {q a b : Nat} (h : PrN q) (hd : q ∣ a * b) : q ∣ a ∨ q ∣ b := by
  by_cases ha : q ∣ a
  · exact .inl ha
  · exact .inr (Nat.Coprime.dvd_of_dvd_mul_left (h.coprime ha) hd)
theorem PInv.start {N0 : Nat} (h : 1 ≤ N0) : PInv N0 N0 2 [] := ⟨h, Nat.dvd_refl _, fun d h1 h2 => by omega, by simp, fun q _ h => .inr h, by simp, by omega⟩
theorem PInv.skip {N0 N D : Nat} {fs : List Int} (h : PInv N0 N D fs) (hd : ¬ D ∣ N) : PInv N0 N (D + 1) fs :=
  ⟨h.pos, h.dvd, fun d h1 h2 => by rcases Nat.lt_or_eq_of_le (show d ≤ D by omega) with h3 | rfl; exact h.small d h1 h3; exact hd, h.mem, h.cov, by have := h.len; omega, by have := h.two; omega⟩
def PIn (N D M : Nat) : Prop := 1 ≤ M ∧ M ∣ N ∧ ∀ q, PrN q → q ∣ N → q = D ∨ q ∣ M
theorem PIn.start {N D : Nat} (h : 1 ≤ N) : PIn N D N := ⟨h, Nat.dvd_refl _, fun _q _ h => .inr h⟩
theorem PIn.step {N0 N D M : Nat} {fs : List Int} (hp : PInv N0 N D fs) (h : PIn N D M) (hd : D ∣ M) : PIn N D (M / D) := by
  obtain ⟨h1, h2, h3⟩ := h
  have htwo := hp.two
  obtain ⟨k, rfl⟩ := hd
  have e : D * k / D = k := Nat.mul_div_cancel_left k (by omega)
  rw [e]
  refine ⟨?_, Nat.dvd_trans ⟨D, Nat.mul_comm _ _⟩ h2, fun q hq hqN => ?_⟩
  · rcases Nat.eq_zero_or_pos k with rfl | h0
    · omega
    · exact h0
  · rcases h3 q hq hqN with h4 | h4
    · exact .inl h4
    · rcases hq.euclid h4 with h5 | h5
      · left
        rcases Nat.lt_or_ge q D with h6 | h6
        · exact absurd hqN (hp.small q hq.1 h6)
        · have := Nat.le_of_dvd (by omega) h5; omega
      · exact .inr h5
theorem PInv.take {N0 N D M : Nat} {fs : List Int} (hp : PInv N0 N D fs) (hD : D ∣ N) (h : PIn N D M) (hd : ¬ D ∣ M) : PInv N0 M (D + 1) (fs ++ [(D : Int)]) := by
  obtain ⟨h1, h2, h3⟩ := h
  refine ⟨h1, Nat.dvd_trans h2 hp.dvd, fun d k1 k2 k3 => ?_, fun x hx => ?_, fun q hq hqN => ?_, by have := hp.len; simp; omega, by have := hp.two; omega⟩
  · rcases Nat.lt_or_eq_of_le (show d ≤ D by omega) with h4 | rfl
    · exact hp.small d k1 h4 (Nat.dvd_trans k3 h2)
    · exact hd k3
  · rcases List.mem_append.1 hx with h4 | h4
    · exact hp.mem x h4
    · simp at h4; subst h4
      exact ⟨by have := hp.two; omega, Int.natCast_dvd_natCast.2 (Nat.dvd_trans hD hp.dvd)⟩
  · rcases hp.cov q hq hqN with h4 | h4
    · exact .inl (by simp [h4])
    · rcases h3 q hq h4 with rfl | h5
      · exact .inl (by simp)
      · exact .inr h5
def PrimesOf (N0 : Nat) (fs : List Int) : Prop := (∀ x ∈ fs, 2 ≤ x ∧ x ∣ (N0 : Int)) ∧ ∀ q, PrN q → q ∣ N0 → (q : Int) ∈ fs
theorem PInv.end_one {N0 N D : Nat} {fs : List Int} (hp : PInv N0 N D fs) (h : N ≤ 1) : PrimesOf N0 fs := by
  refine ⟨hp.mem, fun q hq hqN => (hp.cov q hq hqN).resolve_right fun hd => ?_⟩
  have := Nat.le_of_dvd hp.pos hd
  have := hq.1; omega
theorem PInv.end_more {N0 N D : Nat} {fs : List Int} (hp : PInv N0 N D fs) (h : 1 < N) (hs : N < D * D) : PrimesOf N0 (fs ++ [(N : Int)]) := by
  refine ⟨fun x hx => ?_, fun q hq hqN => ?_⟩
  · rcases List.mem_append.1 hx with h4 | h4
    · exact hp.mem x h4
    · simp at h4; subst h4
      exact ⟨by omega, Int.natCast_dvd_natCast.2 hp.dvd⟩
  · rcases hp.cov q hq hqN with h4 | ⟨m, hm⟩
    · simp [h4]
    · have hqD : D ≤ q := Nat.le_of_not_lt fun hlt => hp.small q hq.1 hlt ⟨m, hm⟩
      have hm1 : m = 1 := by
        rcases Nat.lt_trichotomy m 1 with h1 | h1 | h1
        · have : m = 0 := by omega
          subst this; omega
        · exact h1
        · have hmD : D ≤ m := Nat.le_of_not_lt fun hlt => hp.small m h1 hlt ⟨q, by rw [hm, Nat.mul_comm]⟩
          have := Nat.mul_le_mul hqD hmD
          omega
      subst hm1
      simp at hm; subst hm; simp
end Go.Att
namespace Go.Proofs.YtgnomhbbbcfehaaGreatDoor
open Go.RowKit Go.Att
theorem sq_le_nat {k p : Nat} (h : k * k ≤ p) (hp : p ≤ 2147483647) : k ≤ 46340 := by
  rcases Nat.lt_or_ge 46340 k with h1 | h1
  · have : 46341 * 46341 ≤ k * k := Nat.mul_le_mul h1 h1
    omega
  · exact h1

set_option maxHeartbeats 2000000 in
theorem primes_any (N0 : Nat) (w : World) (h1 : 1 ≤ N0) (h4 : N0 ≤ 2147483647) :
    Calls Tryz.prog 45 #[.int .i64 N0] w (Gives w fun v w' => ∃ fs, Ints w' v fs ∧ PrimesOf N0 fs) := by
  go_enter Tryz.func45, Tryz.ntmps45
  go_wp2
  go_loopw [0, 3, 4] (fun x0 x3 x4 wr => ∃ (N D : Nat) (fs : List Int), x0 = .int .i64 N ∧ x4 = .int .i64 D ∧ N ≤ 2147483647 ∧ D ≤ 46341 ∧ Hid (PInv N0 N D fs) ∧ wr.ownsRow w.heap.size 3 1 x3 fs.length (fs.map (Value.int .i64)) ∧ Ext w wr) (fun _ _ x4 _ => (46341 - intOf x4).toNat)
  case atStart => exact ⟨N0, 2, [], rfl, rfl, h4, by omega, Lib.hid (PInv.start h1), World.ownsRow_nil _ _ _ _, Ext.refl _⟩
  case round =>
    obtain ⟨N, D, fs, rfl, rfl, hN, hD, H, HO, HX⟩ := hrel
    have hpos := H.out.pos
    have htwo := H.out.two
    have hlen := H.out.len
    have hs := sq_bd (show 0 ≤ (D : Int) by omega) (by omega)
    by_cases hle : (D : Int) * D ≤ N
    · have hD4 := sq_le_nat (show D * D ≤ N by exact_mod_cast hle) (by omega)
      by_cases hd : D ∣ N
      · have hm : ((N : Int) % D != 0) = false := by rw [bne_eq_false_iff_eq]; exact Int.emod_eq_zero_of_dvd (Int.natCast_dvd_natCast.2 hd)
        go_wp2_with (at_builtin; refine wpList_app1 rfl _ _ 22 rfl slInts rfl HX HO rfl _ rfl rfl (by omega) (by omega) ?_; intro v' w1 HO' HX' _)
        go_loop [0] (fun x0 => ∃ M : Nat, x0 = .int .i64 M ∧ M ≤ 2147483647 ∧ Hid (PIn N D M)) (fun x0 => (intOf x0).toNat)
        case atStart => exact ⟨N, rfl, hN, Lib.hid (PIn.start hpos)⟩
        case round =>
          obtain ⟨M, rfl, hM, HM⟩ := hrel
          have hM1 := HM.out.1
          by_cases hdM : D ∣ M
          · have hm2 : ((M : Int) % D == 0) = true := by rw [beq_iff_eq]; exact Int.emod_eq_zero_of_dvd (Int.natCast_dvd_natCast.2 hdM)
            have hlt : M / D < M := Nat.div_lt_self (by omega) (by omega)
            have hb : 0 ≤ (M : Int) / D ∧ (M : Int) / D ≤ 2147483647 := ⟨Int.ediv_nonneg (by omega) (by omega), Int.le_trans (Int.ediv_le_self _ (by omega)) (by omega)⟩
            have HN := Lib.hid (PIn.step H.out HM.out hdM)
            clear hm hd hdM
            go_wp2
            go_round
            case rel => exact ⟨M / D, by simp, by omega, HN⟩
            case measure => simp [intOf]; omega
          · have hm2 : ((M : Int) % D == 0) = false := by rw [beq_eq_false_iff_ne]; exact fun h => hdM (Int.natCast_dvd_natCast.1 (Int.dvd_of_emod_eq_zero h))
            have HN := Lib.hid (PInv.take H.out hd HM.out hdM)
            clear hm hd hdM
            go_wp2
            go_roundw
            case rel => exact ⟨M, D + 1, fs ++ [(D : Int)], rfl, by go_num, by omega, by omega, HN, by simpa using HO', HX'⟩
            case measure => simp [intOf]; omega
      · have hm : ((N : Int) % D != 0) = true := by rw [bne_iff_ne]; exact fun h => hd (Int.natCast_dvd_natCast.1 (Int.dvd_of_emod_eq_zero h))
        have HN := Lib.hid (PInv.skip H.out hd)
        clear hd
        go_wp2
        go_roundw
        case rel => exact ⟨N, D + 1, fs, rfl, by go_num, by omega, by omega, HN, HO, HX⟩
        case measure => simp [intOf]; omega
    · have hs2 : N < D * D := by
        rcases Nat.lt_or_ge N (D * D) with h | h
        · exact h
        · exact absurd (by exact_mod_cast h) hle
      by_cases h1 : (1 : Int) < N
      · have HE := Lib.hid (PInv.end_more H.out (by omega) hs2)
        clear hs2
        go_wp2_with (at_builtin; refine wpList_app1 rfl _ _ 22 rfl slInts rfl HX HO rfl _ rfl rfl (by omega) (by omega) ?_; intro v' w1 HO' HX' _)
        go_ret
        exact .mk _ rfl HX' ⟨fs ++ [(N : Int)], Ints.of_own (by simpa using HO'), HE.out⟩
      · have HE := Lib.hid (PInv.end_one H.out (by omega))
        clear hs2
        go_wp2
        go_ret
        exact .mk _ rfl HX ⟨fs, Ints.of_own HO, HE.out⟩
end Go.Proofs.YtgnomhbbbcfehaaGreatDoor
/-! Whether an element makes all others: the plain law, and the contract. -/
namespace Go.Att
def Wit (p a : Int) (d : Int) : Prop := a ^ ((p - 1).toNat / d.toNat) % p ≠ 1
structure OInv (p a : Int) (fs : List Int) (i N : Nat) : Prop where
  pos : 1 ≤ N
  dvd : N ∣ (p - 1).toNat
  iff : N = (p - 1).toNat ↔ ∀ j, j < i → Wit p a (nth fs j)
def OIn (p a : Int) (fs : List Int) (i N M : Nat) : Prop := 1 ≤ M ∧ M ∣ (p - 1).toNat ∧ (M = N ∨ M < N ∧ ¬ ∀ j, j < i + 1 → Wit p a (nth fs j))
section
variable {p a : Int} {fs : List Int}
theorem OInv.start (h : 1 ≤ (p - 1).toNat) : OInv p a fs 0 (p - 1).toNat := ⟨h, Nat.dvd_refl _, by simp⟩
theorem OIn.start {i N : Nat} (h : OInv p a fs i N) : OIn p a fs i N N := ⟨h.pos, h.dvd, .inl rfl⟩
theorem OIn.step {i N M D : Nat} (h : OInv p a fs i N) (_hq : 1 ≤ (p - 1).toNat) (hi : OIn p a fs i N M) (hD2 : 2 ≤ D) (hD : (D : Int) = nth fs i) (hdv : D ∣ M) (h1 : a ^ (M / D) % p = 1) : OIn p a fs i N (M / D) := by
  obtain ⟨h2, h3, h4⟩ := hi
  have hlt : M / D < M := Nat.div_lt_self (by omega) (by omega)
  have hpos : 1 ≤ M / D := Nat.div_pos (Nat.le_of_dvd (by omega) hdv) (by omega)
  refine ⟨hpos, Nat.dvd_trans ⟨D, (Nat.div_mul_cancel hdv).symm⟩ h3, .inr ?_⟩
  rcases h4 with rfl | ⟨h5, h6⟩
  · refine ⟨hlt, fun hall => ?_⟩
    have hM : M = (p - 1).toNat := h.iff.2 fun j hj => hall j (by omega)
    have hw := hall i (by omega)
    unfold Wit at hw
    rw [← hD, ← hM, Int.toNat_natCast] at hw
    exact hw h1
  · exact ⟨by omega, h6⟩
theorem OIn.done {i N M D : Nat} (h : OInv p a fs i N) (hi : OIn p a fs i N M) (hD : (D : Int) = nth fs i) (hDq : D ∣ (p - 1).toNat) (hex : D ∣ M → a ^ (M / D) % p ≠ 1) : OInv p a fs (i + 1) M := by
  obtain ⟨h2, h3, h4⟩ := hi
  refine ⟨h2, h3, ?_⟩
  rcases h4 with rfl | ⟨h5, h6⟩
  · constructor
    · intro hM j hj
      rcases Nat.lt_or_eq_of_le (show j ≤ i by omega) with hj | rfl
      · exact h.iff.1 hM j hj
      · unfold Wit
        rw [← hD, Int.toNat_natCast, ← hM]
        exact hex (hM ▸ hDq)
    · intro hall; exact h.iff.2 fun j hj => hall j (by omega)
  · constructor
    · intro hM; exfalso; have := Nat.le_of_dvd (by have := h.pos; have := Nat.le_of_dvd (n := (p - 1).toNat) (m := M); omega) h.dvd; omega
    · intro hall; exact absurd hall h6
end
end Go.Att
namespace Go.Proofs.YtgnomhbbbcfehaaGreatDoor
open Go.RowKit Go.Att

section
variable {w : World} {f : Value} {p g : Int} {fs : List Int}
theorem power_int (hf : Fld w f p g fs) (a n : Int) (h0 : 0 ≤ n) (hn : n ≤ 9223372036854775807) :
    Calls Tryz.prog 86 #[f, .int .i64 a, .int .i64 n] w (Rd w (.int .i64 (fpow p a n.toNat))) := by
  obtain ⟨k, rfl⟩ := Int.eq_ofNat_of_zero_le h0
  rw [Int.toNat_natCast]; exact power_any hf a k (by omega)
set_option maxHeartbeats 2000000 in
theorem order_any (hf : Fld w f p g fs) (a : Int) (hfs : ∀ x ∈ fs, 2 ≤ x ∧ x ∣ ((p - 1).toNat : Int)) :
    Calls Tryz.prog 46 #[f, .int .i64 a] w (RdI w fun r => r = p - 1 ↔ ¬ p ∣ a ∧ ∀ j, j < fs.length → Wit p a (nth fs j)) := by
  have C := Lib.hid hf
  have hx := fof_bd hf.two a
  have HF := Lib.hid hfs; clear hfs
  obtain ⟨⟨b', v, hf', hc, hc1, hv, -⟩, -, lo, hi⟩ := hf
  subst hf'
  have hlen := hv.len
  have HV := Lib.hid hv
  have hl := hv.run_len (P := Tryz.prog) slInts
  clear hv
  have hQ : ((p - 1).toNat : Int) = p - 1 := by omega
  by_cases ha : fof p a = 0
  · have hb : (fof p a == 0) = true := by rw [beq_iff_eq]; exact ha
    have HA := Lib.hid (show ¬ ¬ p ∣ a from fun h => h (Int.dvd_of_emod_eq_zero ha)); clear ha hQ
    go_enter Tryz.func46, Tryz.ntmps46
    go_wp2_with (go_at_call 33; refine (of_any C.out _).mono ?_; rintro e w' ⟨rfl, m, rfl⟩)
    go_ret
    exact ⟨0, ⟨fun h => by omega, fun h => absurd h.1 HA.out⟩, rfl, _, rfl⟩
  · have hb : (fof p a == 0) = false := by rw [beq_eq_false_iff_ne]; exact ha
    have HA := Lib.hid (show ¬ p ∣ a from fun h => ha (Int.emod_eq_zero_of_dvd h)); clear ha
    have HQ := Lib.hid hQ; clear hQ
    go_enter Tryz.func46, Tryz.ntmps46
    go_wp2_with (go_at_call 33; refine (of_any C.out _).mono ?_; rintro e w' ⟨rfl, m, rfl⟩)
    go_loopw [5, 22] (fun x5 x22 wr => ∃ (i N m' : Nat), x5 = .int .i64 N ∧ x22 = .int .i64 i ∧ i ≤ fs.length ∧ N ≤ 2147483647 ∧ Hid (OInv p a fs i N) ∧ wr = w.drewN m') (fun _ x22 _ => fs.length - (intOf x22).toNat)
    case atStart => exact ⟨0, (p - 1).toNat, _, by rw [HQ.out], rfl, Nat.zero_le _, by omega, Lib.hid (OInv.start (by omega)), rfl⟩
    case round =>
      obtain ⟨i, N, m1, rfl, rfl, hi1, hN, H, rfl⟩ := hrel
      have hpos := H.out.pos
      by_cases hlt : i < fs.length
      · have hix := HV.out.run_index (P := Tryz.prog) slInts i hlt
        have hcell := HV.out.cell i hlt
        obtain ⟨hd2, hdq⟩ := HF.out (nth fs i) (nth_mem hlt)
        obtain ⟨D, hD⟩ := Int.eq_ofNat_of_zero_le (show 0 ≤ nth fs i by omega)
        rw [hD] at hcell hd2 hdq
        have HD := Lib.hid hD.symm; clear hD
        have HDQ := Lib.hid (Int.natCast_dvd_natCast.1 hdq); clear hdq
        go_wp2
        go_loopw [5] (fun x5 wr => ∃ (M m' : Nat), x5 = .int .i64 M ∧ M ≤ 2147483647 ∧ Hid (OIn p a fs i N M) ∧ wr = w.drewN m') (fun x5 _ => (intOf x5).toNat)
        case atStart => exact ⟨N, _, rfl, hN, Lib.hid (OIn.start H.out), rfl⟩
        case round =>
          obtain ⟨M, m2, rfl, hM, HM, rfl⟩ := hrel
          have hM1 := HM.out.1
          have hD2 : 2 ≤ D := by omega
          clear hix hcell
          have hbd : 0 ≤ (M : Int) / D ∧ (M : Int) / D ≤ 2147483647 := ⟨Int.ediv_nonneg (by omega) (by omega), Int.le_trans (Int.ediv_le_self _ (by omega)) (by omega)⟩
          have eN : ((M : Int) / D).toNat = M / D := by rw [← Int.natCast_ediv, Int.toNat_natCast]
          by_cases hdv : D ∣ M
          · have hm : ((M : Int) % D == 0) = true := by rw [beq_iff_eq]; exact Int.emod_eq_zero_of_dvd (Int.natCast_dvd_natCast.2 hdv)
            by_cases h1 : fpow p a ((M : Int) / D).toNat = 1
            · have hp1 : (fpow p a ((M : Int) / D).toNat == 1) = true := by rw [beq_iff_eq]; exact h1
              have hlt2 : M / D < M := Nat.div_lt_self (by omega) (by omega)
              have HN := Lib.hid (OIn.step H.out (by have := H.out.dvd; have := HQ.out; omega) HM.out hD2 HD.out hdv (by rw [eN] at h1; exact h1))
              clear h1 hdv eN
              go_wp2_with (go_at_call 86; refine (power_int (C.out.drewN _) _ _ hbd.1 (by omega)).mono ?_; rintro e w' ⟨rfl, m, rfl⟩)
              go_roundw
              case rel => exact ⟨M / D, _, by simp, by omega, HN, rfl⟩
              case measure => simp [intOf]; omega
            · have hp1 : (fpow p a ((M : Int) / D).toNat == 1) = false := by rw [beq_eq_false_iff_ne]; exact h1
              have HN := Lib.hid (OIn.done H.out HM.out HD.out HDQ.out (fun _ => by rw [eN] at h1; exact h1))
              clear h1 hdv eN
              go_wp2_with (go_at_call 86; refine (power_int (C.out.drewN _) _ _ hbd.1 (by omega)).mono ?_; rintro e w' ⟨rfl, m, rfl⟩)
              go_roundw
              case rel => exact ⟨i + 1, M, _, rfl, by go_num, by omega, hM, HN, rfl⟩
              case measure => simp [intOf]; omega
          · have hm : ((M : Int) % D == 0) = false := by rw [beq_eq_false_iff_ne]; exact fun h => hdv (Int.natCast_dvd_natCast.1 (Int.dvd_of_emod_eq_zero h))
            have HN := Lib.hid (OIn.done H.out HM.out HD.out HDQ.out (fun h => absurd h hdv))
            clear hdv eN
            go_wp2
            go_roundw
            case rel => exact ⟨i + 1, M, _, rfl, by go_num, by omega, hM, HN, rfl⟩
            case measure => simp [intOf]; omega
      · obtain rfl : i = fs.length := by omega
        go_wp2
        go_ret
        have hiff := H.out.iff
        have hq := HQ.out
        exact ⟨N, ⟨fun h => ⟨HA.out, hiff.1 (by omega)⟩, fun h => by have := hiff.2 h.2; omega⟩, rfl, _, rfl⟩
end
end Go.Proofs.YtgnomhbbbcfehaaGreatDoor
end
