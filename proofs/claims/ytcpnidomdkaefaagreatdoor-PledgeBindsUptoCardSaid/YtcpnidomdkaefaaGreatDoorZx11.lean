/- The matrix of inverses 1 / (i + j + 8) can be undone: no pivot is 0. Plain laws. No program in sight. The greatest common divisor; what undoes a power: contracts. A word's coefficients are linear in the word; sums of rows by powers. Plain laws. No program in sight. By halves: the lists. Plain laws. No program in sight. By halves, the program's side: contract of spread. -/
import Derived.Test.YtcpnidomdkaefaaGreatDoorZx9
import Derived.Test.YtcpnidomdkaefaaGreatDoorZx15
import Derived.Deep.RegionHeld3
import Derived.Deep.DrawnRows
import Derived.Test.YtcpnidomdkaefaaGreatDoorZx2
import Derived.Deep.RegionWith
section
namespace Go.Att
/-- The products of x - l, of x + l + 8. -/
def cA (x : Int) : Nat → Int
  | 0 => 1
  | i + 1 => cA x i * (x - i)
def cB (x : Int) : Nat → Int
  | 0 => 1
  | i + 1 => cB x i * (x + i + 8)
theorem pr_mul {p : Int} (hp : Pr p) {a b : Int} (ha : ¬ p ∣ a) (hb : ¬ p ∣ b) : ¬ p ∣ a * b := fun h => (hp.euclid h).elim ha hb
theorem pr_small {p a : Int} (h1 : 0 < a) (h2 : a < p) : ¬ p ∣ a := fun h => by have := Int.le_of_dvd h1 h; omega
theorem cA_unit {p : Int} (hp : Pr p) (h23 : 23 ≤ p) (x i : Nat) (hx : x < 8) (hi : i ≤ x) : ¬ p ∣ cA x i := by
  induction i with
  | zero => exact (pr_small (by decide) (by omega) : ¬ p ∣ (1 : Int))
  | succ i ih => exact pr_mul hp (ih (by omega)) (pr_small (by omega) (by omega))
theorem cB_unit {p : Int} (hp : Pr p) (h23 : 23 ≤ p) (x i : Nat) (hx : x < 8) (hi : i ≤ 8) : ¬ p ∣ cB x i := by
  induction i with
  | zero => exact (pr_small (by decide) (by omega) : ¬ p ∣ (1 : Int))
  | succ i ih => exact pr_mul hp (ih (by omega)) (pr_small (by omega) (by omega))
/-- What is left of the matrix behind i steps. -/
def Left (p : Int) (i : Nat) (m : Nat → Nat → Int) : Prop :=
  ∀ r j : Nat, i ≤ r → r < 8 → i ≤ j → j < 8 → (m r j * (((r : Int) + j + 8) * (cB r i * cB j i))) % p = (cA r i * cA j i) % p
theorem left_start {p : Int} (hp : Pr p) (h23 : 23 ≤ p) (m : Nat → Nat → Int) (h : ∀ r j : Nat, r < 8 → j < 8 → m r j = finv p ((r : Int) + j + 8)) : Left p 0 m := by
  intro r j _ hr _ hj
  rw [h r j hr hj]
  simp only [cA, cB, Int.mul_one]
  rw [finv_mul hp (pr_small (by omega) (by omega)), one_mod hp.two]
theorem left_pivot {p : Int} (hp : Pr p) (h23 : 23 ≤ p) {m : Nat → Nat → Int} {i : Nat} (hi : i < 8) (h : Left p i m) : ¬ p ∣ m i i := by
  intro hd
  have h1 := h i i (Nat.le_refl _) hi (Nat.le_refl _) hi
  have h2 : p ∣ m i i * (((i : Int) + i + 8) * (cB i i * cB i i)) := Int.dvd_mul_of_dvd_left hd
  rw [Int.emod_eq_zero_of_dvd h2] at h1
  have h3 : p ∣ cA i i * cA i i := Int.dvd_of_emod_eq_zero h1.symm
  exact pr_mul hp (cA_unit hp h23 i i hi (Nat.le_refl _)) (cA_unit hp h23 i i hi (Nat.le_refl _)) h3
theorem mod_cancel {p : Int} (hp : Pr p) {a b c : Int} (hc : ¬ p ∣ c) (h : (a * c) % p = (b * c) % p) : a % p = b % p := by
  have h1 := dvd_sub_of_mod_eq h
  rw [← Int.sub_mul] at h1
  exact mod_eq_of_dvd_sub ((hp.euclid h1).resolve_right hc)
/-- A step: the row of the pivot is made 1 there, and goes from the others. -/
theorem left_step {p : Int} (hp : Pr p) (h23 : 23 ≤ p) {m m' : Nat → Nat → Int} {i : Nat} (hi : i < 8) (h : Left p i m) (by_ : Int) (hby : (by_ * m i i) % p = 1 % p)
    (hm : ∀ r j : Nat, i < r → r < 8 → i < j → j < 8 → m' r j % p = (m r j - m r i * (m i j * by_)) % p) : Left p (i + 1) m' := by
  intro r j hr hr8 hj hj8
  have ha := h r j (by omega) hr8 (by omega) hj8
  have hb := h r i (by omega) hr8 (Nat.le_refl _) hi
  have hc := h i j (Nat.le_refl _) hi (by omega) hj8
  have hP := h i i (Nat.le_refl _) hi (Nat.le_refl _) hi
  have hu := cB_unit hp h23 i i hi (by omega)
  have hm' := hm r j (by omega) hr8 (by omega) hj8
  generalize m r j = a at *
  generalize m r i = b at *
  generalize m i j = c at *
  generalize m i i = P at *
  simp only [cA, cB]
  generalize cB (r : Int) i = Br at *
  generalize cB (j : Int) i = Bj at *
  generalize cB (i : Int) i = Bi at *
  generalize cA (r : Int) i = Ar at *
  generalize cA (j : Int) i = Aj at *
  generalize cA (i : Int) i = Ai at *
  generalize (r : Int) = r at *
  generalize (j : Int) = j at *
  generalize (i : Int) = i at *
  -- the pivot's part
  have e1 : (b * (c * by_) * ((r + j + 8) * ((Br * (r + i + 8)) * (Bj * (j + i + 8))))) % p = (Ar * Aj * ((i + i + 8) * (r + j + 8))) % p := by
    refine mod_cancel hp (pr_mul hp hu hu) ?_
    have s1 : b * (c * by_) * ((r + j + 8) * ((Br * (r + i + 8)) * (Bj * (j + i + 8)))) * (Bi * Bi) = (b * ((r + i + 8) * (Br * Bi))) * ((c * ((i + j + 8) * (Bi * Bj))) * (by_ * (r + j + 8))) := by grind
    have s2 : (Ar * Ai) * ((Ai * Aj) * (by_ * (r + j + 8))) = (Ai * Ai) * (Ar * Aj * (by_ * (r + j + 8))) := by grind
    have s3 : (P * ((i + i + 8) * (Bi * Bi))) * (Ar * Aj * (by_ * (r + j + 8))) = (by_ * P) * (Ar * Aj * ((i + i + 8) * (r + j + 8)) * (Bi * Bi)) := by grind
    rw [s1, mmul hb (mmul hc rfl), s2, ← mmul hP rfl, s3, mmul hby rfl, Int.one_mul]
  have e2 : (a * ((r + j + 8) * ((Br * (r + i + 8)) * (Bj * (j + i + 8))))) % p = (Ar * Aj * ((r + i + 8) * (j + i + 8))) % p := by
    have s1 : a * ((r + j + 8) * ((Br * (r + i + 8)) * (Bj * (j + i + 8)))) = (a * ((r + j + 8) * (Br * Bj))) * ((r + i + 8) * (j + i + 8)) := by grind
    rw [s1, mmul ha rfl]
  rw [mmul hm' rfl, Int.sub_mul, Int.sub_emod, e1, e2, ← Int.sub_emod]
  congr 1
  grind
end Go.Att
end
section
namespace Go.Att
open Go.RowKit
theorem drewN2 (w : World) (a b : Nat) : (w.drewN a).drewN b = w.drewN (a + b) := by simp [World.drewN, Nat.add_assoc]
theorem quo_back (r s : Nat) : (r : Int) / s * s = ((r - r % s : Nat) : Int) := by
  have h1 := Nat.mod_add_div r s
  have h2 := Nat.mod_le r s
  have h3 : r / s * s = r - r % s := by rw [Nat.mul_comm]; omega
  rw [← h3]; simp
theorem w64_in (n : Int) (h : -9223372036854775808 ≤ n ∧ n ≤ 9223372036854775807) : wrap64 n = n := by unfold wrap64; omega
theorem inv_step (r s : Nat) (hr : r ≤ 2147483647) : wrap64 ((r : Int) - wrap64 (wrap64 ((r : Int) / s) * s)) = ((r % s : Nat) : Int) := by
  have hq := quo_back r s
  have hle := Nat.mod_le r s
  have h1 : (r : Int) / s = ((r / s : Nat) : Int) := by simp
  have h2 := Nat.div_le_self r s
  rw [h1] at hq ⊢
  generalize r / s = q at *
  generalize r % s = m at *
  rw [w64_in (q : Int) (by omega), hq, w64_in ((r - m : Nat) : Int) (by omega), w64_in ((r : Int) - (r - m : Nat)) (by omega)]
  omega
end Go.Att
namespace Go.Proofs.YtcpnidomdkaefaaGreatDoor
open Go.RowKit Go.Att

set_option maxHeartbeats 1000000 in
theorem gcd_any (a b : Nat) (w : World) (ha : a ≤ 4611686018427387904) (hb : b ≤ 4611686018427387904) : Calls Tryz.prog 137 #[.int .i64 a, .int .i64 b] w fun e w' => e = .returned (.int .i64 (Nat.gcd a b : Nat)) ∧ ∃ m, w' = w.drewN m := by
  go_enter Tryz.func137, Tryz.ntmps137
  go_wp2
  go_loopw [0, 1] (fun x0 x1 wr => ∃ (x y m : Nat), x0 = .int .i64 x ∧ x1 = .int .i64 y ∧ x ≤ 4611686018427387904 ∧ y ≤ 4611686018427387904 ∧ Hid (Nat.gcd x y = Nat.gcd a b) ∧ wr = w.drewN m) (fun _ x1 _ => (intOf x1).toNat)
  case atStart => exact ⟨a, b, 0, rfl, rfl, ha, hb, Lib.hid rfl, rfl⟩
  case round =>
    obtain ⟨x, y, m, rfl, rfl, hx, hy, HG, rfl⟩ := hrel
    by_cases hy0 : 0 < y
    · have HS := Lib.hid (show Nat.gcd y (x % y) = Nat.gcd a b by rw [← HG.out, Nat.gcd_comm x y, Nat.gcd_rec y x, Nat.gcd_comm])
      have hlt := Nat.mod_lt x hy0
      have hc : ((x : Int) % (y : Int)) = ((x % y : Nat) : Int) := by simp
      have hy1 : (0 : Int) < y := by omega
      go_wp2_with fail
      go_quiet (fail)
      go_wp2_with fail
      go_roundw
      case rel => exact ⟨y, x % y, m + nq, rfl, by rw [← hc], hy, by omega, HS, drewN2 _ _ _⟩
      case measure => simp [intOf]; omega
    · obtain rfl : y = 0 := by omega
      have HF := Lib.hid (show x = Nat.gcd a b by rw [← HG.out, Nat.gcd_zero_right])
      go_wp2
      go_ret
      exact ⟨ret_int (by rw [← HF.out]), _, rfl⟩

set_option maxHeartbeats 1000000 in
theorem inverse_any (a n : Nat) (w : World) (hn : 0 < n) (ha : a ≤ 2147483647) (hb : n ≤ 2147483647) : Calls Tryz.prog 138 #[.int .i64 a, .int .i64 n] w fun e w' => (∃ r : Int, e = .returned (.int .i64 r)) ∧ ∃ m, w' = w.drewN m := by
  go_enter Tryz.func138, Tryz.ntmps138
  go_wp2
  go_loopw [5, 6, 7, 8, 9] (fun x5 x6 x7 x8 _ wr => ∃ (x y : Int) (r s m : Nat), x5 = .int .i64 x ∧ x6 = .int .i64 y ∧ x7 = .int .i64 r ∧ x8 = .int .i64 s ∧ r ≤ 2147483647 ∧ s ≤ 2147483647 ∧ wr = w.drewN m) (fun _ _ _ x8 _ _ => (intOf x8).toNat)
  case atStart => exact ⟨1, 0, a, n, 0, rfl, rfl, rfl, rfl, ha, hb, rfl⟩
  case round =>
    obtain ⟨x, y, r, s, m, rfl, rfl, rfl, rfl, hr, hs, rfl⟩ := hrel
    by_cases hs0 : 0 < s
    · have hlt := Nat.mod_lt r hs0
      have HQ := Lib.hid (inv_step r s hr)
      clear hlt
      go_wp2_with fail
      go_roundw
      case rel => exact ⟨y, _, s, r % s, m, rfl, rfl, rfl, congrArg (Value.int .i64) HQ.out, hs, Nat.le_trans (Nat.mod_le r s) hr, rfl⟩
      case measure =>
        rw [HQ.out]
        show ((r % s : Nat) : Int).toNat < (s : Int).toNat
        rw [Int.toNat_natCast, Int.toNat_natCast]
        exact Nat.mod_lt r hs0
    · obtain rfl : s = 0 := by omega
      go_wp2_with fail
      go_ret
      exact ⟨⟨_, rfl⟩, _, rfl⟩
end Go.Proofs.YtcpnidomdkaefaaGreatDoor
end
section
namespace Go.Att
/-- By halves: what the program's spread comes to, unreduced. -/
def sprZ : Nat → (Nat → Int) → Int → Nat → Int
  | 0, a, _, j => a j
  | k + 1, a, g, j =>
    if j < 2 ^ k then sprZ k (fun i => a (2 * i)) (g * g) j + g ^ j * sprZ k (fun i => a (2 * i + 1)) (g * g) j
    else sprZ k (fun i => a (2 * i)) (g * g) (j - 2 ^ k) - g ^ (j - 2 ^ k) * sprZ k (fun i => a (2 * i + 1)) (g * g) (j - 2 ^ k)
end Go.Att
end
section
namespace Go.Att
end Go.Att
end
section
namespace Go.Att
open Go.RowKit
end Go.Att
namespace Go.Proofs.YtcpnidomdkaefaaGreatDoor
open Go.RowKit Go.Att
attribute [local go_sem ↓] Go.wp_at_zero Go.wp_at_succ

end Go.Proofs.YtcpnidomdkaefaaGreatDoor
end
