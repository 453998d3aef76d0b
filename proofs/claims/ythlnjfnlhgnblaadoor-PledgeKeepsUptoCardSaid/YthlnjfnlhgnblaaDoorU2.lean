/- The greatest common divisor; what undoes a power: contracts. -/
import Derived.Test.YthlnjfnlhgnblaaDoorFc
import Derived.Test.YthlnjfnlhgnblaaDoorU1
namespace Go.Att
open Go.RowKit
theorem drewN2 (w : World) (a b : Nat) : (w.drewN a).drewN b = w.drewN (a + b) := by simp [World.drewN, Nat.add_assoc]
theorem quo_back (r s : Nat) : (r : Int) / s * s = ((r - r % s : Nat) : Int) := by
  have h1 := Nat.mod_add_div r s
  have h2 := Nat.mod_le r s
  have h3 : r / s * s = r - r % s := by rw [Nat.mul_comm]; omega
  rw [← h3]; simp
theorem w64_in (n : Int) (h : -9223372036854775808 ≤ n ∧ n ≤ 9223372036854775807) : wrap64 n = n := by unfold wrap64; omega
theorem inv_step (r s : Nat) (hr : r ≤ 2147483647) : wrap64 ((r : Int) - wrap64 (wrap64 ((r : Int) / s) * s)) = ((r % s : Nat) : Int) := by
  have hq := quo_back r s
  have hle := Nat.mod_le r s
  have h1 : (r : Int) / s = ((r / s : Nat) : Int) := by simp
  have h2 := Nat.div_le_self r s
  rw [h1] at hq ⊢
  generalize r / s = q at *
  generalize r % s = m at *
  rw [w64_in (q : Int) (by omega), hq, w64_in ((r - m : Nat) : Int) (by omega), w64_in ((r : Int) - (r - m : Nat)) (by omega)]
  omega
end Go.Att
namespace Go.Proofs.YthlnjfnlhgnblaaDoor
open Go.RowKit Go.Att

set_option maxHeartbeats 1000000 in
theorem gcd_any (a b : Nat) (w : World) (ha : a ≤ 4611686018427387904) (hb : b ≤ 4611686018427387904) : Calls Tryd.prog 149 #[.int .i64 a, .int .i64 b] w fun e w' => e = .returned (.int .i64 (Nat.gcd a b : Nat)) ∧ ∃ m, w' = w.drewN m := by
  go_enter Tryd.func149, Tryd.ntmps149
  go_wp2
  go_loopw [0, 1] (fun x0 x1 wr => ∃ (x y m : Nat), x0 = .int .i64 x ∧ x1 = .int .i64 y ∧ x ≤ 4611686018427387904 ∧ y ≤ 4611686018427387904 ∧ Hid (Nat.gcd x y = Nat.gcd a b) ∧ wr = w.drewN m) (fun _ x1 _ => (intOf x1).toNat)
  case atStart => exact ⟨a, b, 0, rfl, rfl, ha, hb, Lib.hid rfl, rfl⟩
  case round =>
    obtain ⟨x, y, m, rfl, rfl, hx, hy, HG, rfl⟩ := hrel
    by_cases hy0 : 0 < y
    · have HS := Lib.hid (show Nat.gcd y (x % y) = Nat.gcd a b by rw [← HG.out, Nat.gcd_comm x y, Nat.gcd_rec y x, Nat.gcd_comm])
      have hlt := Nat.mod_lt x hy0
      have hc : ((x : Int) % (y : Int)) = ((x % y : Nat) : Int) := by simp
      have hy1 : (0 : Int) < y := by omega
      go_wp2_with fail
      go_quiet (fail)
      go_wp2_with fail
      go_roundw
      case rel => exact ⟨y, x % y, m + nq, rfl, by rw [← hc], hy, by omega, HS, drewN2 _ _ _⟩
      case measure => simp [intOf]; omega
    · obtain rfl : y = 0 := by omega
      have HF := Lib.hid (show x = Nat.gcd a b by rw [← HG.out, Nat.gcd_zero_right])
      go_wp2
      go_ret
      exact ⟨ret_int (by rw [← HF.out]), _, rfl⟩

set_option maxHeartbeats 1000000 in
theorem inverse_any (a n : Nat) (w : World) (hn : 0 < n) (ha : a ≤ 2147483647) (hb : n ≤ 2147483647) : Calls Tryd.prog 150 #[.int .i64 a, .int .i64 n] w fun e w' => (∃ r : Int, e = .returned (.int .i64 r)) ∧ ∃ m, w' = w.drewN m := by
  go_enter Tryd.func150, Tryd.ntmps150
  go_wp2
  go_loopw [5, 6, 7, 8, 9] (fun x5 x6 x7 x8 _ wr => ∃ (x y : Int) (r s m : Nat), x5 = .int .i64 x ∧ x6 = .int .i64 y ∧ x7 = .int .i64 r ∧ x8 = .int .i64 s ∧ r ≤ 2147483647 ∧ s ≤ 2147483647 ∧ wr = w.drewN m) (fun _ _ _ x8 _ _ => (intOf x8).toNat)
  case atStart => exact ⟨1, 0, a, n, 0, rfl, rfl, rfl, rfl, ha, hb, rfl⟩
  case round =>
    obtain ⟨x, y, r, s, m, rfl, rfl, rfl, rfl, hr, hs, rfl⟩ := hrel
    by_cases hs0 : 0 < s
    · have hlt := Nat.mod_lt r hs0
      have HQ := Lib.hid (inv_step r s hr)
      clear hlt
      go_wp2_with fail
      go_roundw
      case rel => exact ⟨y, _, s, r % s, m, rfl, rfl, rfl, congrArg (Value.int .i64) HQ.out, hs, Nat.le_trans (Nat.mod_le r s) hr, rfl⟩
      case measure =>
        rw [HQ.out]
        show ((r % s : Nat) : Int).toNat < (s : Int).toNat
        rw [Int.toNat_natCast, Int.toNat_natCast]
        exact Nat.mod_lt r hs0
    · obtain rfl : s = 0 := by omega
      go_wp2_with fail
      go_ret
      exact ⟨⟨_, rfl⟩, _, rfl⟩
end Go.Proofs.YthlnjfnlhgnblaaDoor
