/- RulesBroken: of which rows a rule is: both sides. -/
import Derived.Test.YtionlicgaifblaaDoorK3
namespace Go.Proofs.YtionlicgaifblaaDoor
open Go.RowKit Go.Att
set_option maxHeartbeats 1000000 in
theorem dof_any (l k : Nat) (w : World) (hl : l ≤ 1048576) (hk : k < l + 26) : Calls Tryd.prog 30 #[.int .i64 l, .int .i64 k] w fun e w' => e = .returned (.int .i64 (kindB l k)) ∧ w = w' := by
  have hall : k < l + 12 ∨ (¬ k < l + 12 ∧ k < l + 18) ∨ (¬ k < l + 12 ∧ ¬ k < l + 18 ∧ k < l + 24) ∨ (¬ k < l + 12 ∧ ¬ k < l + 18 ∧ ¬ k < l + 24) := by omega
  rcases hall with h | ⟨h, h2⟩ | ⟨h, h2, h3⟩ | ⟨h, h2, h3⟩
  all_goals
    go_enter Tryd.func30, Tryd.ntmps30
    go_wp2_with fail
    go_ret
    refine ⟨ret_int ?_, rfl⟩
    simp [kindB, *]
set_option maxHeartbeats 1000000 in
theorem pof_any (l k : Nat) (w : World) (hl : l ≤ 1048576) (hk : k < l + 26) : Calls Tryd.prog 29 #[.int .i64 k, .int .i64 l] w fun e w' => e = .returned (.int .i64 (kindB l k)) ∧ w = w' := by
  have hall : k < l + 12 ∨ (¬ k < l + 12 ∧ k < l + 18) ∨ (¬ k < l + 12 ∧ ¬ k < l + 18 ∧ k < l + 24) ∨ (¬ k < l + 12 ∧ ¬ k < l + 18 ∧ ¬ k < l + 24) := by omega
  rcases hall with h | ⟨h, h2⟩ | ⟨h, h2, h3⟩ | ⟨h, h2, h3⟩
  all_goals
    go_enter Tryd.func29, Tryd.ntmps29
    go_wp2_with fail
    go_ret
    refine ⟨ret_int ?_, rfl⟩
    simp [kindB, *]
set_option maxHeartbeats 1000000 in
theorem speaks_any (kd i N : Nat) (ki : Int) (w : World) (hi : i < N) (hN : N ≤ 1048576) (hk : (kd = 0 ∧ ki = 0) ∨ (kd = 1 ∧ ki = 1) ∨ (kd = 2 ∧ ki = 2) ∨ (kd = 3 ∧ ki = 3)) : Calls Tryd.prog 28 #[.int .i64 ki, .int .i64 i, .int .i64 N] w fun e w' => e = .returned (.bool (speakB N kd i)) ∧ w = w' := by
  have ha : i = 0 ∨ 0 < i := by omega
  have hb : i + 1 = N ∨ i + 1 < N := by omega
  rcases hk with ⟨rfl, rfl⟩ | ⟨rfl, rfl⟩ | ⟨rfl, rfl⟩ | ⟨rfl, rfl⟩ <;> rcases ha with rfl | ha <;> rcases hb with rfl | hb
  all_goals
    go_enter Tryd.func28, Tryd.ntmps28
    go_wp2_with fail
    go_ret
    refine ⟨ret_bool ?_, rfl⟩
    simp only [speakB]
    first | rfl | (have hh : ((i : Int) == 0) = (i == 0) := (by rw [Bool.eq_iff_iff, beq_iff_eq, beq_iff_eq]; omega); rw [hh]; rfl) | (simp; done) | (have hh : (((i : Int) + 1 == N)) = false := (beq_eq_false_iff_ne.2 (by omega)); simp [hh]; done) | (rw [Bool.eq_iff_iff]; simp; omega) | (rw [Bool.eq_iff_iff]; simp only [beq_iff_eq, decide_eq_true_eq]; omega)
end Go.Proofs.YtionlicgaifblaaDoor
