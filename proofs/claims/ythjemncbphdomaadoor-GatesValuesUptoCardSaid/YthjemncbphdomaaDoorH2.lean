/- The program's inverses, powers, roots: contracts. -/
import Derived.Test.YthjemncbphdomaaDoorH1
namespace Go.Proofs.YthjemncbphdomaaDoor
open Go.RowKit Go.Att

section
variable {w : World} {f : Value} {p g : Int} {fs : List Int}
theorem p_any (hf : Fld w f p g fs) : Calls Tryd.prog 90 #[f] w (Rd w (.int .i64 p)) := by
  obtain ⟨⟨b', v, rfl, hc, -, -, -⟩, -, -, -⟩ := hf
  go_enter Tryd.func90, Tryd.ntmps90
  go_wp2
  go_ret; exact .same rfl
theorem p_q (hf : Fld w f p g fs) (m : Nat) : Calls Tryd.prog 90 #[f] (w.drewN m) fun e w'' => e = .returned (.int .i64 p) ∧ ∃ m, w'' = w.drewN m := Calls.quiet_of (p_any (hf.drewN m))

theorem inv_any (hf : Fld w f p g fs) (a : Int) : Calls Tryd.prog 146 #[f, .int .i64 a] w (Rd w (.int .i64 (finv p a))) := by
  have C := Lib.hid hf
  obtain ⟨⟨b', v, rfl, hc, -, -, -⟩, -, lo, hi⟩ := hf
  go_enter Tryd.func146, Tryd.ntmps146
  go_wp2_with (go_at_call 142; refine (power_int C.out _ _ (by omega) (by omega)).mono ?_; rintro e w' ⟨rfl, m, rfl⟩)
  go_ret; exact .more _ (ret_int (finv_eq _ _))
theorem inv_q (hf : Fld w f p g fs) (a : Int) (m : Nat) : Calls Tryd.prog 146 #[f, .int .i64 a] (w.drewN m) fun e w'' => e = .returned (.int .i64 (finv p a)) ∧ ∃ m, w'' = w.drewN m := Calls.quiet_of (inv_any (hf.drewN m) a)

theorem pow_any (hf : Fld w f p g fs) (a n : Int) (h0 : 0 ≤ n) (hn : n ≤ 9223372036854775807) : Calls Tryd.prog 101 #[f, .int .i64 a, .int .i64 n] w (Rd w (.int .i64 (fpow p a n.toNat))) := by
  have C := Lib.hid hf; clear hf
  go_enter Tryd.func101, Tryd.ntmps101
  go_wp2_with (go_at_call 142; refine (power_int C.out _ _ h0 hn).mono ?_; rintro e w' ⟨rfl, m, rfl⟩)
  go_ret; exact .more _ rfl
theorem pow_q (hf : Fld w f p g fs) (a n : Int) (h0 : 0 ≤ n) (hn : n ≤ 9223372036854775807) (m : Nat) : Calls Tryd.prog 101 #[f, .int .i64 a, .int .i64 n] (w.drewN m) fun e w'' => e = .returned (.int .i64 (fpow p a n.toNat)) ∧ ∃ m, w'' = w.drewN m := Calls.quiet_of (pow_any (hf.drewN m) a n h0 hn)

theorem root_ok (hf : Fld w f p g fs) (n : Int) (hn : 1 ≤ n) (hd : (p - 1) % n = 0) : Calls Tryd.prog 92 #[f, .int .i64 n] w (Rd w (.int .i64 (froot p g n))) := by
  have C := Lib.hid hf
  obtain ⟨⟨b', v, rfl, hc, -, -, hg⟩, -, lo, hi⟩ := hf
  have hb : ((p - 1) % n != 0) = false := by rw [bne_eq_false_iff_eq]; exact hd
  have hq0 : 0 ≤ (p - 1) / n := Int.ediv_nonneg (by omega) (by omega)
  have hq1 : (p - 1) / n ≤ p - 1 := Int.ediv_le_self _ (by omega)
  clear hd
  go_enter Tryd.func92, Tryd.ntmps92
  go_wp2_with fail
  go_quiet ((go_at_call 142; exact power_int_q C.out _ _ hq0 (by omega) _))
  go_wp2_with fail
  go_ret; exact .more _ rfl
end
end Go.Proofs.YthjemncbphdomaaDoor
