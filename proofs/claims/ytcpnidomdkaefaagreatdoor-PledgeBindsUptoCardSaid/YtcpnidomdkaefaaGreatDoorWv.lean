/- What a polynomial is at all points; a point; on both sides: contracts. -/
import Derived.Test.YtcpnidomdkaefaaGreatDoorZx10
import Derived.Test.YtcpnidomdkaefaaGreatDoorZx1
import Derived.Test.YtcpnidomdkaefaaGreatDoorZx3
namespace Go.Att
open Go.RowKit
end Go.Att
namespace Go.Proofs.YtcpnidomdkaefaaGreatDoor
open Go.RowKit Go.Att
set_option maxRecDepth 100000 in
set_option maxHeartbeats 1000000 in
theorem dpoint_any {w : World} {d : Value} {bf : Nat} {p g0 n sh r : Int} {fs : List Int} (hd : DomOf w d (.pointer (some ⟨bf, 0, none⟩)) n sh r) (hf : Fld w (.pointer (some ⟨bf, 0, none⟩)) p g0 fs) (i : Nat) (hi : (i : Int) < n) (hn2 : n ≤ 65536) :
    Calls Tryz.prog 96 #[d, .int .i64 i] w (Rd w (.int .i64 (ptAt p sh r i))) := by
  have C := Lib.hid hf; clear hf
  obtain ⟨b, rfl, d1, d2, d3, d4⟩ := hd
  have hm : (i : Int) % n = i := Int.emod_eq_of_lt (by omega) hi
  have hm2 : (i : Int).tmod n = i := by rw [Int.tmod_eq_emod_of_nonneg (by omega)]; exact hm
  have hn1 : 1 ≤ n := by omega
  have hi0 : (0 : Int) ≤ i := by omega
  go_enter Tryz.func96, Tryz.ntmps96
  go_wp2_with fail
  go_quiet ((first | (go_at_call 42; exact pow_q C.out _ _ (by omega) (by omega) _) | (go_at_call 94; exact mul_q C.out _ _ _)))
  go_wp2_with fail
  go_ret
  exact ⟨ret_int (by unfold fmul; rw [Int.mul_comm]; exact ptAt_pow _ _ _ _), _, rfl⟩
end Go.Proofs.YtcpnidomdkaefaaGreatDoor
