/- A program as text, the program's side: levels and signs: contracts. -/
import Derived.Test.YtejkepihicphlaaGreatDoorSsn
import Derived.Test.YtejkepihicphlaaGreatDoorZx8
import Derived.Test.YtejkepihicphlaaGreatDoorZx5
namespace Go.Proofs.YtejkepihicphlaaGreatDoor
open Go.RowKit Go.Att Go.Shelf
section
variable {w : World} {q kd p : Nat} {n : Int} {s : List UInt8} {kv : Value}
set_option maxRecDepth 100000 in
set_option maxHeartbeats 1000000 in
theorem slevel_any (h : BlkOf w q (pcells kd n s kv p) 161) (hk : kd ≤ 11) : Calls Tryz.prog 70 #[.pointer (some ⟨q, 0, none⟩)] w fun e w' => e = .returned (.int .i64 (lvT kd)) ∧ w = w' := by
  have c0 : w.cell? ⟨q, 0, none⟩ = some (.int .i64 kd) := h.cell 0
  clear h
  rcases (show kd = 0 ∨ kd = 1 ∨ kd = 2 ∨ kd = 3 ∨ kd = 4 ∨ kd = 5 ∨ kd = 6 ∨ kd = 7 ∨ kd = 8 ∨ kd = 9 ∨ kd = 10 ∨ kd = 11 by omega) with rfl | rfl | rfl | rfl | rfl | rfl | rfl | rfl | rfl | rfl | rfl | rfl <;>
  · go_enter Tryz.func70, Tryz.ntmps70
    go_wp2_with fail
    go_ret
    exact ⟨rfl, rfl⟩
set_option maxRecDepth 100000 in
set_option maxHeartbeats 1000000 in
theorem ssigns_any (h : BlkOf w q (pcells kd n s kv p) 161) (hk : kd ≤ 11) : Calls Tryz.prog 69 #[.pointer (some ⟨q, 0, none⟩)] w fun e w' => e = .returned (.string ⟨(signT kd).toArray⟩) ∧ w = w' := by
  have c0 : w.cell? ⟨q, 0, none⟩ = some (.int .i64 kd) := h.cell 0
  clear h
  rcases (show kd = 0 ∨ kd = 1 ∨ kd = 2 ∨ kd = 3 ∨ kd = 4 ∨ kd = 5 ∨ kd = 6 ∨ kd = 7 ∨ kd = 8 ∨ kd = 9 ∨ kd = 10 ∨ kd = 11 by omega) with rfl | rfl | rfl | rfl | rfl | rfl | rfl | rfl | rfl | rfl | rfl | rfl <;>
  · go_enter Tryz.func69, Tryz.ntmps69
    go_wp2_with fail
    go_ret
    exact ⟨rfl, rfl⟩
end
end Go.Proofs.YtejkepihicphlaaGreatDoor
