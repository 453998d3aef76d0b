/- Code as text: an instruction's numbers, both sides: contracts. -/
import Derived.Test.YtnkcldhjbhdejaaDoorAr
import Derived.Test.YtnkcldhjbhdejaaDoorM2
namespace Go.Att
open Go.RowKit
/-- An operand's letter in the document. -/
def letA (t : Bool) (j : Nat) : Int := if t = true then 65 + j else 97 + j
end Go.Att
namespace Go.Proofs.YtnkcldhjbhdejaaDoor
open Go.RowKit Go.Att
set_option maxRecDepth 100000 in
set_option maxHeartbeats 2000000 in
theorem pfield_any (b i : Nat) (hi : i < 3) (W : World) : Calls Tryd.prog 13 #[.pointer (some ⟨b, 0, none⟩), .int .i64 i] W (Rd W (.pointer (some ⟨b, i + 1, none⟩))) := by
  have i0 : ∀ w' : World, (Instr.index 61 (.agg #[.pointer (some ⟨b, 1, none⟩), .pointer (some ⟨b, 2, none⟩), .pointer (some ⟨b, 3, none⟩)]) (.int .i64 0)).run Tryd.prog w' = .ok (.pointer (some ⟨b, 1, none⟩)) w' := fun w' => by kernel_rfl
  have i1 : ∀ w' : World, (Instr.index 61 (.agg #[.pointer (some ⟨b, 1, none⟩), .pointer (some ⟨b, 2, none⟩), .pointer (some ⟨b, 3, none⟩)]) (.int .i64 1)).run Tryd.prog w' = .ok (.pointer (some ⟨b, 2, none⟩)) w' := fun w' => by kernel_rfl
  have i2 : ∀ w' : World, (Instr.index 61 (.agg #[.pointer (some ⟨b, 1, none⟩), .pointer (some ⟨b, 2, none⟩), .pointer (some ⟨b, 3, none⟩)]) (.int .i64 2)).run Tryd.prog w' = .ok (.pointer (some ⟨b, 3, none⟩)) w' := fun w' => by kernel_rfl
  have h3 : i = 0 ∨ i = 1 ∨ i = 2 := by omega
  rcases h3 with rfl | rfl | rfl
  all_goals
    simp only [show ((0 : Nat) : Int) = 0 from rfl, show ((1 : Nat) : Int) = 1 from rfl, show ((2 : Nat) : Int) = 2 from rfl]
    go_enter Tryd.func13, Tryd.ntmps13
    go_wp2_with fail
    go_region
    go_wp2_with fail
    go_ret
    exact ⟨rfl, 1, rfl⟩
set_option maxRecDepth 100000 in
set_option maxHeartbeats 2000000 in
theorem aget_any (x : In4) (t : Bool) (j : Nat) (hj : j < 3) (w : World) : Calls Tryd.prog 20 #[.agg #[.int .i64 x.op, .int .i64 x.a, .int .i64 x.b, .int .i64 x.c], .int .u8 (letA t j)] w fun e w' => e = .returned (.int .i64 (valA x j)) ∧ Ext w w' := by
  have h3 : j = 0 ∨ j = 1 ∨ j = 2 := by omega
  rcases h3 with rfl | rfl | rfl <;> cases t
  all_goals
    simp only [letA, valA]
    go_enter Tryd.func20, Tryd.ntmps20
    go_wp2_with fail
    go_ret
    exact ⟨rfl, Ext.alloc _ _⟩
end Go.Proofs.YtnkcldhjbhdejaaDoor
