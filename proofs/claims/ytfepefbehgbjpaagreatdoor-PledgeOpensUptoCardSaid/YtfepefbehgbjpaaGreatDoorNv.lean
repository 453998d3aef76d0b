/- What a pledge says, the program's side: pledge.Check where a table fits: contract. Printed by wip/mknv.py. -/
import Derived.Test.YtfepefbehgbjpaaGreatDoorZx17
import Derived.Test.YtfepefbehgbjpaaGreatDoorZx20
namespace Go.Att
open Go.RowKit
theorem all_any_len (rows : List (List Int)) (m : Nat) : (rows.all fun l => decide (l.length = m)) = !(rows.any fun l => decide (l.length ≠ m)) := by
  induction rows with
  | nil => rfl
  | cons l t ih =>
    rw [List.all_cons, List.any_cons, ih, Bool.not_or]
    congr 1
    by_cases h : l.length = m <;> simp [h]
theorem shows_three (p : Int) (k : Nat) (root : List Int) (n : Nat) (pl : List Int) (rows nodes : List (List Int)) (L : List Int) (m : Nat) :
    showsB p k root n pl rows nodes L m = ((pl == L) && (!(rows.any fun l => decide (l.length ≠ m))) && treeB p k root n pl rows nodes) := by
  unfold showsB
  rw [all_any_len]
end Go.Att
namespace Go.Proofs.YtfepefbehgbjpaaGreatDoor
open Go.RowKit Go.Att
section
variable {w0 w : World} {cb bs bf : Nat} {p g0 : Int} {k : Nat} {fs D : List Int} {dv va r0 r1 r2 r3 r4 r5 : Value} {at_ : List Int} {o : Pld} {sh rt : Int}
end
end Go.Proofs.YtfepefbehgbjpaaGreatDoor
