/- The root of a table, both sides: contracts. -/
import Derived.Test.YtfepefbehgbjpaaGreatDoorJf
import Derived.Test.YtfepefbehgbjpaaGreatDoorJk
import Derived.Test.YtfepefbehgbjpaaGreatDoorJl
namespace Go.Att
open Go.RowKit
theorem ev_fofP {p : Int} (x : Int) : ∀ l : List Int, ev (l.map (fof p)) x % p = ev l x % p
  | [] => rfl
  | a :: l => by
    simp only [List.map_cons, ev]
    have h := ev_fofP (p := p) x l
    rw [show fof p a = a % p from rfl, Int.add_emod, Int.mul_emod, h, ← Int.mul_emod, Int.emod_emod_of_dvd _ (Int.dvd_refl p), ← Int.add_emod]
theorem colsL_fof (p sh r : Int) (n : Nat) (l : List Int) (M C : Nat) : colsL p sh r n (rowsL (l.map (fof p)) M C) = colsL p sh r n (rowsL l M C) := by
  unfold colsL colOf
  refine List.map_congr_left fun j _ => ?_
  unfold rowsL
  rw [List.map_map, List.map_map]
  refine List.map_congr_left fun i _ => ?_
  simp only [Function.comp]
  rw [← List.map_drop, ← List.map_take, ev_fofP]
theorem colsL_row (p sh r : Int) (n : Nat) (rows : List (List Int)) (i : Nat) (h : i < n) : (nthL (colsL p sh r n rows) i).length = rows.length := by
  rw [nthL_eq (by rw [colsL_length]; exact h)]; simp [colsL, colOf]
def tabR (p sh r : Int) (q N k : Nat) (l : List Int) : List Int := rootF p q N (colsL p sh r N (rowsL l (2 ^ (k - k / 2)) (2 ^ (k / 2))))
theorem pow12 {k : Nat} (h : k ≤ 12) : 2 ^ k ≤ 4096 := Nat.le_trans (Nat.pow_le_pow_right (by decide) h) (by decide)
end Go.Att
namespace Go.Proofs.YtfepefbehgbjpaaGreatDoor
open Go.RowKit Go.Att
section
variable {w : World}
set_option maxRecDepth 100000 in
theorem tright_any (n : Nat) (h1 : 1 ≤ n) (h2 : n ≤ 65536) : Calls Tryz.prog 76 #[.int .i64 n] w fun e w' => e = .returned (.bool true) ∧ w = w' := by
  go_enter Tryz.func76, Tryz.ntmps76
  go_wp2_with fail
  go_ret
  exact ⟨by first | rfl | (congr; simp; omega), rfl⟩
section
variable {d : Value} {bf : Nat} {p g0 n sh rt : Int} {fs : List Int}
end
end
end Go.Proofs.YtfepefbehgbjpaaGreatDoor
