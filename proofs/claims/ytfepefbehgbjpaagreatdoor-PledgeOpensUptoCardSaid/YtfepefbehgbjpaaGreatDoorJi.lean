/- A table's columns, the document's side: contract. -/
import Derived.Test.YtfepefbehgbjpaaGreatDoorZx10
import Derived.Test.YtfepefbehgbjpaaGreatDoorZx12
import Derived.Test.YtfepefbehgbjpaaGreatDoorZx3
import Derived.Test.YtfepefbehgbjpaaGreatDoorZx9
import Derived.Test.YtfepefbehgbjpaaGreatDoorZx11
namespace Go.Att
open Go.RowKit
def longL (p sh r : Int) (n : Nat) (rows : List (List Int)) : List (List Int) := rows.map (valsL p sh r n)
def colOf (p sh r : Int) (rows : List (List Int)) (j : Nat) : List Int := rows.map fun l => ev l (ptAt p sh r j) % p
def colsL (p sh r : Int) (n : Nat) (rows : List (List Int)) : List (List Int) := (List.range n).map (colOf p sh r rows)
theorem longL_length (p sh r : Int) (n : Nat) (rows : List (List Int)) : (longL p sh r n rows).length = rows.length := by simp [longL]
theorem longL_nth (p sh r : Int) (n : Nat) (rows : List (List Int)) {i : Nat} (h : i < rows.length) : nthL (longL p sh r n rows) i = valsL p sh r n (nthL rows i) := by
  rw [nthL_eq h, nthL_eq (by rw [longL_length]; exact h)]; simp [longL]
theorem longL_snoc (p sh r : Int) (n : Nat) (rows : List (List Int)) {i : Nat} (h : i < rows.length) : (longL p sh r n rows).take (i + 1) = (longL p sh r n rows).take i ++ [valsL p sh r n (nthL rows i)] := by
  rw [List.take_succ_eq_append_getElem (by rw [longL_length]; exact h), ← nthL_eq, longL_nth _ _ _ _ _ h]
theorem colOf_length (p sh r : Int) (rows : List (List Int)) (j : Nat) : (colOf p sh r rows j).length = rows.length := by simp [colOf]
theorem colOf_snoc (p sh r : Int) (rows : List (List Int)) (j : Nat) {i : Nat} (h : i < rows.length) : (colOf p sh r rows j).take (i + 1) = (colOf p sh r rows j).take i ++ [ev (nthL rows i) (ptAt p sh r j) % p] := by
  rw [List.take_succ_eq_append_getElem (by rw [colOf_length]; exact h), nthL_eq h]; simp [colOf]
theorem colsL_length (p sh r : Int) (n : Nat) (rows : List (List Int)) : (colsL p sh r n rows).length = n := by simp [colsL]
theorem colsL_snoc (p sh r : Int) (n : Nat) (rows : List (List Int)) {j : Nat} (h : j < n) : (colsL p sh r n rows).take (j + 1) = (colsL p sh r n rows).take j ++ [colOf p sh r rows j] := by
  rw [List.take_succ_eq_append_getElem (by rw [colsL_length]; exact h)]; simp [colsL]
end Go.Att
namespace Go.Proofs.YtfepefbehgbjpaaGreatDoor
open Go.RowKit Go.Att
section
variable {w : World} {p sh r : Int}
end
end Go.Proofs.YtfepefbehgbjpaaGreatDoor
