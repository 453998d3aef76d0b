/- What is wrong with a circuit, the document's side: contract of Fault. -/
import Derived.Test.YthlnjfnlhgnblaaDoorCa
namespace Go.Att
theorem sizes_not {wd : Int} {Ls : List (List Tri)} (h : wd < 0 ∨ 6 < wd ∨ (Ls.length : Int) < 1 ∨ 8 < (Ls.length : Int)) : ¬ cirSizes wd Ls := by
  intro hc
  unfold cirSizes at hc
  omega
theorem pow2_small {n : Nat} (h : n ≤ 6) : (1 : Int) ≤ 2 ^ n ∧ (2 : Int) ^ n ≤ 64 := by
  have : n = 0 ∨ n = 1 ∨ n = 2 ∨ n = 3 ∨ n = 4 ∨ n = 5 ∨ n = 6 := by omega
  rcases this with rfl | rfl | rfl | rfl | rfl | rfl | rfl <;> decide
end Go.Att
namespace Go.Proofs.YthlnjfnlhgnblaaDoor
open Go.RowKit Go.Att

end Go.Proofs.YthlnjfnlhgnblaaDoor
