/- How much of the gates there is anywhere, the program's side: Wire with its faults. -/
import Derived.Test.YthlnjfnlhgnblaaDoorCe
/-! How much of the gates there is anywhere, the program's side: Wire with its faults. -/
namespace Go.Att
open Go.RowKit
def kindB (k : Int) : Bool := decide (k = 0 ∨ k = 1)
/-- Do the points fit the layer? -/
def fitsB (wd : Int) (Ls : List (List Tri)) (i : Nat) (z x y : List Int) : Bool := decide ((z.length : Int) = wideOf (nthY Ls i).length ∧ (x.length : Int) = beneath wd Ls i ∧ (y.length : Int) = beneath wd Ls i)
end Go.Att
namespace Go.Proofs.YthlnjfnlhgnblaaDoor
open Go.RowKit Go.Att

end Go.Proofs.YthlnjfnlhgnblaaDoor
/-! How much of the gates there is anywhere, the program's side: Wire, the points' sizes. -/
namespace Go.Att
open Go.RowKit
theorem fitsB_true {wd : Int} {Ls : List (List Tri)} {i : Nat} {z x y : List Int} (h : fitsB wd Ls i z x y = true) : (z.length : Int) = wideOf (nthY Ls i).length ∧ (x.length : Int) = beneath wd Ls i ∧ (y.length : Int) = beneath wd Ls i := of_decide_eq_true h
theorem fitsB_false {wd : Int} {Ls : List (List Tri)} {i : Nat} {z x y : List Int} (h : fitsB wd Ls i z x y = false) : ¬ ((z.length : Int) = wideOf (nthY Ls i).length ∧ (x.length : Int) = beneath wd Ls i ∧ (y.length : Int) = beneath wd Ls i) := of_decide_eq_false h
end Go.Att
namespace Go.Proofs.YthlnjfnlhgnblaaDoor
open Go.RowKit Go.Att

end Go.Proofs.YthlnjfnlhgnblaaDoor
/-! How much of the gates there is anywhere, the program's side: Wire where all fits. -/
namespace Go.Proofs.YthlnjfnlhgnblaaDoor
open Go.RowKit Go.Att

end Go.Proofs.YthlnjfnlhgnblaaDoor
