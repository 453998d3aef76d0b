/- How much of the gates there is anywhere, the program's side: contracts. -/
import Derived.Test.YthlnjfnlhgnblaaDoorCd
import Derived.Test.YthlnjfnlhgnblaaDoorEb
/-! How much of the gates there is anywhere, the program's side: contracts. -/
namespace Go.Att
open Go.RowKit
/-- Is it a layer? -/
def layB (i : Int) (n : Nat) : Bool := decide (0 ≤ i ∧ i < (n : Int))
/-- The gates of a kind up to one, each times its place's weights. -/
def wireU (l : List Tri) (kind : Int) (z x y : List Int) : Nat → Int
  | 0 => 0
  | n + 1 => if (nthT l n).1 = kind then wireU l kind z x y n + wgt z n * (wgt x (nthT l n).2.1.toNat * wgt y (nthT l n).2.2.toNat) else wireU l kind z x y n
theorem wire_no {l : List Tri} {kind : Int} (z x y : List Int) {n : Nat} (h : (nthT l n).1 ≠ kind) : wireU l kind z x y (n + 1) = wireU l kind z x y n := by simp [wireU, h]
theorem wire_yes (p : Int) {l : List Tri} {kind : Int} (z x y : List Int) {n a b : Nat} (h : nthT l n = (kind, (a : Int), (b : Int))) :
    fadd p (wireU l kind z x y n % p) (fmul p (wgt z n % p) (fmul p (wgt x a % p) (wgt y b % p))) = wireU l kind z x y (n + 1) % p := by
  simp only [wireU, h, if_true, Int.toNat_natCast, fadd, fmul, ea_l, ea_r, em_l, em_r]
theorem wire_yes' (p : Int) {l : List Tri} {kind : Int} (z x y : List Int) {n a b : Nat} (h : nthT l n = (kind, (a : Int), (b : Int))) :
    fadd p (wireU l kind z x y n % p) (fmul p (fmul p (wgt z n % p) (wgt x a % p)) (wgt y b % p)) = wireU l kind z x y (n + 1) % p := by
  simp only [wireU, h, if_true, Int.toNat_natCast, fadd, fmul, ea_l, ea_r, em_l, em_r, Int.mul_assoc]
end Go.Att
namespace Go.Proofs.YthlnjfnlhgnblaaDoor
open Go.RowKit Go.Att

end Go.Proofs.YthlnjfnlhgnblaaDoor
/-! How much of the gates there is anywhere, the document's side: contract. -/
namespace Go.Att
theorem lt_pow2 {a n : Nat} (h : (a : Int) < (2 : Int) ^ n) : a < 2 ^ n := by
  have h2 : ((2 ^ n : Nat) : Int) = (2 : Int) ^ n := by simp
  omega
end Go.Att
namespace Go.Proofs.YthlnjfnlhgnblaaDoor
open Go.RowKit Go.Att

end Go.Proofs.YthlnjfnlhgnblaaDoor
