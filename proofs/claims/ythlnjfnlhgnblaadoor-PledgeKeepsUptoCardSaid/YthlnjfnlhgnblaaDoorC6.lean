/- What the gates of a circuit are, the document's side: contracts. -/
import Derived.Test.YthlnjfnlhgnblaaDoorC3
import Derived.Test.YthlnjfnlhgnblaaDoorVc
import Derived.Test.YthlnjfnlhgnblaaDoorFc
import Derived.Test.YthlnjfnlhgnblaaDoorFa
import Derived.Test.YthlnjfnlhgnblaaDoorHc
import Derived.Deep.RegionWith
namespace Go.Att
open Go.RowKit
/-- What a gate is, over the values beneath. -/
def gval (p : Int) (row : List Int) (g : Tri) : Int := if g.1 = 1 then fmul p (nth row g.2.1.toNat) (nth row g.2.2.toNat) else fadd p (nth row g.2.1.toNat) (nth row g.2.2.toNat)
def vrow (p : Int) (Ls : List (List Tri)) (inp : List Int) : Nat → List Int
  | 0 => inp.map (fof p)
  | i + 1 => (nthY Ls i).map (gval p (vrow p Ls inp i))
/-- All rows up to one. -/
def vals (p : Int) (Ls : List (List Tri)) (inp : List Int) (n : Nat) : List (List Int) := (List.range (n + 1)).map (vrow p Ls inp)
theorem vals_length (p : Int) (Ls : List (List Tri)) (inp : List Int) (n : Nat) : (vals p Ls inp n).length = n + 1 := by simp [vals]
theorem vals_succ (p : Int) (Ls : List (List Tri)) (inp : List Int) (n : Nat) : vals p Ls inp (n + 1) = vals p Ls inp n ++ [vrow p Ls inp (n + 1)] := by unfold vals; rw [List.range_succ, List.map_append]; rfl
theorem vals_nth (p : Int) (Ls : List (List Tri)) (inp : List Int) {n i : Nat} (h : i ≤ n) : nthL (vals p Ls inp n) i = vrow p Ls inp i := by rw [nthL_eq (by rw [vals_length]; omega)]; simp [vals]
theorem vrow_length {p wd : Int} {Ls : List (List Tri)} {inp : List Int} (h : (inp.length : Int) = 2 ^ wd.toNat) (i : Nat) : ((vrow p Ls inp i).length : Int) = below wd Ls i := by
  cases i with
  | zero => simp [vrow, below, h]
  | succ i => simp [vrow, below]
theorem vrow_step (p : Int) (row : List Int) {l : List Tri} {k : Nat} (h : k < l.length) : ((l.take (k + 1)).map (gval p row)).map (Value.int .i64) = ((l.take k).map (gval p row)).map (Value.int .i64) ++ [.int .i64 (gval p row (nthT l k))] := by
  rw [List.take_succ_eq_append_getElem h, ← nthT_eq h]; simp
theorem gval_mul {p : Int} {row : List Int} {a b : Nat} : gval p row (1, a, b) = fmul p (nth row a) (nth row b) := by simp [gval]
theorem gval_add {p : Int} {row : List Int} {k : Int} {a b : Nat} (h : k ≠ 1) : gval p row (k, a, b) = fadd p (nth row a) (nth row b) := by simp [gval, h]
end Go.Att
namespace Go.Proofs.YthlnjfnlhgnblaaDoor
open Go.RowKit Go.Att

end Go.Proofs.YthlnjfnlhgnblaaDoor
