/- One word of several, the program's side: contract. What the gates of a circuit are, the document's side: contracts. -/
import Derived.Test.YtaajjaadlpgbiaaGreatDoorHb
import Derived.Test.YtaajjaadlpgbiaaGreatDoorC3
import Derived.Test.YtaajjaadlpgbiaaGreatDoorVc
import Derived.Test.YtaajjaadlpgbiaaGreatDoorZx6
import Derived.Test.YtaajjaadlpgbiaaGreatDoorZx1
import Derived.Deep.RegionWith
section
/-! One word of several, the program's side: contract. -/
namespace Go.Att
open Go.RowKit
/-- Does no word differ in length from n? -/
def fitB (n : Int) (L : List (List Int)) : Bool := L.all fun l => (l.length : Int) == n
theorem fitB_nth {n : Int} {L : List (List Int)} (h : fitB n L = true) {i : Nat} (hi : i < L.length) : ((nthL L i).length : Int) = n := by
  rw [nthL_eq hi]
  have := List.all_eq_true.1 h L[i] (List.getElem_mem hi)
  simpa using this
theorem fitB_not {n : Int} {L : List (List Int)} {i : Nat} (hi : i < L.length) (h : ((nthL L i).length : Int) ≠ n) : fitB n L = false := by
  rw [Bool.eq_false_iff]
  intro hc
  exact h (fitB_nth hc hi)
theorem fitB_of {n : Int} {L : List (List Int)} (h : ∀ i, i < L.length → ((nthL L i).length : Int) = n) : fitB n L = true := by
  refine List.all_eq_true.2 fun l hl => ?_
  obtain ⟨i, hi, rfl⟩ := List.getElem_of_mem hl
  have := h i hi
  rw [nthL_eq hi] at this
  simpa using this
/-- The numbers at a place of all words. -/
def col (L : List (List Int)) (i : Nat) : List Int := L.map fun l => nth l i
theorem col_length (L : List (List Int)) (i : Nat) : (col L i).length = L.length := by simp [col]
theorem col_step {L : List (List Int)} {j : Nat} (i : Nat) (h : j < L.length) : (col (L.take (j + 1)) i).map (Value.int .i64) = (col (L.take j) i).map (Value.int .i64) ++ [.int .i64 (nth (nthL L j) i)] := by
  rw [List.take_succ_eq_append_getElem h, ← nthL_eq h]; simp [col]
def batchAt (p n sh r g : Int) (first : List Int) (L : List (List Int)) (i : Nat) : Int := batched p (nth first i) g (ptAt p sh r i ^ (3 * n / 8).toNat) (col L i)
def batchL (p n sh r g : Int) (first : List Int) (L : List (List Int)) (m : Nat) : List Int := (List.range m).map (batchAt p n sh r g first L)
theorem batchL_length (p n sh r g : Int) (first : List Int) (L : List (List Int)) (m : Nat) : (batchL p n sh r g first L m).length = m := by simp [batchL]
theorem batchL_nth (p n sh r g : Int) (first : List Int) (L : List (List Int)) {m i : Nat} (h : i < m) : nth (batchL p n sh r g first L m) i = batchAt p n sh r g first L i := by rw [nth_eq (by rw [batchL_length]; exact h)]; simp [batchL]
theorem batchL_succ (p n sh r g : Int) (first : List Int) (L : List (List Int)) (m : Nat) : (batchL p n sh r g first L (m + 1)).map (Value.int .i64) = (batchL p n sh r g first L m).map (Value.int .i64) ++ [.int .i64 (batchAt p n sh r g first L m)] := by simp [batchL, List.range_succ]
end Go.Att
namespace Go.Proofs.YtaajjaadlpgbiaaGreatDoor
open Go.RowKit Go.Att

theorem slRows : SlT Tryz.prog 22 23 1 24 (.slice none 0 0) := .mk' Tryz.underlying22 (by kernel_rfl) (by decide)

/-- Is a batch refused? -/
def batBad (n : Int) (l1 : List Int) (L : List (List Int)) : Bool := decide (n < 8) || ((l1.length : Int) != n) || !fitB n L

end Go.Proofs.YtaajjaadlpgbiaaGreatDoor
/-! One word of several, the program's side: the words that fit. -/
namespace Go.Proofs.YtaajjaadlpgbiaaGreatDoor
open Go.RowKit Go.Att

end Go.Proofs.YtaajjaadlpgbiaaGreatDoor
end
section
namespace Go.Att
open Go.RowKit
/-- What a gate is, over the values beneath. -/
def gval (p : Int) (row : List Int) (g : Tri) : Int := if g.1 = 1 then fmul p (nth row g.2.1.toNat) (nth row g.2.2.toNat) else fadd p (nth row g.2.1.toNat) (nth row g.2.2.toNat)
def vrow (p : Int) (Ls : List (List Tri)) (inp : List Int) : Nat → List Int
  | 0 => inp.map (fof p)
  | i + 1 => (nthY Ls i).map (gval p (vrow p Ls inp i))
/-- All rows up to one. -/
def vals (p : Int) (Ls : List (List Tri)) (inp : List Int) (n : Nat) : List (List Int) := (List.range (n + 1)).map (vrow p Ls inp)
theorem vals_length (p : Int) (Ls : List (List Tri)) (inp : List Int) (n : Nat) : (vals p Ls inp n).length = n + 1 := by simp [vals]
theorem vals_succ (p : Int) (Ls : List (List Tri)) (inp : List Int) (n : Nat) : vals p Ls inp (n + 1) = vals p Ls inp n ++ [vrow p Ls inp (n + 1)] := by unfold vals; rw [List.range_succ, List.map_append]; rfl
theorem vals_nth (p : Int) (Ls : List (List Tri)) (inp : List Int) {n i : Nat} (h : i ≤ n) : nthL (vals p Ls inp n) i = vrow p Ls inp i := by rw [nthL_eq (by rw [vals_length]; omega)]; simp [vals]
theorem vrow_length {p wd : Int} {Ls : List (List Tri)} {inp : List Int} (h : (inp.length : Int) = 2 ^ wd.toNat) (i : Nat) : ((vrow p Ls inp i).length : Int) = below wd Ls i := by
  cases i with
  | zero => simp [vrow, below, h]
  | succ i => simp [vrow, below]
theorem vrow_step (p : Int) (row : List Int) {l : List Tri} {k : Nat} (h : k < l.length) : ((l.take (k + 1)).map (gval p row)).map (Value.int .i64) = ((l.take k).map (gval p row)).map (Value.int .i64) ++ [.int .i64 (gval p row (nthT l k))] := by
  rw [List.take_succ_eq_append_getElem h, ← nthT_eq h]; simp
theorem gval_mul {p : Int} {row : List Int} {a b : Nat} : gval p row (1, a, b) = fmul p (nth row a) (nth row b) := by simp [gval]
theorem gval_add {p : Int} {row : List Int} {k : Int} {a b : Nat} (h : k ≠ 1) : gval p row (k, a, b) = fadd p (nth row a) (nth row b) := by simp [gval, h]
end Go.Att
namespace Go.Proofs.YtaajjaadlpgbiaaGreatDoor
open Go.RowKit Go.Att

end Go.Proofs.YtaajjaadlpgbiaaGreatDoor
end
