/- A layer's sum, the program's side: Part with its faults. -/
import Derived.Test.YtnhbabiccfdhmaaGreatDoorP3
namespace Go.Att
open Go.RowKit
open Classical in
/-- What is wrong with a layer, with so many numbers of two points. -/
noncomputable def partErr (wd : Int) (Ls : List (List Tri)) (m : Nat) (layer : Int) (lz lx : Nat) : Int :=
  if walkErr wd Ls m = 0 then (if layB layer Ls.length = true then (if (lz : Int) = wideOf (nthY Ls layer.toNat).length ∧ (lx : Int) ≤ 2 * beneath wd Ls layer.toNat then 0 else 2) else 3) else walkErr wd Ls m
/-- The sum. -/
noncomputable def partV (p wd : Int) (Ls : List (List Tri)) (inp : List Int) (i : Nat) (z xs : List Int) : Int := partS (nthY Ls i) (beneath wd Ls i).toNat (vrow p Ls inp i) z xs (nthY Ls i).length % p
/-- .. 0 where something is wrong. -/
noncomputable def partR (p wd : Int) (Ls : List (List Tri)) (inp : List Int) (layer : Int) (z xs : List Int) : Int := if partErr wd Ls inp.length layer z.length xs.length = 0 then partV p wd Ls inp layer.toNat z xs else 0
theorem partErr_ok {wd : Int} {Ls : List (List Tri)} {m : Nat} {layer : Int} {lz lx : Nat} (h : partErr wd Ls m layer lz lx = 0) : walkErr wd Ls m = 0 ∧ layB layer Ls.length = true ∧ (lz : Int) = wideOf (nthY Ls layer.toNat).length ∧ (lx : Int) ≤ 2 * beneath wd Ls layer.toNat := by
  unfold partErr at h
  by_cases h1 : walkErr wd Ls m = 0
  · rw [if_pos h1] at h
    by_cases h2 : layB layer Ls.length = true
    · rw [if_pos h2] at h
      by_cases h3 : (lz : Int) = wideOf (nthY Ls layer.toNat).length ∧ (lx : Int) ≤ 2 * beneath wd Ls layer.toNat
      · exact ⟨h1, h2, h3.1, h3.2⟩
      · rw [if_neg h3] at h; omega
    · rw [if_neg h2] at h; omega
  · rw [if_neg h1] at h; exact absurd h h1
theorem partErr_mk {wd : Int} {Ls : List (List Tri)} {m : Nat} {layer : Int} {lz lx : Nat} (h1 : walkErr wd Ls m = 0) (h2 : layB layer Ls.length = true) (h3 : (lz : Int) = wideOf (nthY Ls layer.toNat).length) (h4 : (lx : Int) ≤ 2 * beneath wd Ls layer.toNat) : partErr wd Ls m layer lz lx = 0 := by
  unfold partErr; rw [if_pos h1, if_pos h2, if_pos ⟨h3, h4⟩]
theorem partErr_1 {wd : Int} {Ls : List (List Tri)} {m : Nat} {layer : Int} {lz lx : Nat} (h : walkErr wd Ls m ≠ 0) : partErr wd Ls m layer lz lx = walkErr wd Ls m := by unfold partErr; rw [if_neg h]
theorem partErr_3 {wd : Int} {Ls : List (List Tri)} {m : Nat} {layer : Int} {lz lx : Nat} (h : walkErr wd Ls m = 0) (h2 : layB layer Ls.length = false) : partErr wd Ls m layer lz lx = 3 := by unfold partErr; rw [if_pos h, if_neg (by rw [h2]; decide)]
theorem partErr_2 {wd : Int} {Ls : List (List Tri)} {m : Nat} {layer : Int} {lz lx : Nat} (h : walkErr wd Ls m = 0) (h2 : layB layer Ls.length = true) (h3 : ¬ ((lz : Int) = wideOf (nthY Ls layer.toNat).length ∧ (lx : Int) ≤ 2 * beneath wd Ls layer.toNat)) : partErr wd Ls m layer lz lx = 2 := by unfold partErr; rw [if_pos h, if_pos h2, if_neg h3]
end Go.Att
namespace Go.Proofs.YtnhbabiccfdhmaaGreatDoor
open Go.RowKit Go.Att

end Go.Proofs.YtnhbabiccfdhmaaGreatDoor
