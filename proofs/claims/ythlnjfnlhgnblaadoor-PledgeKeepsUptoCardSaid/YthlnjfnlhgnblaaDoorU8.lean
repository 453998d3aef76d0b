/- By halves: the lists. Plain laws. No program in sight. -/
import Derived.Test.YthlnjfnlhgnblaaDoorU3
namespace Go.Att
def evL (l : List Int) (n : Nat) : List Int := (List.range n).map fun i => nth l (2 * i)
def odL (l : List Int) (n : Nat) : List Int := (List.range n).map fun i => nth l (2 * i + 1)
theorem evL_length (l : List Int) (n : Nat) : (evL l n).length = n := by simp [evL]
theorem odL_length (l : List Int) (n : Nat) : (odL l n).length = n := by simp [odL]
theorem evL_nth (l : List Int) (n i : Nat) (h : i < n) : nth (evL l n) i = nth l (2 * i) := nth_map_range _ _ _ h
theorem odL_nth (l : List Int) (n i : Nat) (h : i < n) : nth (odL l n) i = nth l (2 * i + 1) := nth_map_range _ _ _ h
theorem evL_succ (l : List Int) (n : Nat) : evL l (n + 1) = evL l n ++ [nth l (2 * n)] := by unfold evL; rw [List.range_succ]; simp
theorem odL_succ (l : List Int) (n : Nat) : odL l (n + 1) = odL l n ++ [nth l (2 * n + 1)] := by unfold odL; rw [List.range_succ]; simp
/-- The powers, as the program has them. -/
def xp (p g : Int) : Nat → Int
  | 0 => 1
  | j + 1 => fmul p (xp p g j) g
theorem xp_mod (p g : Int) (j : Nat) : xp p g j % p = g ^ j % p := by
  induction j with
  | zero => simp [xp]
  | succ j ih => simp only [xp, fmul, e_idem, Int.pow_succ]; exact mmul ih rfl
/-- What is laid in behind i of h steps. -/
def outP (p g : Int) (E O : List Int) (h i : Nat) : List Int := (List.range (h + h)).map fun j =>
  if j < i then fadd p (nth E j) (fmul p (xp p g j) (nth O j)) else if h ≤ j ∧ j < h + i then fsub p (nth E (j - h)) (fmul p (xp p g (j - h)) (nth O (j - h))) else 0
theorem outP_length (p g : Int) (E O : List Int) (h i : Nat) : (outP p g E O h i).length = h + h := by simp [outP]
theorem outP_set (p g : Int) (E O : List Int) (h i : Nat) (hi : i < h) : (((outP p g E O h i).set i (fadd p (nth E i) (fmul p (xp p g i) (nth O i)))).set (h + i) (fsub p (nth E i) (fmul p (xp p g i) (nth O i)))) = outP p g E O h (i + 1) := by
  apply List.ext_getElem (by simp [outP])
  intro j h1 h2
  have hj : j < h + h := by simpa [outP] using h2
  rw [List.getElem_set, List.getElem_set]
  simp only [outP, List.getElem_map, List.getElem_range]
  by_cases e1 : h + i = j
  · subst e1
    rw [if_pos rfl, if_neg (by omega), if_pos ⟨by omega, by omega⟩, show h + i - h = i by omega]
  · rw [if_neg e1]
    by_cases e2 : i = j
    · subst e2; rw [if_pos rfl, if_pos (by omega)]
    · rw [if_neg e2]
      by_cases e3 : j < i
      · rw [if_pos e3, if_pos (show j < i + 1 by omega)]
      · rw [if_neg e3, if_neg (show ¬ j < i + 1 by omega)]
        by_cases e4 : h ≤ j ∧ j < h + i
        · rw [if_pos e4, if_pos (show h ≤ j ∧ j < h + (i + 1) by omega)]
        · rw [if_neg e4, if_neg (show ¬ (h ≤ j ∧ j < h + (i + 1)) by omega)]
theorem outP_zero (p g : Int) (E O : List Int) (h : Nat) : outP p g E O h 0 = List.replicate (h + h) 0 := by
  unfold outP
  apply List.ext_getElem (by simp)
  intro i h1 h2
  simp; omega
theorem out_fin (p g : Int) (l E O : List Int) (K : Nat) (hE : ∀ j, j < 2 ^ K → nth E j % p = sprZ K (nth (evL l (2 ^ K))) (fmul p g g) j % p) (hO : ∀ j, j < 2 ^ K → nth O j % p = sprZ K (nth (odL l (2 ^ K))) (fmul p g g) j % p) :
    ∀ j, j < 2 ^ (K + 1) → nth (outP p g E O (2 ^ K) (2 ^ K)) j % p = sprZ (K + 1) (nth l) g j % p := by
  intro j hj
  rw [Nat.pow_succ, Nat.mul_two] at hj
  have hg : fmul p g g % p = (g * g) % p := e_idem _ _
  have h1 : ∀ j, j < 2 ^ K → nth E j % p = sprZ K (fun i => nth l (2 * i)) (g * g) j % p := fun j hj => by
    rw [hE j hj]; exact sprZ_mod p K hg (fun i hi => by rw [evL_nth _ _ _ hi]) j hj
  have h2 : ∀ j, j < 2 ^ K → nth O j % p = sprZ K (fun i => nth l (2 * i + 1)) (g * g) j % p := fun j hj => by
    rw [hO j hj]; exact sprZ_mod p K hg (fun i hi => by rw [odL_nth _ _ _ hi]) j hj
  unfold outP
  rw [nth_map_range _ _ _ hj]
  simp only [sprZ]
  by_cases hlt : j < 2 ^ K
  · rw [if_pos hlt, if_pos hlt]
    simp only [fadd, fmul, e_idem]
    rw [ea_r]
    exact madd (h1 j hlt) (mmul (xp_mod p g j) (h2 j hlt))
  · rw [if_neg hlt, if_pos ⟨by omega, by omega⟩, if_neg hlt]
    simp only [fsub, fmul, e_idem]
    rw [es_r, Int.sub_emod, h1 _ (by omega), mmul (xp_mod p g _) (h2 _ (by omega)), ← Int.sub_emod]
end Go.Att
