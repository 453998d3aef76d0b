/- A word's coefficients; is it a codeword?: contracts. -/
import Derived.Test.YtaajjaadlpgbiaaGreatDoorZx10
import Derived.Test.YtaajjaadlpgbiaaGreatDoorU6
namespace Go.Att
open Go.RowKit
noncomputable def cwB (p : Int) (K k : Nat) (g : Int) (wt : Nat → Int) (word : List Int) : Bool := @decide (CW p K k g wt word) (Classical.propDecidable _)
theorem cwB_iff {p : Int} {K k : Nat} {g : Int} {wt : Nat → Int} {word : List Int} : cwB p K k g wt word = true ↔ CW p K k g wt word := ⟨fun h => @of_decide_eq_true _ (Classical.propDecidable _) h, fun h => @decide_eq_true _ (Classical.propDecidable _) h⟩
/-- The products up to i. -/
def cofU (p : Int) (L : List Int) (P : Nat → Int) (i : Nat) : List Int := (List.range L.length).map fun j => if j < i then fmul p (nth L j) (P j) else nth L j
theorem cofU_length (p : Int) (L : List Int) (P : Nat → Int) (i : Nat) : (cofU p L P i).length = L.length := by simp [cofU]
theorem cofU_zero (p : Int) (L : List Int) (P : Nat → Int) : cofU p L P 0 = L := by
  apply List.ext_getElem (by simp [cofU])
  intro j h1 h2
  simp [cofU, nth_eq h2]
theorem cofU_nth (p : Int) (L : List Int) (P : Nat → Int) (i j : Nat) (h : j < L.length) : nth (cofU p L P i) j = if j < i then fmul p (nth L j) (P j) else nth L j := nth_map_range _ _ _ h
theorem cofU_set (p : Int) (L : List Int) (P : Nat → Int) (i : Nat) (h : i < L.length) : ((cofU p L P i).map (Value.int .i64)).take (i * 1) ++ [.int .i64 (fmul p (nth L i) (P i))] ++ ((cofU p L P i).map (Value.int .i64)).drop (i * 1 + 1) = (cofU p L P (i + 1)).map (Value.int .i64) := by
  rw [Nat.mul_one]
  apply List.ext_getElem?
  intro j
  by_cases hj : j < L.length
  · by_cases h1 : j < i
    · rw [List.append_assoc, List.getElem?_append_left (by simp [cofU]; omega), List.getElem?_take, if_pos h1]
      simp [cofU, hj, h1, show j < i + 1 by omega]
    · by_cases h2 : j = i
      · subst h2
        rw [List.append_assoc, List.getElem?_append_right (by simp [cofU]; omega)]
        simp [cofU, hj, show min j L.length = j by omega]
      · rw [List.getElem?_append_right (by simp [cofU]; omega)]
        simp only [List.length_append, List.length_take, List.length_map, cofU, List.length_range, List.length_singleton, List.getElem?_drop]
        rw [show i + 1 + (j - (min i L.length + 1)) = j by omega]
        simp [hj, h1, show ¬ j < i + 1 by omega]
  · rw [List.getElem?_eq_none (by simp [cofU]; omega), List.getElem?_eq_none (by simp [cofU]; omega)]
theorem trimL_len (p : Int) (M : List Int) : (trimL p M).length = degN p M := by
  unfold trimL; rw [List.length_map, List.length_take]; have := degN_le p M; omega
theorem is_fin {p : Int} {K : Nat} {g : Int} {wt : Nat → Int} {l M : List Int} (hM : M.length = 2 ^ K) (hc : ∀ j, j < 2 ^ K → nth M j % p = cz K g wt l j % p) (k : Nat) : decide ((trimL p M).length ≤ k) = cwB p K k g wt l := by
  rw [trimL_len, Bool.eq_iff_iff, cwB_iff, decide_eq_true_iff]
  rw [degN_bd]
  unfold CW
  rw [hM]
  exact ⟨fun h j h1 h2 => by rw [← hc j h2]; exact h j h1 h2, fun h j h1 h2 => by rw [hc j h2]; exact h j h1 h2⟩
end Go.Att
namespace Go.Proofs.YtaajjaadlpgbiaaGreatDoor
open Go.RowKit Go.Att
/-- A word's coefficients are made. -/
def CofGot (p n sh r : Int) (K : Nat) (l : List Int) (v : Value) (w' : World) : Prop := ∃ (u : Value) (M : List Int), v = .tuple #[u, .nilIface] ∧ Ints w' u (trimL p M) ∧ M.length = 2 ^ K ∧ ∀ j, j < 2 ^ K → nth M j % p = cz K (finv p r) (ptAt p (finv p n) (finv p sh)) l j % p

/-- What Is says of a word. -/
def IsSaid (b : Bool) (w : World) (e : Ending) (w' : World) : Prop := e = .returned (.bool b) ∧ Ext w w'
end Go.Proofs.YtaajjaadlpgbiaaGreatDoor
