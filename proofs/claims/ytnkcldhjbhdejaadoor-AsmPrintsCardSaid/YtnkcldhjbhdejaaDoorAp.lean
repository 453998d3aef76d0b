/- Code as text: what is written, in plain words. No program in sight. -/
import Derived.Test.YtnkcldhjbhdejaaDoorVc
import Derived.Lib.ItoaNum
import Derived.Lib.ItoaLen
import Derived.Lib.Join
import Derived.Test.YtnkcldhjbhdejaaDoorM1
namespace Go.Att
open Go.RowKit
theorem nDig_le18 (u : Nat) : Lib.nDigits u ≤ 18 ↔ u ≤ 999999999999999999 := by
  have key : ∀ k u : Nat, Lib.nDigits u ≤ k + 1 ↔ u < 10 ^ (k + 1) := by
    intro k
    induction k with
    | zero =>
      intro u
      rw [Lib.nDigits]
      by_cases h : u < 10
      · rw [dif_pos h]; simp [h]
      · rw [dif_neg h]
        have h1 : 1 ≤ Lib.nDigits (u / 10) := by rw [Lib.nDigits]; split <;> omega
        simp; omega
    | succ k ih =>
      intro u
      rw [Lib.nDigits]
      by_cases h : u < 10
      · rw [dif_pos h]
        have h1 : 10 ^ 1 ≤ 10 ^ (k + 1 + 1) := Nat.pow_le_pow_right (by decide) (by omega)
        constructor
        · intro _; omega
        · intro _; omega
      · rw [dif_neg h]
        have h2 := ih (u / 10)
        have h3 : 10 ^ (k + 1 + 1) = 10 * 10 ^ (k + 1) := by rw [Nat.pow_succ, Nat.mul_comm]
        rw [h3]
        constructor
        · intro h4
          have := h2.1 (by omega)
          omega
        · intro h4
          have := h2.2 (by omega)
          omega
  have := key 17 u
  omega
/-- Whether a number has few digits. -/
def fitsA (n : Int) : Bool := decide (-999999999999999999 ≤ n ∧ n ≤ 999999999999999999)
theorem fitsA_digits (n : Int) : fitsA n = decide ((Lib.decDigits n.natAbs).length ≤ 18) := by
  unfold fitsA
  rw [Lib.decDigits_length, decide_eq_decide, nDig_le18]
  omega
/-- The digits begin with none but digits. -/
theorem decDigits_head (u : Nat) : ∃ c l, Lib.decDigits u = c :: l ∧ 48 ≤ c.toNat ∧ c.toNat ≤ 57 := by
  induction u using Nat.strongRecOn with
  | ind u ih =>
    rw [Lib.decDigits]
    by_cases h : u < 10
    · rw [dif_pos h]
      refine ⟨_, _, rfl, ?_, ?_⟩ <;> simp <;> omega
    · rw [dif_neg h]
      obtain ⟨c, l, h1, h2⟩ := ih (u / 10) (by omega)
      rw [h1]
      exact ⟨c, _, rfl, h2⟩
def wordA : Nat → List UInt8
  | 0 => [104, 97, 108, 116]
  | 1 => [97, 100, 100]
  | 2 => [115, 117, 98]
  | 3 => [109, 117, 108]
  | 4 => [100, 105, 118]
  | 5 => [115, 101, 116]
  | 6 => [115, 97, 109, 101]
  | 7 => [109, 117, 115, 116]
  | 8 => [106, 117, 109, 112]
  | 9 => [122, 101, 114, 111]
  | 10 => [99, 97, 108, 108]
  | 11 => [98, 97, 99, 107]
  | 12 => [116, 97, 107, 101]
  | _ => [112, 97, 115, 115]
/-- What follows a word: false: a number; true: where it goes on. -/
def opsA : Nat → List Bool
  | 0 => [false]
  | 1 => [false, false, false]
  | 2 => [false, false, false]
  | 3 => [false, false, false]
  | 4 => [false, false, false]
  | 5 => [false, false]
  | 6 => [false, false, false]
  | 7 => [false, false]
  | 8 => [true]
  | 9 => [false, true]
  | 10 => [true, false]
  | 11 => [false]
  | 12 => [false]
  | _ => [false, false]
theorem opsA_len (op : Nat) : 1 ≤ (opsA op).length ∧ (opsA op).length ≤ 3 := by
  unfold opsA; split <;> simp
theorem wordA_len (op : Nat) : (wordA op).length ≤ 4 := by
  unfold wordA; split <;> simp
/-- An instruction's numbers, by place. -/
def valA (x : In4) (i : Nat) : Int := if i = 0 then x.a else if i = 1 then x.b else x.c
/-- Whether an instruction can be written. -/
def rightA (x : In4) : Bool := decide (0 ≤ x.op ∧ x.op < 14) && (List.range 3).all fun i => (decide (i < (opsA x.op.toNat).length) || valA x i == 0) && fitsA (valA x i)
theorem rightA_op {x : In4} (h : rightA x = true) : 0 ≤ x.op ∧ x.op < 14 := by
  unfold rightA at h
  rw [Bool.and_eq_true, decide_eq_true_eq] at h
  exact h.1
theorem rightA_val {x : In4} (h : rightA x = true) (i : Nat) (hi : i < 3) : fitsA (valA x i) = true := by
  unfold rightA at h
  rw [Bool.and_eq_true, List.all_eq_true] at h
  have := h.2 i (List.mem_range.2 hi)
  rw [Bool.and_eq_true] at this
  exact this.2
theorem fitsA_bd {n : Int} (h : fitsA n = true) : -999999999999999999 ≤ n ∧ n ≤ 999999999999999999 := by
  unfold fitsA at h; exact of_decide_eq_true h
/-- Whether a number is written as where it goes on. -/
def goA (N : Nat) (x : In4) (i : Nat) : Bool := (opsA x.op.toNat).getD i false && decide (0 ≤ valA x i ∧ valA x i ≤ N)
def opdA (N : Nat) (x : In4) (i : Nat) : List UInt8 := if goA N x i = true then 108 :: Lib.itoa (valA x i) else Lib.itoa (valA x i)
/-- The first i operands, as the document writes them. -/
def opdsA (N : Nat) (x : In4) (i : Nat) : List UInt8 := (List.range i).flatMap fun j => 32 :: opdA N x j
theorem opdsA_succ (N : Nat) (x : In4) (i : Nat) : opdsA N x (i + 1) = opdsA N x i ++ 32 :: opdA N x i := by simp [opdsA, List.range_succ]
def lineA (N : Nat) (x : In4) : List UInt8 := wordA x.op.toNat ++ opdsA N x (opsA x.op.toNat).length
/-- The words of a line. -/
def wdsA (N : Nat) (x : In4) (i : Nat) : List (List UInt8) := wordA x.op.toNat :: (List.range i).map (opdA N x)
theorem wdsA_succ (N : Nat) (x : In4) (i : Nat) : wdsA N x (i + 1) = wdsA N x i ++ [opdA N x i] := by simp [wdsA, List.range_succ]
theorem lineA_join (N : Nat) (x : In4) : Lib.join (wdsA N x (opsA x.op.toNat).length) [32] = lineA N x := by
  unfold wdsA lineA opdsA
  rw [Lib.join_cons]
  unfold Lib.joinTail
  rw [List.map_map, List.flatMap_def]
  rfl
/-- Whether the first i operands go on at n. -/
def hitA (N : Nat) (x : In4) (n : Nat) (i : Nat) : Bool := (List.range i).any fun j => goA N x j && valA x j == (n : Int)
theorem hitA_succ (N : Nat) (x : In4) (n i : Nat) : hitA N x n (i + 1) = (hitA N x n i || (goA N x i && valA x i == (n : Int))) := by simp [hitA, List.range_succ]
/-- Whether any of the first k instructions goes on at n. -/
def wantA (l : List In4) (n k : Nat) : Bool := (List.range k).any fun i => hitA l.length (nthI l i) n (opsA (nthI l i).op.toNat).length
theorem wantA_succ (l : List In4) (n k : Nat) : wantA l n (k + 1) = (wantA l n k || hitA l.length (nthI l k) n (opsA (nthI l k).op.toNat).length) := by simp [wantA, List.range_succ]
def rowA (l : List In4) (k : Nat) : List UInt8 := (if wantA l k l.length = true then 108 :: (Lib.itoa k ++ [58, 10]) else []) ++ (if k < l.length then lineA l.length (nthI l k) ++ [10] else [])
/-- The text so far. -/
def textU (sz : Int) (l : List In4) (k : Nat) : List UInt8 := [115, 105, 122, 101, 32] ++ Lib.itoa sz ++ [10] ++ (List.range k).flatMap (rowA l)
theorem textU_succ (sz : Int) (l : List In4) (k : Nat) : textU sz l (k + 1) = textU sz l k ++ rowA l k := by simp [textU, List.range_succ, List.append_assoc]
/-- The text of code. -/
def textA (sz : Int) (l : List In4) : List UInt8 := textU sz l (l.length + 1)
def asmErr (sz : Int) (l : List In4) : Int := if 4096 < l.length then 9 else if (fitsA sz && l.all rightA) = true then 0 else 3
theorem itoa_le (n : Int) (h : fitsA n = true) : (Lib.itoa n).length ≤ 21 := by
  have := fitsA_bd h
  exact Lib.itoa_length_le n (by omega) (by omega)
theorem opdA_le (N : Nat) (x : In4) (i : Nat) (h : fitsA (valA x i) = true) : (opdA N x i).length ≤ 22 := by
  have := itoa_le _ h
  unfold opdA; split <;> simp <;> omega
end Go.Att
