/- A region that draws its order, each of whose first n operations turns one block at most and whose others stand in one order. No program in sight. -/
import Derived.Test.YtgnomhbbbcfehaaGreatDoorEx
namespace Go.Att
open Go.RowKit
structure SG where
  p : Value → World → Prop
def SG.top : SG := ⟨fun _ _ => True⟩
def SG.eq (x : Value) : SG := ⟨fun v _ => v = x⟩
def RelStep (P : Program) (l : List Oper) (n : Nat) (φ : List SG) (ψ : List (World → Prop)) (bl : List (Option Nat)) (Q : Exit → Act → World → Prop) (a0 : Act) (i : Nat) : Prop :=
  match l[i]? with
  | none => True
  | some o => ∀ (vs : Nat → Value) (W : World), ψ.getD i (fun _ => True) W → (∀ j, hasDep l i j = true → (φ.getD j SG.top).p (vs (dstN l j)) W) →
      wpList P l.toArray (Exit.then (fun a' W' => a'.defers = a0.defers ∧ W.grownBy W' (bl.getD i none) ∧ (φ.getD i SG.top).p (slotV a' o.dst) W') Q) [o] (fillA (dstL l n) vs a0) W
theorem RelStep.mk {P : Program} {l : List Oper} {n : Nat} {φ : List SG} {ψ : List (World → Prop)} {bl : List (Option Nat)} {Q : Exit → Act → World → Prop} {a0 : Act} {i : Nat} {o : Oper} (ho : l[i]? = some o)
    (h : ∀ (vs : Nat → Value) (W : World), ψ.getD i (fun _ => True) W → (∀ j, hasDep l i j = true → (φ.getD j SG.top).p (vs (dstN l j)) W) →
      wpList P l.toArray (Exit.then (fun a' W' => a'.defers = a0.defers ∧ W.grownBy W' (bl.getD i none) ∧ (φ.getD i SG.top).p (slotV a' o.dst) W') Q) [o] (fillA (dstL l n) vs a0) W) : RelStep P l n φ ψ bl Q a0 i := by
  unfold RelStep; rw [ho]; exact h
section
variable {P : Program} {l : List Oper} {n : Nat}
def AllG (l : List Oper) (φ : List SG) (vs : Nat → Value) (W : World) : Nat → Prop
  | 0 => True
  | j + 1 => AllG l φ vs W j ∧ ((l[j]?).bind (·.dst) = none ∨ (φ.getD j SG.top).p (vs (dstN l j)) W)
theorem allG_of {φ : List SG} {vs : Nat → Value} {W : World} : ∀ (m : Nat), (∀ j, j < m → ∀ d, ((l[j]?).bind (·.dst)) = some d → (φ.getD j SG.top).p (vs d) W) → AllG l φ vs W m
  | 0, _ => trivial
  | m + 1, h => by
    refine ⟨allG_of m fun j hj => h j (by omega), ?_⟩
    cases hd : (l[m]?).bind (·.dst) with
    | none => exact .inl rfl
    | some d => exact .inr (by have := h m (by omega) d hd; unfold dstN; rw [hd]; exact this)
theorem AllG.at {φ : List SG} {vs : Nat → Value} {W : World} : ∀ {m : Nat}, AllG l φ vs W m → ∀ j, j < m → ((l[j]?).bind (·.dst)).isSome = true → (φ.getD j SG.top).p (vs (dstN l j)) W
  | 0, _, j, hj, _ => by omega
  | m + 1, h, j, hj, hs => by
    rcases Nat.lt_or_eq_of_le (Nat.lt_succ_iff.1 hj) with h1 | rfl
    · exact h.1.at j h1 hs
    · rcases h.2 with h2 | h2
      · rw [h2] at hs; cases hs
      · exact h2
end
inductive Rch (bs : List (Option Nat)) (W0 : World) : World → Prop
  | refl : Rch bs W0 W0
  | step {W W' : World} {b : Option Nat} : Rch bs W0 W → W.grownBy W' b → b ∈ bs → Rch bs W0 W'
theorem Rch.keep {bs : List (Option Nat)} {W0 W : World} {φ : World → Prop} (h : Rch bs W0 W) (hs : ∀ A B b, b ∈ bs → φ A → A.grownBy B b → φ B) (h0 : φ W0) : φ W := by
  induction h with
  | refl => exact h0
  | step _ hg hb ih => exact hs _ _ _ hb ih hg
theorem Rch.size {bs : List (Option Nat)} {W0 W : World} (h : Rch bs W0 W) : W0.heap.size ≤ W.heap.size := h.keep (φ := fun W => W0.heap.size ≤ W.heap.size) (fun _ _ _ _ h1 hg => Nat.le_trans h1 hg.size) (Nat.le_refl _)
def SG.lit (e : TypeId) (xs : List Value) (B0 : Nat) : SG := ⟨fun v W => ∃ g, v = .slice (some ⟨g, 0, none⟩) xs.length xs.length ∧ W.heap[g]? = some (.cells xs.toArray e (0, 0)) ∧ B0 ≤ g⟩
def SG.app (B : Nat) (e : TypeId) (n : Nat) (xs : List Value) (vr : Value) (B0 : Nat) : SG := ⟨fun v W => W.ownsRow B e 1 v n xs ∧ (v.ownBlock = vr.ownBlock ∨ ∀ q, v.ownBlock = some q → B0 ≤ q)⟩
end Go.Att
