/- The document's machine: what its block holds; Find, shown, look, tell, must, reckoned. -/
import Derived.Test.YtnmjaddhbecopaaGreatDoorM8
import Derived.Test.YtnmjaddhbecopaaGreatDoorHa
namespace Go.Att
open Go.RowKit
/-- The cells of the document's machine. -/
def dcells (p : Int) (cv : Value) (s : Ms) (er : Int) : List Value :=
  [.int .i64 p, cv, .int .i64 s.pc, .int .i64 s.fp, .int .i64 s.ap, .int .i64 s.rv, .int .i64 (accA s.acc 0), .int .i64 (accA s.acc 1), .int .i64 (accA s.acc 2), .int .i64 (accI s.acc 0), .int .i64 (accI s.acc 1), .int .i64 (accI s.acc 2), .int .i64 s.acc.length, .int .i64 er]
theorem lk_at {m : List (Int × Int)} {i : Int} {k : Nat} (hk : k < m.length) (h0 : ∀ j, j < k → (nthP m j).1 ≠ i) (h1 : (nthP m k).1 = i) : lk m i = some (nthP m k).2 := by
  induction m generalizing k with
  | nil => simp at hk
  | cons c m ih =>
    cases k with
    | zero =>
      have e : c.1 = i := by simpa [nthP] using h1
      simp [lk, nthP, e]
    | succ k =>
      have e : c.1 ≠ i := by have := h0 0 (by omega); simpa [nthP] using this
      have := ih (k := k) (by simpa using hk) (fun j hj => by have := h0 (j + 1) (by omega); simpa [nthP] using this) (by simpa [nthP] using h1)
      unfold lk at this ⊢
      rw [List.find?_cons_of_neg (by simpa using e), this]
      simp [nthP]
theorem lk_nowhere {m : List (Int × Int)} {i : Int} (h0 : ∀ j, j < m.length → (nthP m j).1 ≠ i) : lk m i = none := by
  unfold lk
  rw [Option.map_eq_none_iff, List.find?_eq_none]
  intro c hc
  obtain ⟨j, hj, rfl⟩ := List.getElem_of_mem hc
  have := h0 j hj
  rw [nthP_eq hj] at this
  simpa using this
theorem flatP_app (l : List (Int × Int)) (c : Int × Int) : flatP (l ++ [c]) = flatP l ++ [.int .i64 c.1, .int .i64 c.2] := by simp [flatP]
/-- Where a cell is found. -/
def FindGot (m : List (Int × Int)) (i : Int) (w : World) (e : Ending) (w' : World) : Prop :=
  w = w' ∧ ((lk m i = none ∧ e = .returned (.int .i64 (-1))) ∨ ∃ k : Nat, k < m.length ∧ lk m i = some (nthP m k).2 ∧ e = .returned (.int .i64 k))
/-- What else is there stays, and what was told lies elsewhere. -/
def DK (b : Nat) (w w' : World) (cv cv' : Value) : Prop := ∀ q, q < w.heap.size → q ≠ b → cv.ownBlock ≠ some q → w'.heap[q]? = w.heap[q]? ∧ q < w'.heap.size ∧ cv'.ownBlock ≠ some q
section
variable {b : Nat} {w w' w'' : World} {cv cv' cv'' : Value}
theorem DK.refl (b : Nat) (w : World) (cv : Value) : DK b w w cv cv := fun _ h1 _ h3 => ⟨rfl, h1, h3⟩
theorem DK.trans (h : DK b w w' cv cv') (k : DK b w' w'' cv' cv'') : DK b w w'' cv cv'' := fun q h1 h2 h3 => by
  obtain ⟨a1, a2, a3⟩ := h q h1 h2 h3
  obtain ⟨b1, b2, b3⟩ := k q a2 h2 a3
  exact ⟨b1.trans a1, b2, b3⟩
theorem DK.ext (hx : Ext w w') : DK b w w' cv cv := fun q h1 _ h3 => ⟨hx.below.block q h1, Nat.lt_of_lt_of_le h1 hx.size, h3⟩
theorem DK.one (hg : w.grownBy w' (some b)) : DK b w w' cv cv := fun q h1 h2 h3 => ⟨hg.block q h1 (fun e => h2 (Option.some.inj e)), Nat.lt_of_lt_of_le h1 hg.size, h3⟩
theorem DK.own (hg : w.grownBy w' cv.ownBlock) (hm : Moved w cv cv') : DK b w w' cv cv' := fun q h1 _ h3 => ⟨hg.block q h1 (fun e => h3 e.symm), Nat.lt_of_lt_of_le h1 hg.size, by
  rcases hm with e | e
  · rw [e]; exact h3
  · intro hc; have := e _ hc; omega⟩
theorem DK.blk (h : DK b w w' cv cv') {q : Nat} {cs : List Value} {t : TypeId} (hb : BlkOf w q cs t) (h2 : q ≠ b) (h3 : cv.ownBlock ≠ some q) : BlkOf w' q cs t := by
  unfold BlkOf at *; rw [(h q (lt_of_block hb) h2 h3).1]; exact hb
end
end Go.Att
namespace Go.Proofs.YtnmjaddhbecopaaGreatDoor
open Go.RowKit Go.Att
attribute [local go_sem ↓] Go.wp_at_zero Go.wp_at_succ
theorem slCellsM : SlT Tryz.prog 96 193 2 16 (.agg #[.int .i64 0, .int .i64 0]) := SlT.mk' Tryz.underlying96 (by kernel_rfl) (by decide)
section
variable {w0 w w' : World} {b : Nat} {p : Int} {s s' : Ms} {cv cv' : Value} {er er' : Int}
theorem told_same {s : Ms} {i y : Int} (h : lk s.mem i = some y) : s.told i y = s.noted i y := by unfold Ms.told Ms.noted; rw [h]
end
end Go.Proofs.YtnmjaddhbecopaaGreatDoor
