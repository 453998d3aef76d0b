/- RulesBroken: the document's side: the first rule that does not hold. -/
import Derived.Test.YtnmjaddhbecopaaGreatDoorZx9
import Derived.Test.YtnmjaddhbecopaaGreatDoorQt
import Derived.IntWalk
namespace Go.Att
open Go.RowKit
theorem badB_skip {p sz out : Int} {cd : List In4} {L : List (List Int)} {k i kd : Nat} (hk : kindR cd.length k = kd) (h : speakB L.length kd i = false) : badB p sz out cd L k i = false := by
  unfold badB; rw [hk, h]; rfl
theorem badB_say {p sz out : Int} {cd : List In4} {L : List (List Int)} {k i kd j : Nat} {y : Int} (hk : kindR cd.length k = kd) (h : speakB L.length kd i = true) (hj : (i + 1) % L.length = j) (hy : ruleD p sz out cd (nthL L i) (nthL L j) k = y) : badB p sz out cd L k i = (y != 0) := by
  unfold badB; rw [hk, h, hj, hy]; rfl
/-- Nothing bad is among the first. -/
def CleanB (bad : Nat → Nat → Bool) (N k i : Nat) : Prop := (∀ k' i', k' < k → i' < N → bad k' i' = false) ∧ ∀ i', i' < i → bad k i' = false
theorem CleanB.start {bad : Nat → Nat → Bool} {N : Nat} : CleanB bad N 0 0 := ⟨fun _ _ h => by omega, fun _ h => by omega⟩
theorem CleanB.next {bad : Nat → Nat → Bool} {N k i : Nat} (h : CleanB bad N k i) (hb : bad k i = false) : CleanB bad N k (i + 1) :=
  ⟨h.1, fun i' hi => by rcases Nat.lt_or_eq_of_le (show i' ≤ i by omega) with h2 | rfl; exact h.2 i' h2; exact hb⟩
theorem CleanB.row {bad : Nat → Nat → Bool} {N k : Nat} (h : CleanB bad N k N) : CleanB bad N (k + 1) 0 :=
  ⟨fun k' i' hk hi => by rcases Nat.lt_or_eq_of_le (show k' ≤ k by omega) with h2 | rfl; exact h.1 k' i' h2 hi; exact h.2 i' hi, fun _ h => by omega⟩
theorem CleanB.none {bad : Nat → Nat → Bool} {N M : Nat} (h : CleanB bad N M 0) : FstBad bad (fun k i => k < M ∧ i < N) none := fun k i hs => h.1 k i hs.1 hs.2
theorem CleanB.some {bad : Nat → Nat → Bool} {N M k i : Nat} (h : CleanB bad N k i) (hk : k < M) (hi : i < N) (hb : bad k i = true) : FstBad bad (fun k i => k < M ∧ i < N) (some (k, i)) :=
  ⟨⟨hk, hi⟩, hb, fun k' i' hs hk' => h.1 k' i' hk' hs.2, fun i' _ hi' => h.2 i' hi'⟩
theorem kindB_lit (l k : Nat) : kindR l k = 0 ∨ kindR l k = 1 ∨ kindR l k = 2 ∨ kindR l k = 3 := by unfold kindR; (repeat' split) <;> simp
/-- Whether a row is skipped, each way. -/
theorem speak_ways {N i kd : Nat} (hi : i < N) (hk : kd = 0 ∨ kd = 1 ∨ kd = 2 ∨ kd = 3) :
    (kd = 0 ∧ speakB N kd i = true) ∨ (kd = 1 ∧ i + 1 < N ∧ speakB N kd i = true) ∨ (kd = 2 ∧ i = 0 ∧ speakB N kd i = true) ∨ (kd = 3 ∧ i + 1 = N ∧ speakB N kd i = true) ∨
    (kd = 1 ∧ i + 1 = N ∧ speakB N kd i = false) ∨ (kd = 2 ∧ 0 < i ∧ speakB N kd i = false) ∨ (kd = 3 ∧ i + 1 < N ∧ speakB N kd i = false) := by
  rcases hk with rfl | rfl | rfl | rfl
  · exact .inl ⟨rfl, rfl⟩
  · by_cases h : i + 1 < N
    · exact .inr (.inl ⟨rfl, h, by simp [speakB, h]⟩)
    · exact .inr (.inr (.inr (.inr (.inl ⟨rfl, by omega, by simp [speakB, h]⟩))))
  · by_cases h : i = 0
    · exact .inr (.inr (.inl ⟨rfl, h, by simp [speakB, h]⟩))
    · exact .inr (.inr (.inr (.inr (.inr (.inl ⟨rfl, by omega, by simp [speakB, h]⟩)))))
  · by_cases h : i + 1 = N
    · exact .inr (.inr (.inr (.inl ⟨rfl, h, by simp [speakB, h]⟩)))
    · exact .inr (.inr (.inr (.inr (.inr (.inr ⟨rfl, by omega, by simp [speakB, h]⟩)))))
/-- The same of an Int, as the walk asks. -/
theorem kind_ways {N i kd : Nat} {ki : Int} (hi : i < N) (hk : kd = 0 ∨ kd = 1 ∨ kd = 2 ∨ kd = 3) (hki : (kd : Int) = ki) :
    ((ki == 1) = false ∧ (ki == 2) = false ∧ (ki == 3) = false ∧ speakB N kd i = true) ∨
    ((ki == 1) = true ∧ (ki == 2) = false ∧ (ki == 3) = false ∧ ((i : Int) == (N : Int) - 1) = false ∧ speakB N kd i = true) ∨
    ((ki == 1) = false ∧ (ki == 2) = true ∧ (ki == 3) = false ∧ i = 0 ∧ speakB N kd i = true) ∨
    ((ki == 1) = false ∧ (ki == 2) = false ∧ (ki == 3) = true ∧ (N : Int) - 1 ≤ (i : Int) ∧ speakB N kd i = true) ∨
    ((ki == 1) = true ∧ (ki == 2) = false ∧ (ki == 3) = false ∧ ((i : Int) == (N : Int) - 1) = true ∧ speakB N kd i = false) ∨
    ((ki == 1) = false ∧ (ki == 2) = true ∧ (ki == 3) = false ∧ 0 < (i : Int) ∧ speakB N kd i = false) ∨
    ((ki == 1) = false ∧ (ki == 2) = false ∧ (ki == 3) = true ∧ (i : Int) < (N : Int) - 1 ∧ speakB N kd i = false) := by
  subst hki
  simp only [beq_iff_eq, beq_eq_false_iff_ne]
  rcases speak_ways hi hk with ⟨h, hs⟩ | ⟨h, h2, hs⟩ | ⟨h, h2, hs⟩ | ⟨h, h2, hs⟩ | ⟨h, h2, hs⟩ | ⟨h, h2, hs⟩ | ⟨h, h2, hs⟩
  · exact .inl ⟨by omega, by omega, by omega, hs⟩
  · exact .inr (.inl ⟨by omega, by omega, by omega, by omega, hs⟩)
  · exact .inr (.inr (.inl ⟨by omega, by omega, by omega, by omega, hs⟩))
  · exact .inr (.inr (.inr (.inl ⟨by omega, by omega, by omega, by omega, hs⟩)))
  · exact .inr (.inr (.inr (.inr (.inl ⟨by omega, by omega, by omega, by omega, hs⟩))))
  · exact .inr (.inr (.inr (.inr (.inr (.inl ⟨by omega, by omega, by omega, by omega, hs⟩)))))
  · exact .inr (.inr (.inr (.inr (.inr (.inr ⟨by omega, by omega, by omega, by omega, hs⟩)))))
theorem tmod_next {i N : Nat} (_hi : i < N) : Int.tmod ((i : Int) + 1) (N : Int) = (((i + 1) % N : Nat) : Int) := by
  rw [show (i : Int) + 1 = ((i + 1 : Nat) : Int) by omega]; exact (Int.ofNat_tmod _ _)
end Go.Att
namespace Go.Proofs.YtnmjaddhbecopaaGreatDoor
open Go.RowKit Go.Att
theorem wat_new {w : World} {p sz out : Int} {lv v : Value} {cd : List In4} {L : List (List Int)} {R : Nat → Value} (hp : 2 ≤ p) (hp2 : p ≤ 2147483647) (hc : Inqs w lv cd) (hv : RwsAt w v L R) (hL : ∀ i, i < L.length → (nthL L i).length = 20 + cd.length) {i j : Nat} (hi : i < L.length) (hj : j < L.length) (t : TypeId) :
    WAt (w.alloc (Obj.cells #[.int .i64 p, .int .i64 sz, lv, .int .i64 out, R i, R j] t)) w.heap.size p sz out cd lv (R i) (R j) (nthL L i) (nthL L j) :=
  ⟨by rw [cell_new]; rfl, by rw [cell_new]; rfl, by rw [cell_new]; rfl, by rw [cell_new]; rfl, by rw [cell_new]; rfl, by rw [cell_new]; rfl, hc.ext (Ext.alloc _ _), (hv.row i hi).ext (Ext.alloc _ _), (hv.row j hj).ext (Ext.alloc _ _), hL i hi, hL j hj, hp, hp2⟩
end Go.Proofs.YtnmjaddhbecopaaGreatDoor
