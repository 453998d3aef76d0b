/- WholeAgain: bytes that are a voucher's are those that it is written as: the law's walk. -/
import Derived.Test.YthpgmjdepigihaaDoorYb
namespace Go.Att
open Go.RowKit
theorem BytesIn.append {a b : List Int} (h : BytesIn a) (k : BytesIn b) : BytesIn (a ++ b) := fun c hc => by
  rcases List.mem_append.1 hc with h1 | h1
  · exact h c h1
  · exact k c h1
theorem encI_in (x : Int) : BytesIn (encI x) := encU_in _
theorem encL_in {α : Type} {e : α → List Int} (h : ∀ x, BytesIn (e x)) (l : List α) : BytesIn (encL e l) := by
  unfold encL
  refine (encI_in _).append fun c hc => ?_
  obtain ⟨x, _, hx⟩ := List.mem_flatMap.1 hc
  exact h x c hx
theorem encIs_in (l : List Int) : BytesIn (encIs l) := encL_in encI_in l
theorem encRs_in (l : List (List Int)) : BytesIn (encRs l) := encL_in encIs_in l
theorem encO_in (o : Opn) : BytesIn (encO o) := ((encIs_in _).append (encRs_in _)).append (encRs_in _)
theorem encOs_in (l : List Opn) : BytesIn (encOs l) := encL_in encO_in l
theorem encV_in (v : Vch) : BytesIn (encV v) := ((((((((encIs_in _).append (encIs_in _)).append (encI_in _)).append (encRs_in _)).append (encIs_in _)).append (encOs_in _)).append (encO_in _)).append (encO_in _))
def vch0 : Vch := ⟨[1, 300], [], 0, [], [], [], ([], [], []), ([], [], [])⟩
theorem vch0_enc : encV vch0 = [2, 1, 172, 2, 0, 0, 0, 0, 0, 0, 0, 0, 0, 0, 0] := by
  have e2 : encU 2 = [2] := by rw [encU, if_pos (by decide)]; rfl
  have e1 : encU 1 = [1] := by rw [encU, if_pos (by decide)]; rfl
  have e0 : encU 0 = [0] := by rw [encU, if_pos (by decide)]; rfl
  have e3 : encU 300 = [172, 2] := by rw [encU, if_neg (by decide), show 300 / 128 = 2 by decide, e2]; rfl
  have i2 : encI 2 = [2] := e2
  have i1 : encI 1 = [1] := e1
  have i0 : encI 0 = [0] := e0
  have i3 : encI 300 = [172, 2] := e3
  simp [encV, vch0, encIs, encRs, encOs, encO, encL, i0, i1, i2, i3]
theorem vch0_v : VcV vch0 := by
  refine ⟨⟨by decide, fun x hx => ?_⟩, ⟨by decide, fun x hx => by cases hx⟩, by unfold I64 vch0; decide, ⟨by decide, fun x hx => by cases hx⟩, ⟨by decide, fun x hx => by cases hx⟩, ⟨by decide, fun x hx => by cases hx⟩, ?_, ?_⟩
  · simp [vch0] at hx; rcases hx with rfl | rfl <;> (unfold I64; decide)
  · exact ⟨⟨by decide, fun x hx => by cases hx⟩, ⟨by decide, fun x hx => by cases hx⟩, ⟨by decide, fun x hx => by cases hx⟩⟩
  · exact ⟨⟨by decide, fun x hx => by cases hx⟩, ⟨by decide, fun x hx => by cases hx⟩, ⟨by decide, fun x hx => by cases hx⟩⟩
theorem vch0_rd : rdV (encV vch0) = some (vch0, []) := by have := rdV_forth vch0 [] vch0_v; rwa [List.append_nil] at this
theorem rws_nil (w : World) : Rws w (.slice none 0 0) [] := ⟨fun _ => .slice none 0 0, ⟨⟨none, 0, rfl, by simp, Nat.le_refl _, Nat.zero_le _, fun i hi => by simp at hi⟩, fun i hi => by simp at hi⟩⟩
theorem vch0_at (w : World) (t : TypeId) : VchAt (w.alloc (Obj.cells #[.int .i64 1, .int .i64 300] t)) (.slice (some ⟨w.heap.size, 0, none⟩) 2 2) (.slice none 0 0) (.slice none 0 0) (.slice none 0 0) (.slice none 0 0) (.slice none 0 0) (.slice none 0 0) (.slice none 0 0) (.slice none 0 0) (.slice none 0 0) (.slice none 0 0) vch0 := by
  refine ⟨⟨_, _, rfl, rfl, Nat.le_refl _, by unfold maxLen; decide, fun i hi => ⟨_, _, rfl, ?_⟩⟩, Ints.nil _, rws_nil _, Ints.nil _, Opns.nil _, ⟨Ints.nil _, rws_nil _, rws_nil _⟩, ⟨Ints.nil _, rws_nil _, rws_nil _⟩⟩
  have h0 : i = 0 ∨ i = 1 := by simp [vch0] at hi; omega
  rcases h0 with rfl | rfl
  · exact cell_new w #[.int .i64 1, .int .i64 300] t 0
  · exact cell_new w #[.int .i64 1, .int .i64 300] t 1
theorem opns_shape {w : World} {v : Value} {l : List Opn} (h : Opns w v l) : ∃ ao cap, v = .slice ao l.length cap := by
  obtain ⟨A, B, C, h⟩ := h; obtain ⟨ao, cap, h, -⟩ := h.sl; exact ⟨ao, cap, h⟩
end Go.Att
namespace Go.Proofs.YthpgmjdepigihaaDoor
open Go.RowKit Go.Att
end Go.Proofs.YthpgmjdepigihaaDoor
