/- How arguments read: bytes. No function in sight. -/
import Derived.Test.YthpgmjdepigihaaDoorWr
import Derived.Test.YthpgmjdepigihaaDoorY1
import Derived.Test.YthpgmjdepigihaaDoorY2
namespace Go.Att
open Go.RowKit Go.ChangeShapes Go.WideShapes Go.Deep
section
variable {H : Type} {enc : TypeId × Value → H} {P : Program} {w : World} {base : Nat} {spare : Nat → Bool} {held : Bool}
/-- A slice of bytes that came in. -/
theorem open_BytsF {fuel : Nat} {t e : TypeId} {v : Value} {d : DataW H} {p : List MemPlace} (ht : P.underlying t = some (.slice e)) (he : P.underlying e = some (.int .u8)) (hc : P.cellsOf e = 1)
    (hf : DataW.trod enc P w base spare held fuel t [v] = some (d, p)) : ∃ l : List Int, Byts w v l ∧ BytesIn l ∧ (l = [] ∨ ∃ es sp, d = .slice es sp ∧ es.length = l.length) := by
  rcases open_ints ht he hc hf with ⟨h1, h2⟩ | ⟨a, len, cap, zs, h1, h2, h3, h4, h5, h6, h7, h8⟩
  · simp at h1 h2
    subst h1
    exact ⟨[], ⟨none, 0, rfl, by simp, Nat.le_refl _, Nat.zero_le _, fun i hi => by simp at hi⟩, (fun c hc => by cases hc), .inl rfl⟩
  · simp at h1 h6
    subst h1
    have hlz : len ≤ zs.length := by rw [h5]; split <;> omega
    refine ⟨zs.take len, ⟨some a, cap, ?_, ?_, ?_, h4, fun i hi => ?_⟩, fun c hc => ?_, .inr ⟨_, _, h6.1, by simp [lits]⟩⟩
    · simp; omega
    · simp
    · simp; omega
    · simp at hi
      have hi' : i < zs.length := by omega
      have hsp : a.spot = none := by
        have h0 := h7 0 (by omega)
        rw [Addr.add, if_pos rfl] at h0
        exact spot_none h0
      refine ⟨a.block, a.off, ?_, ?_⟩
      · rcases a with ⟨b, o, s⟩; simp at hsp; subst hsp; rfl
      · have hci := h7 i hi'
        have : a.add i = ⟨a.block, a.off + i, none⟩ := by
          rcases a with ⟨b, o, s⟩; simp at hsp; subst hsp; exact Addr.add_lit _ _ _
        rw [this] at hci
        rw [hci]
        simp [hi']
    · have : (decide ((0 : Int) ≤ c) && decide (c ≤ (255 : Int))) = true := h8 c (List.mem_of_mem_take hc)
      simp at this
      omega
theorem open_Byts {t e : TypeId} {v : Value} {d : DataW H} {p : List MemPlace} (ht : P.underlying t = some (.slice e)) (he : P.underlying e = some (.int .u8)) (hc : P.cellsOf e = 1)
    (hv : v.cells.toList = [v]) (h : DataW.Trod enc P w base spare held t v d p) : ∃ l : List Int, Byts w v l ∧ BytesIn l ∧ (l = [] ∨ ∃ es sp, d = .slice es sp ∧ es.length = l.length) := by
  obtain ⟨fuel, hf⟩ := h
  rw [hv] at hf
  exact open_BytsF ht he hc hf
end
end Go.Att
