/- The document's root of rows: contracts. -/
import Derived.Test.YtcpnidomdkaefaaGreatDoorJe
import Derived.Test.YtcpnidomdkaefaaGreatDoorZx13
namespace Go.Att
open Go.RowKit
section
variable {P : Program} {w : World} {v : Value} {L : List (List Int)} {R : Nat → Value}
theorem nthL_drop (k i : Nat) : nthL (L.drop k) i = nthL L (k + i) := by
  unfold nthL
  simp [List.getD_eq_getElem?_getD, List.getElem?_drop]
/-- The last rows. -/
theorem rows_drop (h : RwsAt w v L R) {t e bytes : Nat} {z : Value} (ht : SlT P t e 1 bytes z) (k : Nat) (hk : k < L.length) :
    (∀ w', (Instr.sliceAt t v (some (.int .i64 k)) none none).run P w' = .ok (fromV v k) w') ∧ RwsAt w (fromV v k) (L.drop k) (fun i => R (k + i)) := by
  obtain ⟨ao, cap, rfl, h2, h3, h4, h5⟩ := h.sl
  have hu : P.underlying t = some (.slice (P.elem t)) := by rw [ht.und, elem_of ht.und]
  have hl : (L.drop k).length = L.length - k := by simp
  obtain ⟨b, off, rfl, _⟩ := h5 0 (by simp; omega)
  refine ⟨fun w' => ?_, ⟨⟨some (Addr.add ⟨b, off, none⟩ k), cap - k, ?_, ?_, ?_, by omega, fun i hi => ?_⟩, fun i hi => ?_⟩⟩
  · rw [run_sliceAt_slice (h := hu), run_slice_l (ht := hu) (h0 := by omega) (h1 := by omega), elem_of ht.und, ht.run_size]
    simp [Result.andThen, fromV]
  · rw [hl]; simp [fromV, sliced, show ¬ cap = k by omega]
  · simp
  · rw [hl]; omega
  · have hi' : i < L.length - k := by simpa using hi
    obtain ⟨b', off', e1, e2⟩ := h5 (k + i) (by simp; omega)
    injection e1 with e1; injection e1 with e1 e3
    subst e1 e3
    refine ⟨b, off + k, by rw [Addr.add_lit], ?_⟩
    rw [Nat.add_assoc, e2]; simp
  · rw [hl] at hi
    rw [nthL_drop]
    exact h.row (k + i) (by omega)
end
end Go.Att
namespace Go.Proofs.YtcpnidomdkaefaaGreatDoor
open Go.RowKit Go.Att
section
variable {w : World} {p : Int} {k : Nat}
end
section
variable {p : Int} {k : Nat}
end
end Go.Proofs.YtcpnidomdkaefaaGreatDoor
