/- What runs tell compared; code copied and compared; a field by itself: contracts. -/
import Derived.Test.YtaodmkngakikjaaIq
import Derived.Test.YtaodmkngakikjaaM2
import Derived.Test.YtaodmkngakikjaaQt
import Derived.Test.YtaodmkngakikjaaFc
import Derived.BigQuiet
namespace Go.Proofs.Ytaodmkngakikjaa
open Go.RowKit Go.Att
theorem slCellM : SlT Try.prog 28 44 2 16 (.agg #[.int .i64 0, .int .i64 0]) := .mk' Try.underlying28 (by kernel_rfl) (by decide)
theorem prs_shape {w : World} {v : Value} {l : List (Int × Int)} (h : Prs w v l) : ∃ ao cap, v = .slice ao l.length cap := by
  obtain ⟨ao, cap, h1, _⟩ := h; exact ⟨ao, cap, h1⟩
/-- Two boxes, as they lie. -/
theorem two_boxes (w : World) (xs ys : List Value) (t u : TypeId) : ∃ W, (w.alloc (Obj.cells xs.toArray t)).alloc (Obj.cells ys.toArray u) = W ∧ BlkOf W w.heap.size xs t ∧ BlkOf W (w.heap.size + 1) ys u ∧ Ext w W := by
  refine ⟨_, rfl, (BlkOf.new w xs t).ext (Ext.alloc _ _), ?_, (Ext.alloc _ _).trans (Ext.alloc _ _)⟩
  have := BlkOf.new (w.alloc (Obj.cells xs.toArray t)) ys u
  rwa [show (w.alloc (Obj.cells xs.toArray t)).heap.size = w.heap.size + 1 by simp] at this
theorem flatQ_cells (L : List In4) : ∀ u ∈ flatQ L, u.oneCell' = true := by
  intro u hu
  unfold flatQ at hu
  rw [List.mem_flatMap] at hu
  obtain ⟨c, _, hc⟩ := hu
  simp only [List.mem_cons, List.not_mem_nil, or_false] at hc
  rcases hc with rfl | rfl | rfl | rfl <;> rfl
/-- A field, or none. -/
theorem plain_bad6 (p : Int) (w : World) (h : ¬ okP p) : Calls Try.prog 6 #[.int .i64 p] w fun e w' => e = .returned (.pointer none) ∧ w = w' := by
  have H := Lib.hid h; clear h
  go_enter Try.func6, Try.ntmps6
  go_wp2_with (go_at_call 15; refine (new_bad _ _ H.out).mono ?_; rintro e w' ⟨rfl, rfl⟩; rw [errv_pos (by decide)])
  go_ret
  exact ⟨rfl, rfl⟩
theorem plain_ok6 (p : Int) (w : World) (h : okP p) : Calls Try.prog 6 #[.int .i64 p] w (Gives w fun v w' => ∃ g, FieldOf w' v p g) := by
  have H := Lib.hid h; clear h
  go_enter Try.func6, Try.ntmps6
  go_wp2_with (go_at_call 15; refine (new_ok _ _ H.out).mono ?_; rintro e w1 ⟨v, rfl, hx, f, g, rfl, hf⟩; obtain ⟨b, rfl⟩ := hf.ptr)
  go_ret
  exact ⟨_, rfl, hx, g, hf⟩
end Go.Proofs.Ytaodmkngakikjaa
