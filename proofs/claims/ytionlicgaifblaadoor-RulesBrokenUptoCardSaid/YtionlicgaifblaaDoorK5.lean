/- RulesBroken: the document's side: a cell of an instruction. -/
import Derived.Test.YtionlicgaifblaaDoorK3
namespace Go.Proofs.YtionlicgaifblaaDoor
open Go.RowKit Go.Att
section
variable {w : World} {q : Nat} {p sz out : Int} {cd : List In4} {lv rv nv : Value} {r n : List Int}
set_option maxRecDepth 100000 in
set_option maxHeartbeats 8000000 in
theorem wcell_any (h : WAt w q p sz out cd lv rv nv r n) (k : Nat) (x : In4) (g : Nat) (gi : Int) (hg : (g = 0 ∧ gi = 0) ∨ (g = 1 ∧ gi = 1) ∨ (g = 2 ∧ gi = 2)) : Calls Tryd.prog 108 #[.pointer (some ⟨q, 0, none⟩), .agg #[.int .i64 x.op, .int .i64 x.a, .int .i64 x.b, .int .i64 x.c], .int .i64 gi] w fun e w' => e = .returned (.int .i64 (cellD p r g k x)) ∧ Ext w w' := by
  obtain ⟨op, a, b, c⟩ := x
  have hx := Ext.alloc w (Obj.cells #[.int .i64 op, .int .i64 a, .int .i64 b, .int .i64 c] 93)
  have H := h.ext hx
  have HH := Lib.hid H
  have HXX := Lib.hid hx
  have hr : 20 ≤ r.length := by have := h.lr; omega
  have f0 : ∀ w', (Instr.indexAt 64 rv (.int .i64 0)).run Tryd.prog w' = .ok (.pointer (some (elt rv 0 1))) w' := h.row.run_index slInts 0 (by omega)
  have d0 := H.row.cell 0 (by omega)
  have f1 : ∀ w', (Instr.indexAt 64 rv (.int .i64 1)).run Tryd.prog w' = .ok (.pointer (some (elt rv 1 1))) w' := h.row.run_index slInts 1 (by omega)
  have d1 := H.row.cell 1 (by omega)
  have c4 := H.c4
  have hall : op = 1 ∨ op = 2 ∨ op = 3 ∨ op = 4 ∨ op = 6 ∨ op = 7 ∨ op = 5 ∨ op = 9 ∨ op = 12 ∨ op = 0 ∨ op = 13 ∨ op = 10 ∨ op = 11 ∨ ((op == 1) = false ∧ (op == 2) = false ∧ (op == 3) = false ∧ (op == 4) = false ∧ (op == 6) = false ∧ (op == 7) = false ∧ (op == 5) = false ∧ (op == 9) = false ∧ (op == 12) = false ∧ (op == 0) = false ∧ (op == 13) = false ∧ (op == 10) = false ∧ (op == 11) = false) := by
    simp only [beq_eq_false_iff_ne]; omega
  clear H hx h hr
  rcases hg with ⟨rfl, rfl⟩ | ⟨rfl, rfl⟩ | ⟨rfl, rfl⟩ <;> rcases hall with rfl | rfl | rfl | rfl | rfl | rfl | rfl | rfl | rfl | rfl | rfl | rfl | rfl | ⟨h1, h2, h3, h4, h6, h7, h5, h9, h12, h0, h13, h10, h11⟩
  all_goals
    go_enter Tryd.func108, Tryd.ntmps108
    go_wp2_with (first | (go_at_call 65; refine (wadd_any HH.out _ _).mono ?_; rintro e w' ⟨rfl, rfl⟩))
    go_ret
    first | exact ⟨rfl, HXX.out⟩ | (refine ⟨ret_int ?_, HXX.out⟩; rw [beq_eq_false_iff_ne] at h1 h2 h3 h4 h6 h7 h5 h9 h12 h0 h13 h10 h11; simp [cellD, oneB, twoB, threeB, h1, h2, h3, h4, h6, h7, h5, h9, h12, h0, h13, h10, h11]; done) | (refine ⟨ret_int ?_, HXX.out⟩; simp [cellD, oneB, twoB, threeB]; done)
end
end Go.Proofs.YtionlicgaifblaaDoor
