/- RulesBroken: the document's side: a cell of an instruction; what a register becomes. -/
import Derived.Test.YtionlicgaifblaaDoorK3
namespace Go.Proofs.YtionlicgaifblaaDoor
open Go.RowKit Go.Att
section
variable {w : World} {q : Nat} {p sz out : Int} {cd : List In4} {lv rv nv : Value} {r n : List Int}
/-- What the register numbered g becomes. -/
def regK (p : Int) (r : List Int) (g : Nat) (k : Nat) (x : In4) : Int := if g = 0 then fpK p r k x else if g = 1 then apK p r k x else rvK r k x
set_option maxRecDepth 100000 in
set_option maxHeartbeats 4000000 in
theorem wreg_any (h : WAt w q p sz out cd lv rv nv r n) (k : Nat) (x : In4) (g : Nat) (gi : Int) (hg : (g = 0 ∧ gi = 0) ∨ (g = 1 ∧ gi = 1) ∨ (g = 2 ∧ gi = 2)) : Calls Tryd.prog 112 #[.pointer (some ⟨q, 0, none⟩), .agg #[.int .i64 x.op, .int .i64 x.a, .int .i64 x.b, .int .i64 x.c], .int .i64 gi] w fun e w' => e = .returned (.int .i64 (regK p r g k x)) ∧ Ext w w' := by
  obtain ⟨op, a, b, c⟩ := x
  have hx := Ext.alloc w (Obj.cells #[.int .i64 op, .int .i64 a, .int .i64 b, .int .i64 c] 93)
  have H := h.ext hx
  have HH := Lib.hid H
  have HXX := Lib.hid hx
  have hr : 20 ≤ r.length := by have := h.lr; omega
  have f0 : ∀ w', (Instr.indexAt 64 rv (.int .i64 0)).run Tryd.prog w' = .ok (.pointer (some (elt rv 0 1))) w' := h.row.run_index slInts 0 (by omega)
  have d0 := H.row.cell 0 (by omega)
  have f1 : ∀ w', (Instr.indexAt 64 rv (.int .i64 1)).run Tryd.prog w' = .ok (.pointer (some (elt rv 1 1))) w' := h.row.run_index slInts 1 (by omega)
  have d1 := H.row.cell 1 (by omega)
  have f2 : ∀ w', (Instr.indexAt 64 rv (.int .i64 2)).run Tryd.prog w' = .ok (.pointer (some (elt rv 2 1))) w' := h.row.run_index slInts 2 (by omega)
  have d2 := H.row.cell 2 (by omega)
  have f7 : ∀ w', (Instr.indexAt 64 rv (.int .i64 7)).run Tryd.prog w' = .ok (.pointer (some (elt rv 7 1))) w' := h.row.run_index slInts 7 (by omega)
  have d7 := H.row.cell 7 (by omega)
  have f9 : ∀ w', (Instr.indexAt 64 rv (.int .i64 9)).run Tryd.prog w' = .ok (.pointer (some (elt rv 9 1))) w' := h.row.run_index slInts 9 (by omega)
  have d9 := H.row.cell 9 (by omega)
  have c4 := H.c4
  have hall : op = 11 ∨ op = 10 ∨ ((op == 11) = false ∧ (op == 10) = false) := by
    simp only [beq_eq_false_iff_ne]; omega
  clear H hx h hr
  rcases hg with ⟨rfl, rfl⟩ | ⟨rfl, rfl⟩ | ⟨rfl, rfl⟩ <;> rcases hall with rfl | rfl | ⟨h11, h10⟩
  all_goals
    go_enter Tryd.func112, Tryd.ntmps112
    go_wp2_with (first | (go_at_call 65; refine (wadd_any HH.out _ _).mono ?_; rintro e w' ⟨rfl, rfl⟩))
    go_ret
    first | exact ⟨rfl, HXX.out⟩ | (refine ⟨ret_int ?_, HXX.out⟩; rw [beq_eq_false_iff_ne] at h11 h10; simp [regK, fpK, apK, rvK, h11, h10]; done) | (refine ⟨ret_int ?_, HXX.out⟩; simp [regK, fpK, apK, rvK]; done)
end
end Go.Proofs.YtionlicgaifblaaDoor
