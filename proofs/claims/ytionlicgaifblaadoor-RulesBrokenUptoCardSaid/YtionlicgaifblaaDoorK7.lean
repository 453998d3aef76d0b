/- RulesBroken: the document's side: which instruction is next. -/
import Derived.Test.YtionlicgaifblaaDoorK6
namespace Go.Proofs.YtionlicgaifblaaDoor
open Go.RowKit Go.Att
section
variable {w : World} {q : Nat} {p sz out : Int} {cd : List In4} {lv rv nv : Value} {r n : List Int}
set_option maxRecDepth 100000 in
set_option maxHeartbeats 4000000 in
theorem wnext_any (h : WAt w q p sz out cd lv rv nv r n) (k : Nat) (hk : k < cd.length) (hs : cd.length ≤ 1048576) : Calls Tryd.prog 111 #[.pointer (some ⟨q, 0, none⟩), .int .i64 k] w fun e w' => e = .returned (.int .i64 (goesD p r k (nthI cd k))) ∧ Ext w w' := by
  have hix := h.code.run_index (P := Tryd.prog) slIns k hk
  have e0 := h.code.c0 k hk
  have e1 := h.code.c1 k hk
  have e2 := h.code.c2 k hk
  have e3 := h.code.c3 k hk
  have c2 := h.c2
  generalize nthI cd k = x at *
  obtain ⟨op, a, b, c⟩ := x
  have hx := Ext.alloc w (Obj.cells #[.int .i64 op, .int .i64 a, .int .i64 b, .int .i64 c] 93)
  have H := h.ext hx
  have HH := Lib.hid H
  have HXX := Lib.hid hx
  have hr : 20 ≤ r.length := by have := h.lr; omega
  have f7 : ∀ w', (Instr.indexAt 64 rv (.int .i64 7)).run Tryd.prog w' = .ok (.pointer (some (elt rv 7 1))) w' := h.row.run_index slInts 7 (by omega)
  have d7 := H.row.cell 7 (by omega)
  have f8 : ∀ w', (Instr.indexAt 64 rv (.int .i64 8)).run Tryd.prog w' = .ok (.pointer (some (elt rv 8 1))) w' := h.row.run_index slInts 8 (by omega)
  have d8 := H.row.cell 8 (by omega)
  have f9 : ∀ w', (Instr.indexAt 64 rv (.int .i64 9)).run Tryd.prog w' = .ok (.pointer (some (elt rv 9 1))) w' := h.row.run_index slInts 9 (by omega)
  have d9 := H.row.cell 9 (by omega)
  have f11 : ∀ w', (Instr.indexAt 64 rv (.int .i64 11)).run Tryd.prog w' = .ok (.pointer (some (elt rv 11 1))) w' := h.row.run_index slInts 11 (by omega)
  have d11 := H.row.cell 11 (by omega)
  have c4 := H.c4
  have hall : op = 0 ∨ op = 8 ∨ op = 10 ∨ op = 9 ∨ op = 11 ∨ ((op == 0) = false ∧ (op == 8) = false ∧ (op == 10) = false ∧ (op == 9) = false ∧ (op == 11) = false) := by
    simp only [beq_eq_false_iff_ne]; omega
  clear h H hx hr
  rcases hall with rfl | rfl | rfl | rfl | rfl | ⟨h0, h8, h10, h9, h11⟩
  · go_enter Tryd.func111, Tryd.ntmps111
    go_wp2_with fail
    go_ret
    exact ⟨rfl, HXX.out⟩
  · go_enter Tryd.func111, Tryd.ntmps111
    go_wp2_with fail
    go_ret
    exact ⟨rfl, HXX.out⟩
  · go_enter Tryd.func111, Tryd.ntmps111
    go_wp2_with fail
    go_ret
    exact ⟨rfl, HXX.out⟩
  · go_enter Tryd.func111, Tryd.ntmps111
    go_wp2_with fail
    have gb : (w.alloc (Obj.cells #[.int .i64 9, .int .i64 a, .int .i64 b, .int .i64 c] 93)).cell? ⟨w.heap.size, 2, none⟩ = some (.int .i64 b) := by simp
    generalize w.alloc (Obj.cells #[.int .i64 9, .int .i64 a, .int .i64 b, .int .i64 c] 93) = W at *
    go_quiet ((go_at_call 63; exact wmul_q HH.out _ _ _))
    go_wp2_with (first | (go_at_call 64; refine (wsub_any (HH.out.ext (Ext.drewN _ _)) _ _).mono ?_; rintro e w' ⟨rfl, rfl⟩) | (go_at_call 63; refine (wmul_any (HH.out.ext (Ext.drewN _ _)) _ _).mono ?_; rintro e w' ⟨rfl, rfl⟩) | (go_at_call 65; refine (wadd_any (HH.out.ext (Ext.drewN _ _)) _ _).mono ?_; rintro e w' ⟨rfl, rfl⟩))
    go_ret
    exact ⟨rfl, HXX.out.trans (Ext.drewN _ _)⟩
  · go_enter Tryd.func111, Tryd.ntmps111
    go_wp2_with fail
    go_ret
    exact ⟨rfl, HXX.out⟩
  · go_enter Tryd.func111, Tryd.ntmps111
    go_wp2_with fail
    go_ret
    refine ⟨ret_int ?_, HXX.out⟩
    rw [beq_eq_false_iff_ne] at h0 h8 h10 h9 h11
    simp [goesD, h0, h8, h10, h9, h11]
end
end Go.Proofs.YtionlicgaifblaaDoor
