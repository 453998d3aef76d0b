/- RulesBroken: the document's side: what else an instruction does; which is next. -/
import Derived.Test.YtionlicgaifblaaDoorK3
import Derived.BigQuiet
namespace Go.Proofs.YtionlicgaifblaaDoor
open Go.RowKit Go.Att
section
variable {w : World} {q : Nat} {p sz out : Int} {cd : List In4} {lv rv nv : Value} {r n : List Int}
theorem wmul_q (h : WAt w q p sz out cd lv rv nv r n) (a b : Int) (m : Nat) : Calls Tryd.prog 63 #[.pointer (some ⟨q, 0, none⟩), .int .i64 a, .int .i64 b] (w.drewN m) fun e w' => e = .returned (.int .i64 (fmul p a b)) ∧ ∃ k, w' = w.drewN k := (wmul_any (h.ext (Ext.drewN w m)) a b).mono fun _ _ h => ⟨h.1, m, h.2.symm⟩
theorem wsub_q (h : WAt w q p sz out cd lv rv nv r n) (a b : Int) (m : Nat) : Calls Tryd.prog 64 #[.pointer (some ⟨q, 0, none⟩), .int .i64 a, .int .i64 b] (w.drewN m) fun e w' => e = .returned (.int .i64 (fsub p a b)) ∧ ∃ k, w' = w.drewN k := (wsub_any (h.ext (Ext.drewN w m)) a b).mono fun _ _ h => ⟨h.1, m, h.2.symm⟩
set_option maxRecDepth 100000 in
set_option maxHeartbeats 4000000 in
theorem walso_any (h : WAt w q p sz out cd lv rv nv r n) (k : Nat) (hk : k < cd.length) (hs : cd.length ≤ 1048576) : Calls Tryd.prog 110 #[.pointer (some ⟨q, 0, none⟩), .int .i64 k] w fun e w' => e = .returned (.int .i64 (moreK p r k (nthI cd k))) ∧ Ext w w' := by
  have hix := h.code.run_index (P := Tryd.prog) slIns k hk
  have e0 := h.code.c0 k hk
  have e1 := h.code.c1 k hk
  have e2 := h.code.c2 k hk
  have e3 := h.code.c3 k hk
  have c2 := h.c2
  generalize nthI cd k = x at *
  obtain ⟨op, a, b, c⟩ := x
  have hx := Ext.alloc w (Obj.cells #[.int .i64 op, .int .i64 a, .int .i64 b, .int .i64 c] 93)
  have H := h.ext hx
  have HH := Lib.hid H
  have HXX := Lib.hid hx
  have hr : 20 ≤ r.length := by have := h.lr; omega
  have f7 : ∀ w', (Instr.indexAt 64 rv (.int .i64 7)).run Tryd.prog w' = .ok (.pointer (some (elt rv 7 1))) w' := h.row.run_index slInts 7 (by omega)
  have d7 := H.row.cell 7 (by omega)
  have f8 : ∀ w', (Instr.indexAt 64 rv (.int .i64 8)).run Tryd.prog w' = .ok (.pointer (some (elt rv 8 1))) w' := h.row.run_index slInts 8 (by omega)
  have d8 := H.row.cell 8 (by omega)
  have f9 : ∀ w', (Instr.indexAt 64 rv (.int .i64 9)).run Tryd.prog w' = .ok (.pointer (some (elt rv 9 1))) w' := h.row.run_index slInts 9 (by omega)
  have d9 := H.row.cell 9 (by omega)
  have f11 : ∀ w', (Instr.indexAt 64 rv (.int .i64 11)).run Tryd.prog w' = .ok (.pointer (some (elt rv 11 1))) w' := h.row.run_index slInts 11 (by omega)
  have d11 := H.row.cell 11 (by omega)
  have c4 := H.c4
  have hall : op = 4 ∨ op = 6 ∨ op = 10 ∨ ((op == 4) = false ∧ (op == 6) = false ∧ (op == 10) = false) := by
    simp only [beq_eq_false_iff_ne]; omega
  clear h H hx hr
  rcases hall with rfl | rfl | rfl | ⟨h4, h6, h10⟩
  · go_enter Tryd.func110, Tryd.ntmps110
    go_wp2_with fail
    generalize w.alloc (Obj.cells #[.int .i64 4, .int .i64 a, .int .i64 b, .int .i64 c] 93) = W at *
    go_quiet ((go_at_call 63; exact wmul_q HH.out _ _ _))
    go_wp2_with (go_at_call 64; refine (wsub_any (HH.out.ext (Ext.drewN _ _)) _ _).mono ?_; rintro e w' ⟨rfl, rfl⟩)
    go_ret
    exact ⟨rfl, HXX.out.trans (Ext.drewN _ _)⟩
  · go_enter Tryd.func110, Tryd.ntmps110
    go_wp2_with fail
    generalize w.alloc (Obj.cells #[.int .i64 6, .int .i64 a, .int .i64 b, .int .i64 c] 93) = W at *
    go_quiet ((go_at_call 64; exact wsub_q HH.out _ _ _))
    have d9 := (Ext.drewN W 0).cell d9
    go_wp2_with (go_at_call 63; refine (wmul_any (HH.out.ext (Ext.drewN _ _)) _ _).mono ?_; rintro e w' ⟨rfl, rfl⟩)
    go_ret
    exact ⟨rfl, HXX.out.trans (Ext.drewN _ _)⟩
  · go_enter Tryd.func110, Tryd.ntmps110
    go_wp2_with (go_at_call 64; refine (wsub_any HH.out _ _).mono ?_; rintro e w' ⟨rfl, rfl⟩)
    go_ret
    exact ⟨rfl, HXX.out⟩
  · go_enter Tryd.func110, Tryd.ntmps110
    go_wp2_with fail
    go_ret
    refine ⟨ret_int ?_, HXX.out⟩
    rw [beq_eq_false_iff_ne] at h4 h6 h10
    simp [moreK, h4, h6, h10]
end
end Go.Proofs.YtionlicgaifblaaDoor
