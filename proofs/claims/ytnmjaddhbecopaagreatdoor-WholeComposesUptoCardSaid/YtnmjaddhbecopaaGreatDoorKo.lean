/- RulesBroken: the program's side: a cell of an instruction. -/
import Derived.Test.YtnmjaddhbecopaaGreatDoorZx8
import Derived.Test.YtnmjaddhbecopaaGreatDoorQt
namespace Go.Proofs.YtnmjaddhbecopaaGreatDoor
open Go.RowKit Go.Att
section
variable {w : World} {q : Nat} {f : Value} {p g : Int} {fs : List Int} {sz out : Int} {cd : List In4} {lv rv nv : Value} {r n : List Int}
set_option maxRecDepth 100000 in
set_option maxHeartbeats 16000000 in
theorem jcell_any (h : JAt w q f p g fs sz out cd lv rv nv r n) (q1 q2 : Nat) (hq1 : w.cell? ⟨q1, 0, none⟩ = some (.pointer (some ⟨q, 0, none⟩))) (j : Nat) (ji : Int) (hq2 : w.cell? ⟨q2, 0, none⟩ = some (.int .i64 ji)) (hj : (j = 0 ∧ ji = 0) ∨ (j = 1 ∧ ji = 1) ∨ (j = 2 ∧ ji = 2)) (k : Int) (kn : Nat) (x : In4) : Calls Tryz.prog 241 #[.int .i64 k, .agg #[.int .i64 x.op, .int .i64 x.a, .int .i64 x.b, .int .i64 x.c], .pointer (some ⟨q1, 0, none⟩), .pointer (some ⟨q2, 0, none⟩)] w fun e w' => e = .returned (.int .i64 (cellK p r j kn x)) ∧ Ext w w' := by
  obtain ⟨op, a, b, c⟩ := x
  have hx := Ext.alloc w (Obj.cells #[.int .i64 op, .int .i64 a, .int .i64 b, .int .i64 c] 169)
  have H := h.ext hx
  have HH := Lib.hid H
  have HXX := Lib.hid hx
  have HF := Lib.hid H.fld
  have b0 : (w.alloc (Obj.cells #[.int .i64 op, .int .i64 a, .int .i64 b, .int .i64 c] 169)).cell? ⟨w.heap.size, 0, none⟩ = some (.int .i64 op) := by simp
  have b1 : (w.alloc (Obj.cells #[.int .i64 op, .int .i64 a, .int .i64 b, .int .i64 c] 169)).cell? ⟨w.heap.size, 1, none⟩ = some (.int .i64 a) := by simp
  have b2 : (w.alloc (Obj.cells #[.int .i64 op, .int .i64 a, .int .i64 b, .int .i64 c] 169)).cell? ⟨w.heap.size, 2, none⟩ = some (.int .i64 b) := by simp
  have b3 : (w.alloc (Obj.cells #[.int .i64 op, .int .i64 a, .int .i64 b, .int .i64 c] 169)).cell? ⟨w.heap.size, 3, none⟩ = some (.int .i64 c) := by simp
  replace hq1 := hx.cell hq1
  replace hq2 := hx.cell hq2
  have c0 := H.c0
  have c4 := H.c4
  have f0 : ∀ w', (Instr.indexAt 23 rv (.int .i64 0)).run Tryz.prog w' = .ok (.pointer (some (elt rv 0 1))) w' := h.row.run_index slInts 0 (by have := h.lr; omega)
  have d0 := H.row.cell 0 (by have := H.lr; omega)
  have f1 : ∀ w', (Instr.indexAt 23 rv (.int .i64 1)).run Tryz.prog w' = .ok (.pointer (some (elt rv 1 1))) w' := h.row.run_index slInts 1 (by have := h.lr; omega)
  have d1 := H.row.cell 1 (by have := H.lr; omega)
  have hall : op = 1 ∨ op = 2 ∨ op = 3 ∨ op = 4 ∨ op = 6 ∨ op = 5 ∨ op = 9 ∨ op = 12 ∨ op = 0 ∨ op = 7 ∨ op = 10 ∨ op = 11 ∨ op = 13 ∨ ((op == 1) = false ∧ (op == 2) = false ∧ (op == 3) = false ∧ (op == 4) = false ∧ (op == 6) = false ∧ (op == 5) = false ∧ (op == 9) = false ∧ (op == 12) = false ∧ (op == 0) = false ∧ (op == 7) = false ∧ (op == 10) = false ∧ (op == 11) = false ∧ (op == 13) = false) := by
    simp only [beq_eq_false_iff_ne]; omega
  have HJJ := Lib.hid hj
  clear H hx h hj
  rcases hall with rfl | rfl | rfl | rfl | rfl | rfl | rfl | rfl | rfl | rfl | rfl | rfl | rfl | ⟨h1, h2, h3, h4, h6, h5, h9, h12, h0, h7, h10, h11, h13⟩
  · go_enter Tryz.func241, Tryz.ntmps241
    go_wp2_with fail
    generalize w.alloc (Obj.cells #[.int .i64 1, .int .i64 a, .int .i64 b, .int .i64 c] 169) = W at *
    go_quiet (fail)
    have hdr := Ext.drewN W nq
    replace HXX := Lib.hid (HXX.out.trans hdr)
    replace HH := Lib.hid (HH.out.ext hdr)
    replace HF := Lib.hid HH.out.fld
    replace b0 := hdr.cell b0
    replace b1 := hdr.cell b1
    replace b2 := hdr.cell b2
    replace b3 := hdr.cell b3
    replace hq1 := hdr.cell hq1
    replace hq2 := hdr.cell hq2
    replace c0 := HH.out.c0
    clear c4 d0 d1 f0 f1 hdr
    generalize W.drewN nq = W2 at *
    go_wp2_with fail
    refine wp_region_quiet_tail 24 (by kernel_rfl) (by kernel_rfl) ?_
    simp only [List.take_succ_cons, List.take_zero, List.drop_succ_cons, List.drop_zero]
    repeat (go_big_quiet_step ((first | (go_at_call 122; exact add_q HF.out _ _ _) | (go_at_call 179; exact sub_q HF.out _ _ _))))
    refine wpQuiet_nil ?_
    rintro _ ⟨nq2, rfl⟩
    have hdr := Ext.drewN W2 nq2
    replace HXX := Lib.hid (HXX.out.trans hdr)
    replace hq2 := hdr.cell hq2
    clear b0 b1 b2 b3 c0 hq1 hdr
    generalize W2.drewN nq2 = W3 at *
    rcases HJJ.out with ⟨rfl, rfl⟩ | ⟨rfl, rfl⟩ | ⟨rfl, rfl⟩
    all_goals
      have hq3 := (Ext.alloc W3 (Obj.cells #[.int .i64 (fadd p (nth r 0) a), .int .i64 (fadd p (nth r 0) b), .int .i64 (fadd p (nth r 0) c)] 3)).cell hq2
      go_wp2_with fail
      go_ret
      exact ⟨ret_int rfl, HXX.out.trans (Ext.alloc _ _)⟩
  · go_enter Tryz.func241, Tryz.ntmps241
    go_wp2_with fail
    generalize w.alloc (Obj.cells #[.int .i64 2, .int .i64 a, .int .i64 b, .int .i64 c] 169) = W at *
    go_quiet (fail)
    have hdr := Ext.drewN W nq
    replace HXX := Lib.hid (HXX.out.trans hdr)
    replace HH := Lib.hid (HH.out.ext hdr)
    replace HF := Lib.hid HH.out.fld
    replace b0 := hdr.cell b0
    replace b1 := hdr.cell b1
    replace b2 := hdr.cell b2
    replace b3 := hdr.cell b3
    replace hq1 := hdr.cell hq1
    replace hq2 := hdr.cell hq2
    replace c0 := HH.out.c0
    clear c4 d0 d1 f0 f1 hdr
    generalize W.drewN nq = W2 at *
    go_wp2_with fail
    refine wp_region_quiet_tail 24 (by kernel_rfl) (by kernel_rfl) ?_
    simp only [List.take_succ_cons, List.take_zero, List.drop_succ_cons, List.drop_zero]
    repeat (go_big_quiet_step ((first | (go_at_call 122; exact add_q HF.out _ _ _) | (go_at_call 179; exact sub_q HF.out _ _ _))))
    refine wpQuiet_nil ?_
    rintro _ ⟨nq2, rfl⟩
    have hdr := Ext.drewN W2 nq2
    replace HXX := Lib.hid (HXX.out.trans hdr)
    replace hq2 := hdr.cell hq2
    clear b0 b1 b2 b3 c0 hq1 hdr
    generalize W2.drewN nq2 = W3 at *
    rcases HJJ.out with ⟨rfl, rfl⟩ | ⟨rfl, rfl⟩ | ⟨rfl, rfl⟩
    all_goals
      have hq3 := (Ext.alloc W3 (Obj.cells #[.int .i64 (fadd p (nth r 0) a), .int .i64 (fadd p (nth r 0) b), .int .i64 (fadd p (nth r 0) c)] 3)).cell hq2
      go_wp2_with fail
      go_ret
      exact ⟨ret_int rfl, HXX.out.trans (Ext.alloc _ _)⟩
  · go_enter Tryz.func241, Tryz.ntmps241
    go_wp2_with fail
    generalize w.alloc (Obj.cells #[.int .i64 3, .int .i64 a, .int .i64 b, .int .i64 c] 169) = W at *
    go_quiet (fail)
    have hdr := Ext.drewN W nq
    replace HXX := Lib.hid (HXX.out.trans hdr)
    replace HH := Lib.hid (HH.out.ext hdr)
    replace HF := Lib.hid HH.out.fld
    replace b0 := hdr.cell b0
    replace b1 := hdr.cell b1
    replace b2 := hdr.cell b2
    replace b3 := hdr.cell b3
    replace hq1 := hdr.cell hq1
    replace hq2 := hdr.cell hq2
    replace c0 := HH.out.c0
    clear c4 d0 d1 f0 f1 hdr
    generalize W.drewN nq = W2 at *
    go_wp2_with fail
    refine wp_region_quiet_tail 24 (by kernel_rfl) (by kernel_rfl) ?_
    simp only [List.take_succ_cons, List.take_zero, List.drop_succ_cons, List.drop_zero]
    repeat (go_big_quiet_step ((first | (go_at_call 122; exact add_q HF.out _ _ _) | (go_at_call 179; exact sub_q HF.out _ _ _))))
    refine wpQuiet_nil ?_
    rintro _ ⟨nq2, rfl⟩
    have hdr := Ext.drewN W2 nq2
    replace HXX := Lib.hid (HXX.out.trans hdr)
    replace hq2 := hdr.cell hq2
    clear b0 b1 b2 b3 c0 hq1 hdr
    generalize W2.drewN nq2 = W3 at *
    rcases HJJ.out with ⟨rfl, rfl⟩ | ⟨rfl, rfl⟩ | ⟨rfl, rfl⟩
    all_goals
      have hq3 := (Ext.alloc W3 (Obj.cells #[.int .i64 (fadd p (nth r 0) a), .int .i64 (fadd p (nth r 0) b), .int .i64 (fadd p (nth r 0) c)] 3)).cell hq2
      go_wp2_with fail
      go_ret
      exact ⟨ret_int rfl, HXX.out.trans (Ext.alloc _ _)⟩
  · go_enter Tryz.func241, Tryz.ntmps241
    go_wp2_with fail
    generalize w.alloc (Obj.cells #[.int .i64 4, .int .i64 a, .int .i64 b, .int .i64 c] 169) = W at *
    go_quiet (fail)
    have hdr := Ext.drewN W nq
    replace HXX := Lib.hid (HXX.out.trans hdr)
    replace HH := Lib.hid (HH.out.ext hdr)
    replace HF := Lib.hid HH.out.fld
    replace b0 := hdr.cell b0
    replace b1 := hdr.cell b1
    replace b2 := hdr.cell b2
    replace b3 := hdr.cell b3
    replace hq1 := hdr.cell hq1
    replace hq2 := hdr.cell hq2
    replace c0 := HH.out.c0
    clear c4 d0 d1 f0 f1 hdr
    generalize W.drewN nq = W2 at *
    go_wp2_with fail
    refine wp_region_quiet_tail 24 (by kernel_rfl) (by kernel_rfl) ?_
    simp only [List.take_succ_cons, List.take_zero, List.drop_succ_cons, List.drop_zero]
    repeat (go_big_quiet_step ((first | (go_at_call 122; exact add_q HF.out _ _ _) | (go_at_call 179; exact sub_q HF.out _ _ _))))
    refine wpQuiet_nil ?_
    rintro _ ⟨nq2, rfl⟩
    have hdr := Ext.drewN W2 nq2
    replace HXX := Lib.hid (HXX.out.trans hdr)
    replace hq2 := hdr.cell hq2
    clear b0 b1 b2 b3 c0 hq1 hdr
    generalize W2.drewN nq2 = W3 at *
    rcases HJJ.out with ⟨rfl, rfl⟩ | ⟨rfl, rfl⟩ | ⟨rfl, rfl⟩
    all_goals
      have hq3 := (Ext.alloc W3 (Obj.cells #[.int .i64 (fadd p (nth r 0) a), .int .i64 (fadd p (nth r 0) b), .int .i64 (fadd p (nth r 0) c)] 3)).cell hq2
      go_wp2_with fail
      go_ret
      exact ⟨ret_int rfl, HXX.out.trans (Ext.alloc _ _)⟩
  · go_enter Tryz.func241, Tryz.ntmps241
    go_wp2_with fail
    generalize w.alloc (Obj.cells #[.int .i64 6, .int .i64 a, .int .i64 b, .int .i64 c] 169) = W at *
    go_quiet (fail)
    have hdr := Ext.drewN W nq
    replace HXX := Lib.hid (HXX.out.trans hdr)
    replace HH := Lib.hid (HH.out.ext hdr)
    replace HF := Lib.hid HH.out.fld
    replace b0 := hdr.cell b0
    replace b1 := hdr.cell b1
    replace b2 := hdr.cell b2
    replace b3 := hdr.cell b3
    replace hq1 := hdr.cell hq1
    replace hq2 := hdr.cell hq2
    replace c0 := HH.out.c0
    clear c4 d0 d1 f0 f1 hdr
    generalize W.drewN nq = W2 at *
    go_wp2_with fail
    refine wp_region_quiet_tail 24 (by kernel_rfl) (by kernel_rfl) ?_
    simp only [List.take_succ_cons, List.take_zero, List.drop_succ_cons, List.drop_zero]
    repeat (go_big_quiet_step ((first | (go_at_call 122; exact add_q HF.out _ _ _) | (go_at_call 179; exact sub_q HF.out _ _ _))))
    refine wpQuiet_nil ?_
    rintro _ ⟨nq2, rfl⟩
    have hdr := Ext.drewN W2 nq2
    replace HXX := Lib.hid (HXX.out.trans hdr)
    replace hq2 := hdr.cell hq2
    clear b0 b1 b2 b3 c0 hq1 hdr
    generalize W2.drewN nq2 = W3 at *
    rcases HJJ.out with ⟨rfl, rfl⟩ | ⟨rfl, rfl⟩ | ⟨rfl, rfl⟩
    all_goals
      have hq3 := (Ext.alloc W3 (Obj.cells #[.int .i64 (fadd p (nth r 0) a), .int .i64 (fadd p (nth r 0) b), .int .i64 (fadd p (nth r 0) c)] 3)).cell hq2
      go_wp2_with fail
      go_ret
      exact ⟨ret_int rfl, HXX.out.trans (Ext.alloc _ _)⟩
  · go_enter Tryz.func241, Tryz.ntmps241
    go_wp2_with fail
    generalize w.alloc (Obj.cells #[.int .i64 5, .int .i64 a, .int .i64 b, .int .i64 c] 169) = W at *
    go_quiet (fail)
    have hdr := Ext.drewN W nq
    replace HXX := Lib.hid (HXX.out.trans hdr)
    replace HH := Lib.hid (HH.out.ext hdr)
    replace HF := Lib.hid HH.out.fld
    replace b0 := hdr.cell b0
    replace b1 := hdr.cell b1
    replace b2 := hdr.cell b2
    replace b3 := hdr.cell b3
    replace hq1 := hdr.cell hq1
    replace hq2 := hdr.cell hq2
    replace c0 := HH.out.c0
    clear c4 d0 d1 f0 f1 hdr
    generalize W.drewN nq = W2 at *
    go_wp2_with fail
    refine wp_region_quiet_tail 8 (by kernel_rfl) (by kernel_rfl) ?_
    simp only [List.take_succ_cons, List.take_zero, List.drop_succ_cons, List.drop_zero]
    repeat (go_big_quiet_step ((first | (go_at_call 122; exact add_q HF.out _ _ _) | (go_at_call 179; exact sub_q HF.out _ _ _))))
    refine wpQuiet_nil ?_
    rintro _ ⟨nq2, rfl⟩
    have hdr := Ext.drewN W2 nq2
    replace HXX := Lib.hid (HXX.out.trans hdr)
    replace hq2 := hdr.cell hq2
    clear b0 b1 b2 b3 c0 hq1 hdr
    generalize W2.drewN nq2 = W3 at *
    rcases HJJ.out with ⟨rfl, rfl⟩ | ⟨rfl, rfl⟩ | ⟨rfl, rfl⟩
    all_goals
      have hq3 := (Ext.alloc W3 (Obj.cells #[.int .i64 (fadd p (nth r 0) a)] 3)).cell hq2
      go_wp2_with fail
      go_ret
      exact ⟨ret_int rfl, HXX.out.trans (Ext.alloc _ _)⟩
  · go_enter Tryz.func241, Tryz.ntmps241
    go_wp2_with fail
    generalize w.alloc (Obj.cells #[.int .i64 9, .int .i64 a, .int .i64 b, .int .i64 c] 169) = W at *
    go_quiet (fail)
    have hdr := Ext.drewN W nq
    replace HXX := Lib.hid (HXX.out.trans hdr)
    replace HH := Lib.hid (HH.out.ext hdr)
    replace HF := Lib.hid HH.out.fld
    replace b0 := hdr.cell b0
    replace b1 := hdr.cell b1
    replace b2 := hdr.cell b2
    replace b3 := hdr.cell b3
    replace hq1 := hdr.cell hq1
    replace hq2 := hdr.cell hq2
    replace c0 := HH.out.c0
    clear c4 d0 d1 f0 f1 hdr
    generalize W.drewN nq = W2 at *
    go_wp2_with fail
    refine wp_region_quiet_tail 8 (by kernel_rfl) (by kernel_rfl) ?_
    simp only [List.take_succ_cons, List.take_zero, List.drop_succ_cons, List.drop_zero]
    repeat (go_big_quiet_step ((first | (go_at_call 122; exact add_q HF.out _ _ _) | (go_at_call 179; exact sub_q HF.out _ _ _))))
    refine wpQuiet_nil ?_
    rintro _ ⟨nq2, rfl⟩
    have hdr := Ext.drewN W2 nq2
    replace HXX := Lib.hid (HXX.out.trans hdr)
    replace hq2 := hdr.cell hq2
    clear b0 b1 b2 b3 c0 hq1 hdr
    generalize W2.drewN nq2 = W3 at *
    rcases HJJ.out with ⟨rfl, rfl⟩ | ⟨rfl, rfl⟩ | ⟨rfl, rfl⟩
    all_goals
      have hq3 := (Ext.alloc W3 (Obj.cells #[.int .i64 (fadd p (nth r 0) a)] 3)).cell hq2
      go_wp2_with fail
      go_ret
      exact ⟨ret_int rfl, HXX.out.trans (Ext.alloc _ _)⟩
  · go_enter Tryz.func241, Tryz.ntmps241
    go_wp2_with fail
    generalize w.alloc (Obj.cells #[.int .i64 12, .int .i64 a, .int .i64 b, .int .i64 c] 169) = W at *
    go_quiet (fail)
    have hdr := Ext.drewN W nq
    replace HXX := Lib.hid (HXX.out.trans hdr)
    replace HH := Lib.hid (HH.out.ext hdr)
    replace HF := Lib.hid HH.out.fld
    replace b0 := hdr.cell b0
    replace b1 := hdr.cell b1
    replace b2 := hdr.cell b2
    replace b3 := hdr.cell b3
    replace hq1 := hdr.cell hq1
    replace hq2 := hdr.cell hq2
    replace c0 := HH.out.c0
    clear c4 d0 d1 f0 f1 hdr
    generalize W.drewN nq = W2 at *
    go_wp2_with fail
    refine wp_region_quiet_tail 8 (by kernel_rfl) (by kernel_rfl) ?_
    simp only [List.take_succ_cons, List.take_zero, List.drop_succ_cons, List.drop_zero]
    repeat (go_big_quiet_step ((first | (go_at_call 122; exact add_q HF.out _ _ _) | (go_at_call 179; exact sub_q HF.out _ _ _))))
    refine wpQuiet_nil ?_
    rintro _ ⟨nq2, rfl⟩
    have hdr := Ext.drewN W2 nq2
    replace HXX := Lib.hid (HXX.out.trans hdr)
    replace hq2 := hdr.cell hq2
    clear b0 b1 b2 b3 c0 hq1 hdr
    generalize W2.drewN nq2 = W3 at *
    rcases HJJ.out with ⟨rfl, rfl⟩ | ⟨rfl, rfl⟩ | ⟨rfl, rfl⟩
    all_goals
      have hq3 := (Ext.alloc W3 (Obj.cells #[.int .i64 (fadd p (nth r 0) a)] 3)).cell hq2
      go_wp2_with fail
      go_ret
      exact ⟨ret_int rfl, HXX.out.trans (Ext.alloc _ _)⟩
  · go_enter Tryz.func241, Tryz.ntmps241
    go_wp2_with fail
    generalize w.alloc (Obj.cells #[.int .i64 0, .int .i64 a, .int .i64 b, .int .i64 c] 169) = W at *
    go_quiet (fail)
    have hdr := Ext.drewN W nq
    replace HXX := Lib.hid (HXX.out.trans hdr)
    replace HH := Lib.hid (HH.out.ext hdr)
    replace HF := Lib.hid HH.out.fld
    replace b0 := hdr.cell b0
    replace b1 := hdr.cell b1
    replace b2 := hdr.cell b2
    replace b3 := hdr.cell b3
    replace hq1 := hdr.cell hq1
    replace hq2 := hdr.cell hq2
    replace c0 := HH.out.c0
    clear c4 d0 d1 f0 f1 hdr
    generalize W.drewN nq = W2 at *
    go_wp2_with fail
    refine wp_region_quiet_tail 8 (by kernel_rfl) (by kernel_rfl) ?_
    simp only [List.take_succ_cons, List.take_zero, List.drop_succ_cons, List.drop_zero]
    repeat (go_big_quiet_step ((first | (go_at_call 122; exact add_q HF.out _ _ _) | (go_at_call 179; exact sub_q HF.out _ _ _))))
    refine wpQuiet_nil ?_
    rintro _ ⟨nq2, rfl⟩
    have hdr := Ext.drewN W2 nq2
    replace HXX := Lib.hid (HXX.out.trans hdr)
    replace hq2 := hdr.cell hq2
    clear b0 b1 b2 b3 c0 hq1 hdr
    generalize W2.drewN nq2 = W3 at *
    rcases HJJ.out with ⟨rfl, rfl⟩ | ⟨rfl, rfl⟩ | ⟨rfl, rfl⟩
    all_goals
      have hq3 := (Ext.alloc W3 (Obj.cells #[.int .i64 (fadd p (nth r 0) a)] 3)).cell hq2
      go_wp2_with fail
      go_ret
      exact ⟨ret_int rfl, HXX.out.trans (Ext.alloc _ _)⟩
  · go_enter Tryz.func241, Tryz.ntmps241
    go_wp2_with fail
    generalize w.alloc (Obj.cells #[.int .i64 7, .int .i64 a, .int .i64 b, .int .i64 c] 169) = W at *
    go_quiet (fail)
    have hdr := Ext.drewN W nq
    replace HXX := Lib.hid (HXX.out.trans hdr)
    replace HH := Lib.hid (HH.out.ext hdr)
    replace HF := Lib.hid HH.out.fld
    replace b0 := hdr.cell b0
    replace b1 := hdr.cell b1
    replace b2 := hdr.cell b2
    replace b3 := hdr.cell b3
    replace hq1 := hdr.cell hq1
    replace hq2 := hdr.cell hq2
    replace c0 := HH.out.c0
    clear c4 d0 d1 f0 f1 hdr
    generalize W.drewN nq = W2 at *
    go_wp2_with fail
    refine wp_region_quiet_tail 16 (by kernel_rfl) (by kernel_rfl) ?_
    simp only [List.take_succ_cons, List.take_zero, List.drop_succ_cons, List.drop_zero]
    repeat (go_big_quiet_step ((first | (go_at_call 122; exact add_q HF.out _ _ _) | (go_at_call 179; exact sub_q HF.out _ _ _))))
    refine wpQuiet_nil ?_
    rintro _ ⟨nq2, rfl⟩
    have hdr := Ext.drewN W2 nq2
    replace HXX := Lib.hid (HXX.out.trans hdr)
    replace hq2 := hdr.cell hq2
    clear b0 b1 b2 b3 c0 hq1 hdr
    generalize W2.drewN nq2 = W3 at *
    rcases HJJ.out with ⟨rfl, rfl⟩ | ⟨rfl, rfl⟩ | ⟨rfl, rfl⟩
    all_goals
      have hq3 := (Ext.alloc W3 (Obj.cells #[.int .i64 (fadd p (nth r 0) a), .int .i64 (fadd p (nth r 0) b)] 3)).cell hq2
      go_wp2_with fail
      go_ret
      exact ⟨ret_int rfl, HXX.out.trans (Ext.alloc _ _)⟩
  · go_enter Tryz.func241, Tryz.ntmps241
    go_wp2_with fail
    generalize w.alloc (Obj.cells #[.int .i64 10, .int .i64 a, .int .i64 b, .int .i64 c] 169) = W at *
    go_quiet (fail)
    have hdr := Ext.drewN W nq
    replace HXX := Lib.hid (HXX.out.trans hdr)
    replace HH := Lib.hid (HH.out.ext hdr)
    replace HF := Lib.hid HH.out.fld
    replace b0 := hdr.cell b0
    replace b1 := hdr.cell b1
    replace b2 := hdr.cell b2
    replace b3 := hdr.cell b3
    replace hq1 := hdr.cell hq1
    replace hq2 := hdr.cell hq2
    replace c0 := HH.out.c0
    clear c4 d0 d1 f0 f1 hdr
    generalize W.drewN nq = W2 at *
    go_wp2_with fail
    refine (add_any HF.out _ _).mono ?_
    rintro e w1 ⟨rfl, m, rfl⟩
    have hdr := Ext.drewN W2 m
    replace HXX := Lib.hid (HXX.out.trans hdr)
    replace hq2 := hdr.cell hq2
    clear b0 b1 b2 b3 c0 hq1 hdr
    generalize W2.drewN m = W3 at *
    rcases HJJ.out with ⟨rfl, rfl⟩ | ⟨rfl, rfl⟩ | ⟨rfl, rfl⟩
    all_goals
      have hq3 := (Ext.alloc W3 (Obj.cells #[.int .i64 (nth r 1), .int .i64 (fadd p (nth r 1) 1)] 3)).cell hq2
      go_wp2_with fail
      go_ret
      exact ⟨ret_int rfl, HXX.out.trans (Ext.alloc _ _)⟩
  · go_enter Tryz.func241, Tryz.ntmps241
    go_wp2_with fail
    generalize w.alloc (Obj.cells #[.int .i64 11, .int .i64 a, .int .i64 b, .int .i64 c] 169) = W at *
    go_quiet (fail)
    have hdr := Ext.drewN W nq
    replace HXX := Lib.hid (HXX.out.trans hdr)
    replace HH := Lib.hid (HH.out.ext hdr)
    replace HF := Lib.hid HH.out.fld
    replace b0 := hdr.cell b0
    replace b1 := hdr.cell b1
    replace b2 := hdr.cell b2
    replace b3 := hdr.cell b3
    replace hq1 := hdr.cell hq1
    replace hq2 := hdr.cell hq2
    replace c0 := HH.out.c0
    clear c4 d0 d1 f0 f1 hdr
    generalize W.drewN nq = W2 at *
    go_wp2_with fail
    refine wp_region_quiet_tail 20 (by kernel_rfl) (by kernel_rfl) ?_
    simp only [List.take_succ_cons, List.take_zero, List.drop_succ_cons, List.drop_zero]
    repeat (go_big_quiet_step ((first | (go_at_call 122; exact add_q HF.out _ _ _) | (go_at_call 179; exact sub_q HF.out _ _ _))))
    refine wpQuiet_nil ?_
    rintro _ ⟨nq2, rfl⟩
    have hdr := Ext.drewN W2 nq2
    replace HXX := Lib.hid (HXX.out.trans hdr)
    replace hq2 := hdr.cell hq2
    clear b0 b1 b2 b3 c0 hq1 hdr
    generalize W2.drewN nq2 = W3 at *
    rcases HJJ.out with ⟨rfl, rfl⟩ | ⟨rfl, rfl⟩ | ⟨rfl, rfl⟩
    all_goals
      have hq3 := (Ext.alloc W3 (Obj.cells #[.int .i64 (fsub p (nth r 0) 2), .int .i64 (fsub p (nth r 0) 1), .int .i64 (fadd p (nth r 0) a)] 3)).cell hq2
      go_wp2_with fail
      go_ret
      exact ⟨ret_int rfl, HXX.out.trans (Ext.alloc _ _)⟩
  · go_enter Tryz.func241, Tryz.ntmps241
    go_wp2_with fail
    generalize w.alloc (Obj.cells #[.int .i64 13, .int .i64 a, .int .i64 b, .int .i64 c] 169) = W at *
    go_quiet (fail)
    have hdr := Ext.drewN W nq
    replace HXX := Lib.hid (HXX.out.trans hdr)
    replace HH := Lib.hid (HH.out.ext hdr)
    replace HF := Lib.hid HH.out.fld
    replace b0 := hdr.cell b0
    replace b1 := hdr.cell b1
    replace b2 := hdr.cell b2
    replace b3 := hdr.cell b3
    replace hq1 := hdr.cell hq1
    replace hq2 := hdr.cell hq2
    replace c0 := HH.out.c0
    clear c4 d0 d1 f0 f1 hdr
    generalize W.drewN nq = W2 at *
    go_wp2_with fail
    refine wp_region_quiet_tail 21 (by kernel_rfl) (by kernel_rfl) ?_
    simp only [List.take_succ_cons, List.take_zero, List.drop_succ_cons, List.drop_zero]
    repeat (go_big_quiet_step ((first | (go_at_call 122; exact add_q HF.out _ _ _) | (go_at_call 179; exact sub_q HF.out _ _ _))))
    refine wpQuiet_nil ?_
    rintro _ ⟨nq2, rfl⟩
    have hdr := Ext.drewN W2 nq2
    replace HXX := Lib.hid (HXX.out.trans hdr)
    replace hq2 := hdr.cell hq2
    clear b0 b1 b2 b3 c0 hq1 hdr
    generalize W2.drewN nq2 = W3 at *
    rcases HJJ.out with ⟨rfl, rfl⟩ | ⟨rfl, rfl⟩ | ⟨rfl, rfl⟩
    all_goals
      have hq3 := (Ext.alloc W3 (Obj.cells #[.int .i64 (fadd p (nth r 0) a), .int .i64 (fadd p (fadd p (nth r 1) 2) b)] 3)).cell hq2
      go_wp2_with fail
      go_ret
      exact ⟨ret_int rfl, HXX.out.trans (Ext.alloc _ _)⟩
  · go_enter Tryz.func241, Tryz.ntmps241
    go_wp2_with fail
    generalize w.alloc (Obj.cells #[.int .i64 op, .int .i64 a, .int .i64 b, .int .i64 c] 169) = W at *
    go_quiet (fail)
    have hdr := Ext.drewN W nq
    replace HXX := Lib.hid (HXX.out.trans hdr)
    replace HH := Lib.hid (HH.out.ext hdr)
    replace HF := Lib.hid HH.out.fld
    replace b0 := hdr.cell b0
    replace b1 := hdr.cell b1
    replace b2 := hdr.cell b2
    replace b3 := hdr.cell b3
    replace hq1 := hdr.cell hq1
    replace hq2 := hdr.cell hq2
    replace c0 := HH.out.c0
    clear c4 d0 d1 f0 f1 hdr
    generalize W.drewN nq = W2 at *
    have HK := Lib.hid (show cellK p r j kn ⟨op, a, b, c⟩ = 0 by
      rw [beq_eq_false_iff_ne] at h1 h2 h3 h4 h6 h5 h9 h12 h0 h7 h10 h11 h13
      simp [cellK, cellsK, h1, h2, h3, h4, h6, h5, h9, h12, h0, h7, h10, h11, h13])
    rcases HJJ.out with ⟨rfl, rfl⟩ | ⟨rfl, rfl⟩ | ⟨rfl, rfl⟩
    all_goals
      go_wp2_with fail
      go_ret
      exact ⟨ret_int HK.out.symm, HXX.out⟩
end
end Go.Proofs.YtnmjaddhbecopaaGreatDoor
