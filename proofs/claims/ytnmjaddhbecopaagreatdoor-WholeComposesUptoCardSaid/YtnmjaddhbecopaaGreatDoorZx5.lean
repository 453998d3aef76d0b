/- RulesBroken: the program's side: what an instruction does. RulesBroken: the program's side: what else an instruction does; which is next; the registers. -/
import Derived.Test.YtnmjaddhbecopaaGreatDoorZx8
section
namespace Go.Proofs.YtnmjaddhbecopaaGreatDoor
open Go.RowKit Go.Att
section
variable {w : World} {q : Nat} {f : Value} {p g : Int} {fs : List Int} {sz out : Int} {cd : List In4} {lv rv nv : Value} {r n : List Int}
set_option maxRecDepth 100000 in
set_option maxHeartbeats 4000000 in
theorem jdoes_any (h : JAt w q f p g fs sz out cd lv rv nv r n) (k : Nat) (_hk : k ≤ 1048576) (x : In4) : Calls Tryz.prog 186 #[.pointer (some ⟨q, 0, none⟩), .int .i64 k, .agg #[.int .i64 x.op, .int .i64 x.a, .int .i64 x.b, .int .i64 x.c]] w fun e w' => e = .returned (.int .i64 (doesK p r k x)) ∧ Ext w w' := by
  obtain ⟨op, a, b, c⟩ := x
  have hx := Ext.alloc w (Obj.cells #[.int .i64 op, .int .i64 a, .int .i64 b, .int .i64 c] 169)
  have H := h.ext hx
  have HH := Lib.hid H
  have HXX := Lib.hid hx
  have HF := Lib.hid H.fld
  have b0 : (w.alloc (Obj.cells #[.int .i64 op, .int .i64 a, .int .i64 b, .int .i64 c] 169)).cell? ⟨w.heap.size, 0, none⟩ = some (.int .i64 op) := by simp
  have b1 : (w.alloc (Obj.cells #[.int .i64 op, .int .i64 a, .int .i64 b, .int .i64 c] 169)).cell? ⟨w.heap.size, 1, none⟩ = some (.int .i64 a) := by simp
  have b2 : (w.alloc (Obj.cells #[.int .i64 op, .int .i64 a, .int .i64 b, .int .i64 c] 169)).cell? ⟨w.heap.size, 2, none⟩ = some (.int .i64 b) := by simp
  have c0 := H.c0
  have c4 := H.c4
  have f0 : ∀ w', (Instr.indexAt 23 rv (.int .i64 0)).run Tryz.prog w' = .ok (.pointer (some (elt rv 0 1))) w' := h.row.run_index slInts 0 (by have := h.lr; omega)
  have d0 := H.row.cell 0 (by have := H.lr; omega)
  have f2 : ∀ w', (Instr.indexAt 23 rv (.int .i64 2)).run Tryz.prog w' = .ok (.pointer (some (elt rv 2 1))) w' := h.row.run_index slInts 2 (by have := h.lr; omega)
  have d2 := H.row.cell 2 (by have := H.lr; omega)
  have f11 : ∀ w', (Instr.indexAt 23 rv (.int .i64 11)).run Tryz.prog w' = .ok (.pointer (some (elt rv 11 1))) w' := h.row.run_index slInts 11 (by have := h.lr; omega)
  have d11 := H.row.cell 11 (by have := H.lr; omega)
  have hall : op = 1 ∨ op = 2 ∨ op = 3 ∨ op = 4 ∨ op = 5 ∨ op = 6 ∨ op = 7 ∨ op = 13 ∨ op = 9 ∨ op = 10 ∨ op = 12 ∨ op = 0 ∨ op = 8 ∨ op = 11 ∨ ((op == 1) = false ∧ (op == 2) = false ∧ (op == 3) = false ∧ (op == 4) = false ∧ (op == 5) = false ∧ (op == 6) = false ∧ (op == 7) = false ∧ (op == 13) = false ∧ (op == 9) = false ∧ (op == 10) = false ∧ (op == 12) = false ∧ (op == 0) = false ∧ (op == 8) = false ∧ (op == 11) = false) := by
    simp only [beq_eq_false_iff_ne]; omega
  clear H hx h
  rcases hall with rfl | rfl | rfl | rfl | rfl | rfl | rfl | rfl | rfl | rfl | rfl | rfl | rfl | rfl | ⟨h1, h2, h3, h4, h5, h6, h7, h13, h9, h10, h12, h0, h8, h11⟩
  · go_enter Tryz.func186, Tryz.ntmps186
    go_wp2_with fail
    generalize w.alloc (Obj.cells #[.int .i64 1, .int .i64 a, .int .i64 b, .int .i64 c] 169) = W at *
    refine (jv_any HH.out 0 0 (by simp)).mono ?_
    rintro e w1 ⟨rfl, rfl⟩
    go_wp2_with fail
    refine (jv_any HH.out 1 1 (by simp)).mono ?_
    rintro e w1 ⟨rfl, rfl⟩
    go_wp2_with fail
    refine (jv_any HH.out 2 2 (by simp)).mono ?_
    rintro e w1 ⟨rfl, rfl⟩
    go_wp2_with fail
    go_quiet ((first | (go_at_call 179; exact sub_q HF.out _ _ _) | (go_at_call 122; exact add_q HF.out _ _ _)))
    go_wp2_with fail
    go_ret
    refine ⟨ret_int ?_, HXX.out.trans (Ext.drewN _ _)⟩
    first | exact rfl | (simp [doesK]; done)
  · go_enter Tryz.func186, Tryz.ntmps186
    go_wp2_with fail
    generalize w.alloc (Obj.cells #[.int .i64 2, .int .i64 a, .int .i64 b, .int .i64 c] 169) = W at *
    refine (jv_any HH.out 0 0 (by simp)).mono ?_
    rintro e w1 ⟨rfl, rfl⟩
    go_wp2_with fail
    refine (jv_any HH.out 1 1 (by simp)).mono ?_
    rintro e w1 ⟨rfl, rfl⟩
    go_wp2_with fail
    refine (jv_any HH.out 2 2 (by simp)).mono ?_
    rintro e w1 ⟨rfl, rfl⟩
    go_wp2_with fail
    go_quiet ((first | (go_at_call 179; exact sub_q HF.out _ _ _)))
    go_wp2_with fail
    go_ret
    refine ⟨ret_int ?_, HXX.out.trans (Ext.drewN _ _)⟩
    first | exact rfl | (simp [doesK]; done)
  · go_enter Tryz.func186, Tryz.ntmps186
    go_wp2_with fail
    generalize w.alloc (Obj.cells #[.int .i64 3, .int .i64 a, .int .i64 b, .int .i64 c] 169) = W at *
    refine (jv_any HH.out 0 0 (by simp)).mono ?_
    rintro e w1 ⟨rfl, rfl⟩
    go_wp2_with fail
    refine (jv_any HH.out 1 1 (by simp)).mono ?_
    rintro e w1 ⟨rfl, rfl⟩
    go_wp2_with fail
    refine (jv_any HH.out 2 2 (by simp)).mono ?_
    rintro e w1 ⟨rfl, rfl⟩
    go_wp2_with fail
    go_quiet ((first | (go_at_call 179; exact sub_q HF.out _ _ _) | (go_at_call 123; exact mul_q HF.out _ _ _)))
    go_wp2_with fail
    go_ret
    refine ⟨ret_int ?_, HXX.out.trans (Ext.drewN _ _)⟩
    first | exact rfl | (simp [doesK]; done)
  · go_enter Tryz.func186, Tryz.ntmps186
    go_wp2_with fail
    generalize w.alloc (Obj.cells #[.int .i64 4, .int .i64 a, .int .i64 b, .int .i64 c] 169) = W at *
    refine (jv_any HH.out 0 0 (by simp)).mono ?_
    rintro e w1 ⟨rfl, rfl⟩
    go_wp2_with fail
    refine (jv_any HH.out 1 1 (by simp)).mono ?_
    rintro e w1 ⟨rfl, rfl⟩
    go_wp2_with fail
    refine (jv_any HH.out 2 2 (by simp)).mono ?_
    rintro e w1 ⟨rfl, rfl⟩
    go_wp2_with fail
    go_quiet ((first | (go_at_call 179; exact sub_q HF.out _ _ _) | (go_at_call 123; exact mul_q HF.out _ _ _)))
    go_wp2_with fail
    go_ret
    refine ⟨ret_int ?_, HXX.out.trans (Ext.drewN _ _)⟩
    first | exact rfl | (simp [doesK]; done)
  · go_enter Tryz.func186, Tryz.ntmps186
    go_wp2_with fail
    generalize w.alloc (Obj.cells #[.int .i64 5, .int .i64 a, .int .i64 b, .int .i64 c] 169) = W at *
    refine (jv_any HH.out 0 0 (by simp)).mono ?_
    rintro e w1 ⟨rfl, rfl⟩
    go_wp2_with fail
    refine (jv_any HH.out 1 1 (by simp)).mono ?_
    rintro e w1 ⟨rfl, rfl⟩
    go_wp2_with fail
    refine (jv_any HH.out 2 2 (by simp)).mono ?_
    rintro e w1 ⟨rfl, rfl⟩
    go_wp2_with fail
    go_quiet ((first | (go_at_call 179; exact sub_q HF.out _ _ _)))
    go_wp2_with fail
    go_ret
    refine ⟨ret_int ?_, HXX.out.trans (Ext.drewN _ _)⟩
    first | exact rfl | (simp [doesK]; done)
  · go_enter Tryz.func186, Tryz.ntmps186
    go_wp2_with fail
    generalize w.alloc (Obj.cells #[.int .i64 6, .int .i64 a, .int .i64 b, .int .i64 c] 169) = W at *
    refine (jv_any HH.out 0 0 (by simp)).mono ?_
    rintro e w1 ⟨rfl, rfl⟩
    go_wp2_with fail
    refine (jv_any HH.out 1 1 (by simp)).mono ?_
    rintro e w1 ⟨rfl, rfl⟩
    go_wp2_with fail
    refine (jv_any HH.out 2 2 (by simp)).mono ?_
    rintro e w1 ⟨rfl, rfl⟩
    go_wp2_with fail
    go_quiet ((first | (go_at_call 179; exact sub_q HF.out _ _ _) | (go_at_call 123; exact mul_q HF.out _ _ _)))
    go_wp2_with fail
    go_ret
    refine ⟨ret_int ?_, HXX.out.trans (Ext.drewN _ _)⟩
    first | exact rfl | (simp [doesK]; done)
  · go_enter Tryz.func186, Tryz.ntmps186
    go_wp2_with fail
    generalize w.alloc (Obj.cells #[.int .i64 7, .int .i64 a, .int .i64 b, .int .i64 c] 169) = W at *
    refine (jv_any HH.out 0 0 (by simp)).mono ?_
    rintro e w1 ⟨rfl, rfl⟩
    go_wp2_with fail
    refine (jv_any HH.out 1 1 (by simp)).mono ?_
    rintro e w1 ⟨rfl, rfl⟩
    go_wp2_with fail
    refine (jv_any HH.out 2 2 (by simp)).mono ?_
    rintro e w1 ⟨rfl, rfl⟩
    go_wp2_with fail
    refine (sub_any HF.out _ _).mono ?_
    rintro e w1 ⟨rfl, m, rfl⟩
    go_wp2_with fail
    go_ret
    refine ⟨ret_int ?_, HXX.out.trans (Ext.drewN _ _)⟩
    first | exact rfl | (simp [doesK]; done)
  · go_enter Tryz.func186, Tryz.ntmps186
    go_wp2_with fail
    generalize w.alloc (Obj.cells #[.int .i64 13, .int .i64 a, .int .i64 b, .int .i64 c] 169) = W at *
    refine (jv_any HH.out 0 0 (by simp)).mono ?_
    rintro e w1 ⟨rfl, rfl⟩
    go_wp2_with fail
    refine (jv_any HH.out 1 1 (by simp)).mono ?_
    rintro e w1 ⟨rfl, rfl⟩
    go_wp2_with fail
    refine (jv_any HH.out 2 2 (by simp)).mono ?_
    rintro e w1 ⟨rfl, rfl⟩
    go_wp2_with fail
    refine (sub_any HF.out _ _).mono ?_
    rintro e w1 ⟨rfl, m, rfl⟩
    go_wp2_with fail
    go_ret
    refine ⟨ret_int ?_, HXX.out.trans (Ext.drewN _ _)⟩
    first | exact rfl | (simp [doesK]; done)
  · go_enter Tryz.func186, Tryz.ntmps186
    go_wp2_with fail
    generalize w.alloc (Obj.cells #[.int .i64 9, .int .i64 a, .int .i64 b, .int .i64 c] 169) = W at *
    refine (jv_any HH.out 0 0 (by simp)).mono ?_
    rintro e w1 ⟨rfl, rfl⟩
    go_wp2_with fail
    refine (jv_any HH.out 1 1 (by simp)).mono ?_
    rintro e w1 ⟨rfl, rfl⟩
    go_wp2_with fail
    refine (jv_any HH.out 2 2 (by simp)).mono ?_
    rintro e w1 ⟨rfl, rfl⟩
    go_wp2_with fail
    go_quiet ((first | (go_at_call 179; exact sub_q HF.out _ _ _) | (go_at_call 123; exact mul_q HF.out _ _ _) | (go_at_call 242; exact jhelps_q HH.out _)))
    go_wp2_with fail
    go_ret
    refine ⟨ret_int ?_, HXX.out.trans (Ext.drewN _ _)⟩
    first | exact rfl | (simp [doesK]; done)
  · go_enter Tryz.func186, Tryz.ntmps186
    go_wp2_with fail
    generalize w.alloc (Obj.cells #[.int .i64 10, .int .i64 a, .int .i64 b, .int .i64 c] 169) = W at *
    refine (jv_any HH.out 0 0 (by simp)).mono ?_
    rintro e w1 ⟨rfl, rfl⟩
    go_wp2_with fail
    refine (jv_any HH.out 1 1 (by simp)).mono ?_
    rintro e w1 ⟨rfl, rfl⟩
    go_wp2_with fail
    refine (jv_any HH.out 2 2 (by simp)).mono ?_
    rintro e w1 ⟨rfl, rfl⟩
    go_wp2_with fail
    go_quiet ((first | (go_at_call 179; exact sub_q HF.out _ _ _)))
    go_wp2_with fail
    go_ret
    refine ⟨ret_int ?_, HXX.out.trans (Ext.drewN _ _)⟩
    first | exact rfl | (simp [doesK]; done)
  · go_enter Tryz.func186, Tryz.ntmps186
    go_wp2_with fail
    generalize w.alloc (Obj.cells #[.int .i64 12, .int .i64 a, .int .i64 b, .int .i64 c] 169) = W at *
    refine (jv_any HH.out 0 0 (by simp)).mono ?_
    rintro e w1 ⟨rfl, rfl⟩
    go_wp2_with fail
    refine (jv_any HH.out 1 1 (by simp)).mono ?_
    rintro e w1 ⟨rfl, rfl⟩
    go_wp2_with fail
    refine (jv_any HH.out 2 2 (by simp)).mono ?_
    rintro e w1 ⟨rfl, rfl⟩
    go_wp2_with fail
    go_quiet ((first | (go_at_call 179; exact sub_q HF.out _ _ _)))
    go_wp2_with fail
    go_ret
    refine ⟨ret_int ?_, HXX.out.trans (Ext.drewN _ _)⟩
    first | exact rfl | (simp [doesK]; done)
  · go_enter Tryz.func186, Tryz.ntmps186
    go_wp2_with fail
    generalize w.alloc (Obj.cells #[.int .i64 0, .int .i64 a, .int .i64 b, .int .i64 c] 169) = W at *
    refine (jv_any HH.out 0 0 (by simp)).mono ?_
    rintro e w1 ⟨rfl, rfl⟩
    go_wp2_with fail
    refine (jv_any HH.out 1 1 (by simp)).mono ?_
    rintro e w1 ⟨rfl, rfl⟩
    go_wp2_with fail
    refine (jv_any HH.out 2 2 (by simp)).mono ?_
    rintro e w1 ⟨rfl, rfl⟩
    go_wp2_with fail
    go_ret
    refine ⟨ret_int ?_, HXX.out⟩
    first | exact rfl | (simp [doesK]; done)
  · go_enter Tryz.func186, Tryz.ntmps186
    go_wp2_with fail
    generalize w.alloc (Obj.cells #[.int .i64 8, .int .i64 a, .int .i64 b, .int .i64 c] 169) = W at *
    refine (jv_any HH.out 0 0 (by simp)).mono ?_
    rintro e w1 ⟨rfl, rfl⟩
    go_wp2_with fail
    refine (jv_any HH.out 1 1 (by simp)).mono ?_
    rintro e w1 ⟨rfl, rfl⟩
    go_wp2_with fail
    refine (jv_any HH.out 2 2 (by simp)).mono ?_
    rintro e w1 ⟨rfl, rfl⟩
    go_wp2_with fail
    go_ret
    refine ⟨ret_int ?_, HXX.out⟩
    first | exact rfl | (simp [doesK]; done)
  · go_enter Tryz.func186, Tryz.ntmps186
    go_wp2_with fail
    generalize w.alloc (Obj.cells #[.int .i64 11, .int .i64 a, .int .i64 b, .int .i64 c] 169) = W at *
    refine (jv_any HH.out 0 0 (by simp)).mono ?_
    rintro e w1 ⟨rfl, rfl⟩
    go_wp2_with fail
    refine (jv_any HH.out 1 1 (by simp)).mono ?_
    rintro e w1 ⟨rfl, rfl⟩
    go_wp2_with fail
    refine (jv_any HH.out 2 2 (by simp)).mono ?_
    rintro e w1 ⟨rfl, rfl⟩
    go_wp2_with fail
    go_ret
    refine ⟨ret_int ?_, HXX.out⟩
    first | exact rfl | (simp [doesK]; done)
  · go_enter Tryz.func186, Tryz.ntmps186
    go_wp2_with fail
    generalize w.alloc (Obj.cells #[.int .i64 op, .int .i64 a, .int .i64 b, .int .i64 c] 169) = W at *
    refine (jv_any HH.out 0 0 (by simp)).mono ?_
    rintro e w1 ⟨rfl, rfl⟩
    go_wp2_with fail
    refine (jv_any HH.out 1 1 (by simp)).mono ?_
    rintro e w1 ⟨rfl, rfl⟩
    go_wp2_with fail
    refine (jv_any HH.out 2 2 (by simp)).mono ?_
    rintro e w1 ⟨rfl, rfl⟩
    go_wp2_with fail
    go_ret
    refine ⟨ret_int ?_, HXX.out⟩
    rw [beq_eq_false_iff_ne] at h1 h2 h3 h4 h5 h6 h7 h13 h9 h10 h12 h0 h8 h11
    simp [doesK, h1, h2, h3, h4, h5, h6, h7, h13, h9, h10, h12, h0, h8, h11]
end
end Go.Proofs.YtnmjaddhbecopaaGreatDoor
end
section
namespace Go.Proofs.YtnmjaddhbecopaaGreatDoor
open Go.RowKit Go.Att
section
variable {w : World} {q : Nat} {f : Value} {p g : Int} {fs : List Int} {sz out : Int} {cd : List In4} {lv rv nv : Value} {r n : List Int}
set_option maxRecDepth 100000 in
set_option maxHeartbeats 4000000 in
theorem jmore_any (h : JAt w q f p g fs sz out cd lv rv nv r n) (k : Nat) (hk : k ≤ 1048576) (x : In4) : Calls Tryz.prog 187 #[.pointer (some ⟨q, 0, none⟩), .int .i64 k, .agg #[.int .i64 x.op, .int .i64 x.a, .int .i64 x.b, .int .i64 x.c]] w fun e w' => e = .returned (.int .i64 (moreK p r k x)) ∧ Ext w w' := by
  obtain ⟨op, a, b, c⟩ := x
  have hx := Ext.alloc w (Obj.cells #[.int .i64 op, .int .i64 a, .int .i64 b, .int .i64 c] 169)
  have H := h.ext hx
  have HH := Lib.hid H
  have HXX := Lib.hid hx
  have HF := Lib.hid H.fld
  have b0 : (w.alloc (Obj.cells #[.int .i64 op, .int .i64 a, .int .i64 b, .int .i64 c] 169)).cell? ⟨w.heap.size, 0, none⟩ = some (.int .i64 op) := by simp
  have b1 : (w.alloc (Obj.cells #[.int .i64 op, .int .i64 a, .int .i64 b, .int .i64 c] 169)).cell? ⟨w.heap.size, 1, none⟩ = some (.int .i64 a) := by simp
  have b2 : (w.alloc (Obj.cells #[.int .i64 op, .int .i64 a, .int .i64 b, .int .i64 c] 169)).cell? ⟨w.heap.size, 2, none⟩ = some (.int .i64 b) := by simp
  have c0 := H.c0
  have c4 := H.c4
  have f11 : ∀ w', (Instr.indexAt 23 rv (.int .i64 11)).run Tryz.prog w' = .ok (.pointer (some (elt rv 11 1))) w' := h.row.run_index slInts 11 (by have := h.lr; omega)
  have d11 := H.row.cell 11 (by have := H.lr; omega)
  have hall : op = 4 ∨ op = 6 ∨ op = 10 ∨ ((op == 4) = false ∧ (op == 6) = false ∧ (op == 10) = false) := by
    simp only [beq_eq_false_iff_ne]; omega
  clear H hx h
  rcases hall with rfl | rfl | rfl | ⟨h4, h6, h10⟩
  · go_enter Tryz.func187, Tryz.ntmps187
    go_wp2_with fail
    generalize w.alloc (Obj.cells #[.int .i64 4, .int .i64 a, .int .i64 b, .int .i64 c] 169) = W at *
    go_quiet ((first | (go_at_call 179; exact sub_q HF.out _ _ _) | (go_at_call 123; exact mul_q HF.out _ _ _) | (go_at_call 194; exact jv_t HH.out _ (by omega) (by omega) _)))
    go_wp2_with fail
    go_ret
    refine ⟨ret_int ?_, HXX.out.trans (Ext.drewN _ _)⟩
    first | exact rfl | (simp [moreK]; done)
  · go_enter Tryz.func187, Tryz.ntmps187
    go_wp2_with fail
    generalize w.alloc (Obj.cells #[.int .i64 6, .int .i64 a, .int .i64 b, .int .i64 c] 169) = W at *
    go_quiet ((first | (go_at_call 179; exact sub_q HF.out _ _ _) | (go_at_call 123; exact mul_q HF.out _ _ _) | (go_at_call 194; exact jv_t HH.out _ (by omega) (by omega) _)))
    go_wp2_with fail
    go_ret
    refine ⟨ret_int ?_, HXX.out.trans (Ext.drewN _ _)⟩
    first | exact rfl | (simp [moreK]; done)
  · go_enter Tryz.func187, Tryz.ntmps187
    go_wp2_with fail
    generalize w.alloc (Obj.cells #[.int .i64 10, .int .i64 a, .int .i64 b, .int .i64 c] 169) = W at *
    have hwr : IntKind.i64.wrap ((k : Int) + 1) = (k : Int) + 1 := IntWalk.i64_in _ (by omega)
    go_quiet ((first | (go_at_call 179; exact sub_q HF.out _ _ _) | (go_at_call 194; exact jv_t HH.out _ (by omega) (by omega) _)))
    clear hwr
    go_wp2_with fail
    go_ret
    refine ⟨ret_int ?_, HXX.out.trans (Ext.drewN _ _)⟩
    first | exact rfl | (simp [moreK]; done)
  · go_enter Tryz.func187, Tryz.ntmps187
    go_wp2_with fail
    go_ret
    refine ⟨ret_int ?_, HXX.out⟩
    rw [beq_eq_false_iff_ne] at h4 h6 h10
    simp [moreK, h4, h6, h10]
set_option maxRecDepth 100000 in
set_option maxHeartbeats 4000000 in
theorem jgoes_any (h : JAt w q f p g fs sz out cd lv rv nv r n) (k : Nat) (hk : k ≤ 1048576) (x : In4) : Calls Tryz.prog 189 #[.pointer (some ⟨q, 0, none⟩), .int .i64 k, .agg #[.int .i64 x.op, .int .i64 x.a, .int .i64 x.b, .int .i64 x.c]] w fun e w' => e = .returned (.int .i64 (goesK p r k x)) ∧ Ext w w' := by
  obtain ⟨op, a, b, c⟩ := x
  have hx := Ext.alloc w (Obj.cells #[.int .i64 op, .int .i64 a, .int .i64 b, .int .i64 c] 169)
  have H := h.ext hx
  have HH := Lib.hid H
  have HXX := Lib.hid hx
  have HF := Lib.hid H.fld
  have b0 : (w.alloc (Obj.cells #[.int .i64 op, .int .i64 a, .int .i64 b, .int .i64 c] 169)).cell? ⟨w.heap.size, 0, none⟩ = some (.int .i64 op) := by simp
  have b1 : (w.alloc (Obj.cells #[.int .i64 op, .int .i64 a, .int .i64 b, .int .i64 c] 169)).cell? ⟨w.heap.size, 1, none⟩ = some (.int .i64 a) := by simp
  have b2 : (w.alloc (Obj.cells #[.int .i64 op, .int .i64 a, .int .i64 b, .int .i64 c] 169)).cell? ⟨w.heap.size, 2, none⟩ = some (.int .i64 b) := by simp
  have c0 := H.c0
  have c4 := H.c4
  have hall : op = 0 ∨ op = 8 ∨ op = 10 ∨ op = 9 ∨ op = 11 ∨ ((op == 0) = false ∧ (op == 8) = false ∧ (op == 10) = false ∧ (op == 9) = false ∧ (op == 11) = false) := by
    simp only [beq_eq_false_iff_ne]; omega
  clear H hx h
  rcases hall with rfl | rfl | rfl | rfl | rfl | ⟨h0, h8, h10, h9, h11⟩
  · go_enter Tryz.func189, Tryz.ntmps189
    go_wp2_with fail
    go_ret
    refine ⟨ret_int ?_, HXX.out⟩
    first | exact rfl | (simp [goesK]; done)
  · go_enter Tryz.func189, Tryz.ntmps189
    go_wp2_with fail
    generalize w.alloc (Obj.cells #[.int .i64 8, .int .i64 a, .int .i64 b, .int .i64 c] 169) = W at *
    go_quiet ((first | (go_at_call 104; exact of_q HF.out _ _)))
    go_wp2_with fail
    go_ret
    refine ⟨ret_int ?_, HXX.out.trans (Ext.drewN _ _)⟩
    first | exact rfl | (simp [goesK]; done)
  · go_enter Tryz.func189, Tryz.ntmps189
    go_wp2_with fail
    generalize w.alloc (Obj.cells #[.int .i64 10, .int .i64 a, .int .i64 b, .int .i64 c] 169) = W at *
    go_quiet ((first | (go_at_call 104; exact of_q HF.out _ _)))
    go_wp2_with fail
    go_ret
    refine ⟨ret_int ?_, HXX.out.trans (Ext.drewN _ _)⟩
    first | exact rfl | (simp [goesK]; done)
  · go_enter Tryz.func189, Tryz.ntmps189
    go_wp2_with fail
    generalize w.alloc (Obj.cells #[.int .i64 9, .int .i64 a, .int .i64 b, .int .i64 c] 169) = W at *
    refine (jhelps_any HH.out).mono ?_
    rintro e w1 ⟨rfl, m, rfl⟩
    replace HH := Lib.hid (HH.out.ext (Ext.drewN W m))
    replace HF := Lib.hid HH.out.fld
    replace HXX := Lib.hid (HXX.out.trans (Ext.drewN W m))
    replace c0 := HH.out.c0
    replace b2 := (Ext.drewN W m).cell b2
    clear c4 b1 b0
    generalize W.drewN m = W2 at *
    go_wp2_with fail
    have hwr : IntKind.i64.wrap ((k : Int) + 1) = (k : Int) + 1 := IntWalk.i64_in _ (by omega)
    go_quiet ((first | (go_at_call 179; exact sub_q HF.out _ _ _) | (go_at_call 123; exact mul_q HF.out _ _ _) | (go_at_call 122; exact add_q HF.out _ _ _)))
    clear hwr
    go_wp2_with fail
    go_ret
    refine ⟨ret_int ?_, HXX.out.trans (Ext.drewN _ _)⟩
    first | exact rfl | (simp [goesK]; done)
  · go_enter Tryz.func189, Tryz.ntmps189
    go_wp2_with fail
    generalize w.alloc (Obj.cells #[.int .i64 11, .int .i64 a, .int .i64 b, .int .i64 c] 169) = W at *
    refine (jv_any HH.out 1 1 (by simp)).mono ?_
    rintro e w1 ⟨rfl, rfl⟩
    go_wp2_with fail
    go_ret
    refine ⟨ret_int ?_, HXX.out⟩
    first | exact rfl | (simp [goesK]; done)
  · go_enter Tryz.func189, Tryz.ntmps189
    go_wp2_with fail
    go_ret
    refine ⟨ret_int ?_, HXX.out⟩
    rw [beq_eq_false_iff_ne] at h0 h8 h10 h9 h11
    simp [goesK, h0, h8, h10, h9, h11]
set_option maxRecDepth 100000 in
set_option maxHeartbeats 4000000 in
theorem jfp_any (h : JAt w q f p g fs sz out cd lv rv nv r n) (k : Nat) (_hk : k ≤ 1048576) (x : In4) : Calls Tryz.prog 190 #[.pointer (some ⟨q, 0, none⟩), .int .i64 k, .agg #[.int .i64 x.op, .int .i64 x.a, .int .i64 x.b, .int .i64 x.c]] w fun e w' => e = .returned (.int .i64 (fpK p r k x)) ∧ Ext w w' := by
  obtain ⟨op, a, b, c⟩ := x
  have hx := Ext.alloc w (Obj.cells #[.int .i64 op, .int .i64 a, .int .i64 b, .int .i64 c] 169)
  have H := h.ext hx
  have HH := Lib.hid H
  have HXX := Lib.hid hx
  have HF := Lib.hid H.fld
  have b0 : (w.alloc (Obj.cells #[.int .i64 op, .int .i64 a, .int .i64 b, .int .i64 c] 169)).cell? ⟨w.heap.size, 0, none⟩ = some (.int .i64 op) := by simp
  have b1 : (w.alloc (Obj.cells #[.int .i64 op, .int .i64 a, .int .i64 b, .int .i64 c] 169)).cell? ⟨w.heap.size, 1, none⟩ = some (.int .i64 a) := by simp
  have b2 : (w.alloc (Obj.cells #[.int .i64 op, .int .i64 a, .int .i64 b, .int .i64 c] 169)).cell? ⟨w.heap.size, 2, none⟩ = some (.int .i64 b) := by simp
  have c0 := H.c0
  have c4 := H.c4
  have f0 : ∀ w', (Instr.indexAt 23 rv (.int .i64 0)).run Tryz.prog w' = .ok (.pointer (some (elt rv 0 1))) w' := h.row.run_index slInts 0 (by have := h.lr; omega)
  have d0 := H.row.cell 0 (by have := H.lr; omega)
  have f1 : ∀ w', (Instr.indexAt 23 rv (.int .i64 1)).run Tryz.prog w' = .ok (.pointer (some (elt rv 1 1))) w' := h.row.run_index slInts 1 (by have := h.lr; omega)
  have d1 := H.row.cell 1 (by have := H.lr; omega)
  have hall : op = 10 ∨ op = 11 ∨ ((op == 10) = false ∧ (op == 11) = false) := by
    simp only [beq_eq_false_iff_ne]; omega
  clear H hx h
  rcases hall with rfl | rfl | ⟨h10, h11⟩
  · go_enter Tryz.func190, Tryz.ntmps190
    go_wp2_with fail
    generalize w.alloc (Obj.cells #[.int .i64 10, .int .i64 a, .int .i64 b, .int .i64 c] 169) = W at *
    go_quiet ((first | (go_at_call 122; exact add_q HF.out _ _ _)))
    go_wp2_with fail
    go_ret
    refine ⟨ret_int ?_, HXX.out.trans (Ext.drewN _ _)⟩
    first | exact rfl | (simp [fpK]; done)
  · go_enter Tryz.func190, Tryz.ntmps190
    go_wp2_with fail
    generalize w.alloc (Obj.cells #[.int .i64 11, .int .i64 a, .int .i64 b, .int .i64 c] 169) = W at *
    refine (jv_any HH.out 0 0 (by simp)).mono ?_
    rintro e w1 ⟨rfl, rfl⟩
    go_wp2_with fail
    go_ret
    refine ⟨ret_int ?_, HXX.out⟩
    first | exact rfl | (simp [fpK]; done)
  · go_enter Tryz.func190, Tryz.ntmps190
    go_wp2_with fail
    go_ret
    refine ⟨ret_int ?_, HXX.out⟩
    rw [beq_eq_false_iff_ne] at h10 h11
    simp [fpK, h10, h11]
set_option maxRecDepth 100000 in
set_option maxHeartbeats 4000000 in
theorem jap_any (h : JAt w q f p g fs sz out cd lv rv nv r n) (k : Nat) (_hk : k ≤ 1048576) (x : In4) : Calls Tryz.prog 191 #[.pointer (some ⟨q, 0, none⟩), .int .i64 k, .agg #[.int .i64 x.op, .int .i64 x.a, .int .i64 x.b, .int .i64 x.c]] w fun e w' => e = .returned (.int .i64 (apK p r k x)) ∧ Ext w w' := by
  obtain ⟨op, a, b, c⟩ := x
  have hx := Ext.alloc w (Obj.cells #[.int .i64 op, .int .i64 a, .int .i64 b, .int .i64 c] 169)
  have H := h.ext hx
  have HH := Lib.hid H
  have HXX := Lib.hid hx
  have HF := Lib.hid H.fld
  have b0 : (w.alloc (Obj.cells #[.int .i64 op, .int .i64 a, .int .i64 b, .int .i64 c] 169)).cell? ⟨w.heap.size, 0, none⟩ = some (.int .i64 op) := by simp
  have b1 : (w.alloc (Obj.cells #[.int .i64 op, .int .i64 a, .int .i64 b, .int .i64 c] 169)).cell? ⟨w.heap.size, 1, none⟩ = some (.int .i64 a) := by simp
  have b2 : (w.alloc (Obj.cells #[.int .i64 op, .int .i64 a, .int .i64 b, .int .i64 c] 169)).cell? ⟨w.heap.size, 2, none⟩ = some (.int .i64 b) := by simp
  have c0 := H.c0
  have c4 := H.c4
  have f1 : ∀ w', (Instr.indexAt 23 rv (.int .i64 1)).run Tryz.prog w' = .ok (.pointer (some (elt rv 1 1))) w' := h.row.run_index slInts 1 (by have := h.lr; omega)
  have d1 := H.row.cell 1 (by have := H.lr; omega)
  have hall : op = 10 ∨ ((op == 10) = false) := by
    simp only [beq_eq_false_iff_ne]; omega
  clear H hx h
  rcases hall with rfl | ⟨h10⟩
  · go_enter Tryz.func191, Tryz.ntmps191
    go_wp2_with fail
    generalize w.alloc (Obj.cells #[.int .i64 10, .int .i64 a, .int .i64 b, .int .i64 c] 169) = W at *
    go_quiet ((first | (go_at_call 122; exact add_q HF.out _ _ _)))
    go_wp2_with fail
    go_ret
    refine ⟨ret_int ?_, HXX.out.trans (Ext.drewN _ _)⟩
    first | exact rfl | (simp [apK]; done)
  · go_enter Tryz.func191, Tryz.ntmps191
    go_wp2_with fail
    go_ret
    refine ⟨ret_int ?_, HXX.out⟩
    rw [beq_eq_false_iff_ne] at h10
    simp [apK, h10]
set_option maxRecDepth 100000 in
set_option maxHeartbeats 4000000 in
theorem jrv_any (h : JAt w q f p g fs sz out cd lv rv nv r n) (k : Nat) (_hk : k ≤ 1048576) (x : In4) : Calls Tryz.prog 192 #[.pointer (some ⟨q, 0, none⟩), .int .i64 k, .agg #[.int .i64 x.op, .int .i64 x.a, .int .i64 x.b, .int .i64 x.c]] w fun e w' => e = .returned (.int .i64 (rvK r k x)) ∧ Ext w w' := by
  obtain ⟨op, a, b, c⟩ := x
  have hx := Ext.alloc w (Obj.cells #[.int .i64 op, .int .i64 a, .int .i64 b, .int .i64 c] 169)
  have H := h.ext hx
  have HH := Lib.hid H
  have HXX := Lib.hid hx
  have HF := Lib.hid H.fld
  have b0 : (w.alloc (Obj.cells #[.int .i64 op, .int .i64 a, .int .i64 b, .int .i64 c] 169)).cell? ⟨w.heap.size, 0, none⟩ = some (.int .i64 op) := by simp
  have b1 : (w.alloc (Obj.cells #[.int .i64 op, .int .i64 a, .int .i64 b, .int .i64 c] 169)).cell? ⟨w.heap.size, 1, none⟩ = some (.int .i64 a) := by simp
  have b2 : (w.alloc (Obj.cells #[.int .i64 op, .int .i64 a, .int .i64 b, .int .i64 c] 169)).cell? ⟨w.heap.size, 2, none⟩ = some (.int .i64 b) := by simp
  have c0 := H.c0
  have c4 := H.c4
  have f2 : ∀ w', (Instr.indexAt 23 rv (.int .i64 2)).run Tryz.prog w' = .ok (.pointer (some (elt rv 2 1))) w' := h.row.run_index slInts 2 (by have := h.lr; omega)
  have d2 := H.row.cell 2 (by have := H.lr; omega)
  have hall : op = 11 ∨ ((op == 11) = false) := by
    simp only [beq_eq_false_iff_ne]; omega
  clear H hx h
  rcases hall with rfl | ⟨h11⟩
  · go_enter Tryz.func192, Tryz.ntmps192
    go_wp2_with fail
    generalize w.alloc (Obj.cells #[.int .i64 11, .int .i64 a, .int .i64 b, .int .i64 c] 169) = W at *
    refine (jv_any HH.out 2 2 (by simp)).mono ?_
    rintro e w1 ⟨rfl, rfl⟩
    go_wp2_with fail
    go_ret
    refine ⟨ret_int ?_, HXX.out⟩
    first | exact rfl | (simp [rvK]; done)
  · go_enter Tryz.func192, Tryz.ntmps192
    go_wp2_with fail
    go_ret
    refine ⟨ret_int ?_, HXX.out⟩
    rw [beq_eq_false_iff_ne] at h11
    simp [rvK, h11]
theorem pone_any (k : Int) (x : In4) : Calls Tryz.prog 184 #[.int .i64 k, .agg #[.int .i64 x.op, .int .i64 x.a, .int .i64 x.b, .int .i64 x.c]] w fun e w' => e = .returned (.int .i64 1) ∧ Ext w w' := by
  go_enter Tryz.func184, Tryz.ntmps184
  go_wp2_with fail
  go_ret
  exact ⟨rfl, Ext.alloc _ _⟩
theorem phalts_any (k : Nat) (x : In4) : Calls Tryz.prog 193 #[.int .i64 k, .agg #[.int .i64 x.op, .int .i64 x.a, .int .i64 x.b, .int .i64 x.c]] w fun e w' => e = .returned (.int .i64 (haltK k x)) ∧ Ext w w' := by
  obtain ⟨op, a, b, c⟩ := x
  by_cases h0 : op = 0
  · subst h0
    go_enter Tryz.func193, Tryz.ntmps193
    go_wp2_with fail
    go_ret
    exact ⟨rfl, Ext.alloc _ _⟩
  · have HN := Lib.hid h0
    have hb : (op == 0) = false := beq_eq_false_iff_ne.2 h0
    clear h0
    go_enter Tryz.func193, Tryz.ntmps193
    go_wp2_with fail
    go_ret
    exact ⟨ret_int (if_neg HN.out).symm, Ext.alloc _ _⟩
end
end Go.Proofs.YtnmjaddhbecopaaGreatDoor
end
