/- RulesBroken: the document's side: what a rule is asked of. RulesBroken: the document's side: a cell of an instruction; what a register becomes. RulesBroken: the document's side: a cell of an instruction. RulesBroken: the document's side: what else an instruction does; which is next. RulesBroken: the document's side: which instruction is next. RulesBroken: of which rows a rule is: both sides. -/
import Derived.Test.YtnmjaddhbecopaaGreatDoorZx8
import Derived.Test.YtnmjaddhbecopaaGreatDoorFa
import Derived.BigQuiet
section
namespace Go.Att
open Go.RowKit
/-- What rules are asked of lies in a block. -/
structure WAt (w : World) (b : Nat) (p sz out : Int) (cd : List In4) (lv rv nv : Value) (r n : List Int) : Prop where
  c0 : w.cell? ⟨b, 0, none⟩ = some (.int .i64 p)
  c1 : w.cell? ⟨b, 1, none⟩ = some (.int .i64 sz)
  c2 : w.cell? ⟨b, 2, none⟩ = some lv
  c3 : w.cell? ⟨b, 3, none⟩ = some (.int .i64 out)
  c4 : w.cell? ⟨b, 4, none⟩ = some rv
  c5 : w.cell? ⟨b, 5, none⟩ = some nv
  code : Inqs w lv cd
  row : Ints w rv r
  next : Ints w nv n
  lr : r.length = 20 + cd.length
  ln : n.length = 20 + cd.length
  two : 2 ≤ p
  hi : p ≤ 2147483647
theorem WAt.ext {w w' : World} {b : Nat} {p sz out : Int} {cd : List In4} {lv rv nv : Value} {r n : List Int} (h : WAt w b p sz out cd lv rv nv r n) (hx : Ext w w') : WAt w' b p sz out cd lv rv nv r n :=
  ⟨hx.cell h.c0, hx.cell h.c1, hx.cell h.c2, hx.cell h.c3, hx.cell h.c4, hx.cell h.c5, h.code.ext hx, h.row.ext hx, h.next.ext hx, h.lr, h.ln, h.two, h.hi⟩
end Go.Att
namespace Go.Proofs.YtnmjaddhbecopaaGreatDoor
open Go.RowKit Go.Att
section
variable {w : World} {q : Nat} {p sz out : Int} {cd : List In4} {lv rv nv : Value} {r n : List Int}
theorem wadd_any (h : WAt w q p sz out cd lv rv nv r n) (a b : Int) : Calls Tryz.prog 224 #[.pointer (some ⟨q, 0, none⟩), .int .i64 a, .int .i64 b] w fun e w' => e = .returned (.int .i64 (fadd p a b)) ∧ w = w' := by
  have c0 := h.c0
  have C := radd_any p a b w h.two h.hi
  clear h
  go_enter Tryz.func224, Tryz.ntmps224
  go_wp2_with fail
  refine C.mono ?_
  rintro e w1 ⟨rfl, rfl⟩
  go_wp2_with fail
  go_ret
  exact ⟨rfl, rfl⟩
theorem wsub_any (h : WAt w q p sz out cd lv rv nv r n) (a b : Int) : Calls Tryz.prog 223 #[.pointer (some ⟨q, 0, none⟩), .int .i64 a, .int .i64 b] w fun e w' => e = .returned (.int .i64 (fsub p a b)) ∧ w = w' := by
  have c0 := h.c0
  have C := rsub_any p a b w h.two h.hi
  clear h
  go_enter Tryz.func223, Tryz.ntmps223
  go_wp2_with fail
  refine C.mono ?_
  rintro e w1 ⟨rfl, rfl⟩
  go_wp2_with fail
  go_ret
  exact ⟨rfl, rfl⟩
theorem wmul_any (h : WAt w q p sz out cd lv rv nv r n) (a b : Int) : Calls Tryz.prog 222 #[.pointer (some ⟨q, 0, none⟩), .int .i64 a, .int .i64 b] w fun e w' => e = .returned (.int .i64 (fmul p a b)) ∧ w = w' := by
  have c0 := h.c0
  have C := rmul_any p a b w h.two h.hi
  clear h
  go_enter Tryz.func222, Tryz.ntmps222
  go_wp2_with fail
  refine C.mono ?_
  rintro e w1 ⟨rfl, rfl⟩
  go_wp2_with fail
  go_ret
  exact ⟨rfl, rfl⟩
set_option maxRecDepth 100000 in
set_option maxHeartbeats 4000000 in
theorem wdoes_any (h : WAt w q p sz out cd lv rv nv r n) (k : Nat) (x : In4) : Calls Tryz.prog 297 #[.pointer (some ⟨q, 0, none⟩), .agg #[.int .i64 x.op, .int .i64 x.a, .int .i64 x.b, .int .i64 x.c]] w fun e w' => e = .returned (.int .i64 (doesK p r k x)) ∧ Ext w w' := by
  obtain ⟨op, a, b, c⟩ := x
  have hx := Ext.alloc w (Obj.cells #[.int .i64 op, .int .i64 a, .int .i64 b, .int .i64 c] 169)
  have H := h.ext hx
  have HH := Lib.hid H
  have HXX := Lib.hid hx
  have hr : 20 ≤ r.length := by have := h.lr; omega
  have f0 : ∀ w', (Instr.indexAt 23 rv (.int .i64 0)).run Tryz.prog w' = .ok (.pointer (some (elt rv 0 1))) w' := h.row.run_index slInts 0 (by omega)
  have f2 : ∀ w', (Instr.indexAt 23 rv (.int .i64 2)).run Tryz.prog w' = .ok (.pointer (some (elt rv 2 1))) w' := h.row.run_index slInts 2 (by omega)
  have f7 : ∀ w', (Instr.indexAt 23 rv (.int .i64 7)).run Tryz.prog w' = .ok (.pointer (some (elt rv 7 1))) w' := h.row.run_index slInts 7 (by omega)
  have f8 : ∀ w', (Instr.indexAt 23 rv (.int .i64 8)).run Tryz.prog w' = .ok (.pointer (some (elt rv 8 1))) w' := h.row.run_index slInts 8 (by omega)
  have f9 : ∀ w', (Instr.indexAt 23 rv (.int .i64 9)).run Tryz.prog w' = .ok (.pointer (some (elt rv 9 1))) w' := h.row.run_index slInts 9 (by omega)
  have f11 : ∀ w', (Instr.indexAt 23 rv (.int .i64 11)).run Tryz.prog w' = .ok (.pointer (some (elt rv 11 1))) w' := h.row.run_index slInts 11 (by omega)
  have d0 := H.row.cell 0 (by omega)
  have d2 := H.row.cell 2 (by omega)
  have d7 := H.row.cell 7 (by omega)
  have d8 := H.row.cell 8 (by omega)
  have d9 := H.row.cell 9 (by omega)
  have d11 := H.row.cell 11 (by omega)
  have c4 := H.c4
  have hall : op = 1 ∨ op = 2 ∨ op = 3 ∨ op = 4 ∨ op = 5 ∨ op = 6 ∨ op = 7 ∨ op = 13 ∨ op = 9 ∨ op = 10 ∨ op = 12 ∨ op = 0 ∨ op = 8 ∨ op = 11 ∨ ((op == 1) = false ∧ (op == 2) = false ∧ (op == 3) = false ∧ (op == 4) = false ∧ (op == 5) = false ∧ (op == 6) = false ∧ (op == 7) = false ∧ (op == 13) = false ∧ (op == 9) = false ∧ (op == 10) = false ∧ (op == 12) = false ∧ (op == 0) = false ∧ (op == 8) = false ∧ (op == 11) = false) := by
    simp only [beq_eq_false_iff_ne]; omega
  clear H hx h hr
  rcases hall with rfl | rfl | rfl | rfl | rfl | rfl | rfl | rfl | rfl | rfl | rfl | rfl | rfl | rfl | ⟨h1, h2, h3, h4, h5, h6, h7, h13, h9, h10, h12, h0, h8, h11⟩
  all_goals
    go_enter Tryz.func297, Tryz.ntmps297
    go_wp2_with (first | (go_at_call 223; refine (wsub_any HH.out _ _).mono ?_; rintro e w' ⟨rfl, rfl⟩) | (go_at_call 222; refine (wmul_any HH.out _ _).mono ?_; rintro e w' ⟨rfl, rfl⟩) | (go_at_call 224; refine (wadd_any HH.out _ _).mono ?_; rintro e w' ⟨rfl, rfl⟩))
    go_ret
    first | exact ⟨rfl, HXX.out⟩ | (refine ⟨ret_int ?_, HXX.out⟩; rw [beq_eq_false_iff_ne] at h1 h2 h3 h4 h5 h6 h7 h13 h9 h10 h12 h0 h8 h11; simp [doesK, h1, h2, h3, h4, h5, h6, h7, h13, h9, h10, h12, h0, h8, h11]; done) | (refine ⟨ret_int ?_, HXX.out⟩; simp [doesK]; done)
end
end Go.Proofs.YtnmjaddhbecopaaGreatDoor
end
section
namespace Go.Proofs.YtnmjaddhbecopaaGreatDoor
open Go.RowKit Go.Att
section
variable {w : World} {q : Nat} {p sz out : Int} {cd : List In4} {lv rv nv : Value} {r n : List Int}
/-- What the register numbered g becomes. -/
def regK (p : Int) (r : List Int) (g : Nat) (k : Nat) (x : In4) : Int := if g = 0 then fpK p r k x else if g = 1 then apK p r k x else rvK r k x
set_option maxRecDepth 100000 in
set_option maxHeartbeats 4000000 in
theorem wreg_any (h : WAt w q p sz out cd lv rv nv r n) (k : Nat) (x : In4) (g : Nat) (gi : Int) (hg : (g = 0 ∧ gi = 0) ∨ (g = 1 ∧ gi = 1) ∨ (g = 2 ∧ gi = 2)) : Calls Tryz.prog 300 #[.pointer (some ⟨q, 0, none⟩), .agg #[.int .i64 x.op, .int .i64 x.a, .int .i64 x.b, .int .i64 x.c], .int .i64 gi] w fun e w' => e = .returned (.int .i64 (regK p r g k x)) ∧ Ext w w' := by
  obtain ⟨op, a, b, c⟩ := x
  have hx := Ext.alloc w (Obj.cells #[.int .i64 op, .int .i64 a, .int .i64 b, .int .i64 c] 169)
  have H := h.ext hx
  have HH := Lib.hid H
  have HXX := Lib.hid hx
  have hr : 20 ≤ r.length := by have := h.lr; omega
  have f0 : ∀ w', (Instr.indexAt 23 rv (.int .i64 0)).run Tryz.prog w' = .ok (.pointer (some (elt rv 0 1))) w' := h.row.run_index slInts 0 (by omega)
  have d0 := H.row.cell 0 (by omega)
  have f1 : ∀ w', (Instr.indexAt 23 rv (.int .i64 1)).run Tryz.prog w' = .ok (.pointer (some (elt rv 1 1))) w' := h.row.run_index slInts 1 (by omega)
  have d1 := H.row.cell 1 (by omega)
  have f2 : ∀ w', (Instr.indexAt 23 rv (.int .i64 2)).run Tryz.prog w' = .ok (.pointer (some (elt rv 2 1))) w' := h.row.run_index slInts 2 (by omega)
  have d2 := H.row.cell 2 (by omega)
  have f7 : ∀ w', (Instr.indexAt 23 rv (.int .i64 7)).run Tryz.prog w' = .ok (.pointer (some (elt rv 7 1))) w' := h.row.run_index slInts 7 (by omega)
  have d7 := H.row.cell 7 (by omega)
  have f9 : ∀ w', (Instr.indexAt 23 rv (.int .i64 9)).run Tryz.prog w' = .ok (.pointer (some (elt rv 9 1))) w' := h.row.run_index slInts 9 (by omega)
  have d9 := H.row.cell 9 (by omega)
  have c4 := H.c4
  have hall : op = 11 ∨ op = 10 ∨ ((op == 11) = false ∧ (op == 10) = false) := by
    simp only [beq_eq_false_iff_ne]; omega
  clear H hx h hr
  rcases hg with ⟨rfl, rfl⟩ | ⟨rfl, rfl⟩ | ⟨rfl, rfl⟩ <;> rcases hall with rfl | rfl | ⟨h11, h10⟩
  all_goals
    go_enter Tryz.func300, Tryz.ntmps300
    go_wp2_with (first | (go_at_call 224; refine (wadd_any HH.out _ _).mono ?_; rintro e w' ⟨rfl, rfl⟩))
    go_ret
    first | exact ⟨rfl, HXX.out⟩ | (refine ⟨ret_int ?_, HXX.out⟩; rw [beq_eq_false_iff_ne] at h11 h10; simp [regK, fpK, apK, rvK, h11, h10]; done) | (refine ⟨ret_int ?_, HXX.out⟩; simp [regK, fpK, apK, rvK]; done)
end
end Go.Proofs.YtnmjaddhbecopaaGreatDoor
end
section
namespace Go.Proofs.YtnmjaddhbecopaaGreatDoor
open Go.RowKit Go.Att
section
variable {w : World} {q : Nat} {p sz out : Int} {cd : List In4} {lv rv nv : Value} {r n : List Int}
set_option maxRecDepth 100000 in
set_option maxHeartbeats 8000000 in
theorem wcell_any (h : WAt w q p sz out cd lv rv nv r n) (k : Nat) (x : In4) (g : Nat) (gi : Int) (hg : (g = 0 ∧ gi = 0) ∨ (g = 1 ∧ gi = 1) ∨ (g = 2 ∧ gi = 2)) : Calls Tryz.prog 296 #[.pointer (some ⟨q, 0, none⟩), .agg #[.int .i64 x.op, .int .i64 x.a, .int .i64 x.b, .int .i64 x.c], .int .i64 gi] w fun e w' => e = .returned (.int .i64 (cellD p r g k x)) ∧ Ext w w' := by
  obtain ⟨op, a, b, c⟩ := x
  have hx := Ext.alloc w (Obj.cells #[.int .i64 op, .int .i64 a, .int .i64 b, .int .i64 c] 169)
  have H := h.ext hx
  have HH := Lib.hid H
  have HXX := Lib.hid hx
  have hr : 20 ≤ r.length := by have := h.lr; omega
  have f0 : ∀ w', (Instr.indexAt 23 rv (.int .i64 0)).run Tryz.prog w' = .ok (.pointer (some (elt rv 0 1))) w' := h.row.run_index slInts 0 (by omega)
  have d0 := H.row.cell 0 (by omega)
  have f1 : ∀ w', (Instr.indexAt 23 rv (.int .i64 1)).run Tryz.prog w' = .ok (.pointer (some (elt rv 1 1))) w' := h.row.run_index slInts 1 (by omega)
  have d1 := H.row.cell 1 (by omega)
  have c4 := H.c4
  have hall : op = 1 ∨ op = 2 ∨ op = 3 ∨ op = 4 ∨ op = 6 ∨ op = 7 ∨ op = 5 ∨ op = 9 ∨ op = 12 ∨ op = 0 ∨ op = 13 ∨ op = 10 ∨ op = 11 ∨ ((op == 1) = false ∧ (op == 2) = false ∧ (op == 3) = false ∧ (op == 4) = false ∧ (op == 6) = false ∧ (op == 7) = false ∧ (op == 5) = false ∧ (op == 9) = false ∧ (op == 12) = false ∧ (op == 0) = false ∧ (op == 13) = false ∧ (op == 10) = false ∧ (op == 11) = false) := by
    simp only [beq_eq_false_iff_ne]; omega
  clear H hx h hr
  rcases hg with ⟨rfl, rfl⟩ | ⟨rfl, rfl⟩ | ⟨rfl, rfl⟩ <;> rcases hall with rfl | rfl | rfl | rfl | rfl | rfl | rfl | rfl | rfl | rfl | rfl | rfl | rfl | ⟨h1, h2, h3, h4, h6, h7, h5, h9, h12, h0, h13, h10, h11⟩
  all_goals
    go_enter Tryz.func296, Tryz.ntmps296
    go_wp2_with (first | (go_at_call 224; refine (wadd_any HH.out _ _).mono ?_; rintro e w' ⟨rfl, rfl⟩))
    go_ret
    first | exact ⟨rfl, HXX.out⟩ | (refine ⟨ret_int ?_, HXX.out⟩; rw [beq_eq_false_iff_ne] at h1 h2 h3 h4 h6 h7 h5 h9 h12 h0 h13 h10 h11; simp [cellD, oneB, twoC, threeB, h1, h2, h3, h4, h6, h7, h5, h9, h12, h0, h13, h10, h11]; done) | (refine ⟨ret_int ?_, HXX.out⟩; simp [cellD, oneB, twoC, threeB]; done)
end
end Go.Proofs.YtnmjaddhbecopaaGreatDoor
end
section
namespace Go.Proofs.YtnmjaddhbecopaaGreatDoor
open Go.RowKit Go.Att
section
variable {w : World} {q : Nat} {p sz out : Int} {cd : List In4} {lv rv nv : Value} {r n : List Int}
theorem wmul_q (h : WAt w q p sz out cd lv rv nv r n) (a b : Int) (m : Nat) : Calls Tryz.prog 222 #[.pointer (some ⟨q, 0, none⟩), .int .i64 a, .int .i64 b] (w.drewN m) fun e w' => e = .returned (.int .i64 (fmul p a b)) ∧ ∃ k, w' = w.drewN k := (wmul_any (h.ext (Ext.drewN w m)) a b).mono fun _ _ h => ⟨h.1, m, h.2.symm⟩
theorem wsub_q (h : WAt w q p sz out cd lv rv nv r n) (a b : Int) (m : Nat) : Calls Tryz.prog 223 #[.pointer (some ⟨q, 0, none⟩), .int .i64 a, .int .i64 b] (w.drewN m) fun e w' => e = .returned (.int .i64 (fsub p a b)) ∧ ∃ k, w' = w.drewN k := (wsub_any (h.ext (Ext.drewN w m)) a b).mono fun _ _ h => ⟨h.1, m, h.2.symm⟩
set_option maxRecDepth 100000 in
set_option maxHeartbeats 4000000 in
theorem walso_any (h : WAt w q p sz out cd lv rv nv r n) (k : Nat) (hk : k < cd.length) (hs : cd.length ≤ 1048576) : Calls Tryz.prog 298 #[.pointer (some ⟨q, 0, none⟩), .int .i64 k] w fun e w' => e = .returned (.int .i64 (moreK p r k (nthI cd k))) ∧ Ext w w' := by
  have hix := h.code.run_index (P := Tryz.prog) slIns k hk
  have e0 := h.code.c0 k hk
  have e1 := h.code.c1 k hk
  have e2 := h.code.c2 k hk
  have e3 := h.code.c3 k hk
  have c2 := h.c2
  generalize nthI cd k = x at *
  obtain ⟨op, a, b, c⟩ := x
  have hx := Ext.alloc w (Obj.cells #[.int .i64 op, .int .i64 a, .int .i64 b, .int .i64 c] 169)
  have H := h.ext hx
  have HH := Lib.hid H
  have HXX := Lib.hid hx
  have hr : 20 ≤ r.length := by have := h.lr; omega
  have f7 : ∀ w', (Instr.indexAt 23 rv (.int .i64 7)).run Tryz.prog w' = .ok (.pointer (some (elt rv 7 1))) w' := h.row.run_index slInts 7 (by omega)
  have d7 := H.row.cell 7 (by omega)
  have f8 : ∀ w', (Instr.indexAt 23 rv (.int .i64 8)).run Tryz.prog w' = .ok (.pointer (some (elt rv 8 1))) w' := h.row.run_index slInts 8 (by omega)
  have d8 := H.row.cell 8 (by omega)
  have f9 : ∀ w', (Instr.indexAt 23 rv (.int .i64 9)).run Tryz.prog w' = .ok (.pointer (some (elt rv 9 1))) w' := h.row.run_index slInts 9 (by omega)
  have d9 := H.row.cell 9 (by omega)
  have f11 : ∀ w', (Instr.indexAt 23 rv (.int .i64 11)).run Tryz.prog w' = .ok (.pointer (some (elt rv 11 1))) w' := h.row.run_index slInts 11 (by omega)
  have d11 := H.row.cell 11 (by omega)
  have c4 := H.c4
  have hall : op = 4 ∨ op = 6 ∨ op = 10 ∨ ((op == 4) = false ∧ (op == 6) = false ∧ (op == 10) = false) := by
    simp only [beq_eq_false_iff_ne]; omega
  clear h H hx hr
  rcases hall with rfl | rfl | rfl | ⟨h4, h6, h10⟩
  · go_enter Tryz.func298, Tryz.ntmps298
    go_wp2_with fail
    generalize w.alloc (Obj.cells #[.int .i64 4, .int .i64 a, .int .i64 b, .int .i64 c] 169) = W at *
    go_quiet ((go_at_call 222; exact wmul_q HH.out _ _ _))
    go_wp2_with (go_at_call 223; refine (wsub_any (HH.out.ext (Ext.drewN _ _)) _ _).mono ?_; rintro e w' ⟨rfl, rfl⟩)
    go_ret
    exact ⟨rfl, HXX.out.trans (Ext.drewN _ _)⟩
  · go_enter Tryz.func298, Tryz.ntmps298
    go_wp2_with fail
    generalize w.alloc (Obj.cells #[.int .i64 6, .int .i64 a, .int .i64 b, .int .i64 c] 169) = W at *
    go_quiet ((go_at_call 223; exact wsub_q HH.out _ _ _))
    have d9 := (Ext.drewN W 0).cell d9
    go_wp2_with (go_at_call 222; refine (wmul_any (HH.out.ext (Ext.drewN _ _)) _ _).mono ?_; rintro e w' ⟨rfl, rfl⟩)
    go_ret
    exact ⟨rfl, HXX.out.trans (Ext.drewN _ _)⟩
  · go_enter Tryz.func298, Tryz.ntmps298
    go_wp2_with (go_at_call 223; refine (wsub_any HH.out _ _).mono ?_; rintro e w' ⟨rfl, rfl⟩)
    go_ret
    exact ⟨rfl, HXX.out⟩
  · go_enter Tryz.func298, Tryz.ntmps298
    go_wp2_with fail
    go_ret
    refine ⟨ret_int ?_, HXX.out⟩
    rw [beq_eq_false_iff_ne] at h4 h6 h10
    simp [moreK, h4, h6, h10]
end
end Go.Proofs.YtnmjaddhbecopaaGreatDoor
end
section
namespace Go.Proofs.YtnmjaddhbecopaaGreatDoor
open Go.RowKit Go.Att
section
variable {w : World} {q : Nat} {p sz out : Int} {cd : List In4} {lv rv nv : Value} {r n : List Int}
set_option maxRecDepth 100000 in
set_option maxHeartbeats 4000000 in
theorem wnext_any (h : WAt w q p sz out cd lv rv nv r n) (k : Nat) (hk : k < cd.length) (hs : cd.length ≤ 1048576) : Calls Tryz.prog 299 #[.pointer (some ⟨q, 0, none⟩), .int .i64 k] w fun e w' => e = .returned (.int .i64 (goesD p r k (nthI cd k))) ∧ Ext w w' := by
  have hix := h.code.run_index (P := Tryz.prog) slIns k hk
  have e0 := h.code.c0 k hk
  have e1 := h.code.c1 k hk
  have e2 := h.code.c2 k hk
  have e3 := h.code.c3 k hk
  have c2 := h.c2
  generalize nthI cd k = x at *
  obtain ⟨op, a, b, c⟩ := x
  have hx := Ext.alloc w (Obj.cells #[.int .i64 op, .int .i64 a, .int .i64 b, .int .i64 c] 169)
  have H := h.ext hx
  have HH := Lib.hid H
  have HXX := Lib.hid hx
  have hr : 20 ≤ r.length := by have := h.lr; omega
  have f7 : ∀ w', (Instr.indexAt 23 rv (.int .i64 7)).run Tryz.prog w' = .ok (.pointer (some (elt rv 7 1))) w' := h.row.run_index slInts 7 (by omega)
  have d7 := H.row.cell 7 (by omega)
  have f8 : ∀ w', (Instr.indexAt 23 rv (.int .i64 8)).run Tryz.prog w' = .ok (.pointer (some (elt rv 8 1))) w' := h.row.run_index slInts 8 (by omega)
  have d8 := H.row.cell 8 (by omega)
  have f9 : ∀ w', (Instr.indexAt 23 rv (.int .i64 9)).run Tryz.prog w' = .ok (.pointer (some (elt rv 9 1))) w' := h.row.run_index slInts 9 (by omega)
  have d9 := H.row.cell 9 (by omega)
  have f11 : ∀ w', (Instr.indexAt 23 rv (.int .i64 11)).run Tryz.prog w' = .ok (.pointer (some (elt rv 11 1))) w' := h.row.run_index slInts 11 (by omega)
  have d11 := H.row.cell 11 (by omega)
  have c4 := H.c4
  have hall : op = 0 ∨ op = 8 ∨ op = 10 ∨ op = 9 ∨ op = 11 ∨ ((op == 0) = false ∧ (op == 8) = false ∧ (op == 10) = false ∧ (op == 9) = false ∧ (op == 11) = false) := by
    simp only [beq_eq_false_iff_ne]; omega
  clear h H hx hr
  rcases hall with rfl | rfl | rfl | rfl | rfl | ⟨h0, h8, h10, h9, h11⟩
  · go_enter Tryz.func299, Tryz.ntmps299
    go_wp2_with fail
    go_ret
    exact ⟨rfl, HXX.out⟩
  · go_enter Tryz.func299, Tryz.ntmps299
    go_wp2_with fail
    go_ret
    exact ⟨rfl, HXX.out⟩
  · go_enter Tryz.func299, Tryz.ntmps299
    go_wp2_with fail
    go_ret
    exact ⟨rfl, HXX.out⟩
  · go_enter Tryz.func299, Tryz.ntmps299
    go_wp2_with fail
    have gb : (w.alloc (Obj.cells #[.int .i64 9, .int .i64 a, .int .i64 b, .int .i64 c] 169)).cell? ⟨w.heap.size, 2, none⟩ = some (.int .i64 b) := by simp
    generalize w.alloc (Obj.cells #[.int .i64 9, .int .i64 a, .int .i64 b, .int .i64 c] 169) = W at *
    go_quiet ((go_at_call 222; exact wmul_q HH.out _ _ _))
    go_wp2_with (first | (go_at_call 223; refine (wsub_any (HH.out.ext (Ext.drewN _ _)) _ _).mono ?_; rintro e w' ⟨rfl, rfl⟩) | (go_at_call 222; refine (wmul_any (HH.out.ext (Ext.drewN _ _)) _ _).mono ?_; rintro e w' ⟨rfl, rfl⟩) | (go_at_call 224; refine (wadd_any (HH.out.ext (Ext.drewN _ _)) _ _).mono ?_; rintro e w' ⟨rfl, rfl⟩))
    go_ret
    exact ⟨rfl, HXX.out.trans (Ext.drewN _ _)⟩
  · go_enter Tryz.func299, Tryz.ntmps299
    go_wp2_with fail
    go_ret
    exact ⟨rfl, HXX.out⟩
  · go_enter Tryz.func299, Tryz.ntmps299
    go_wp2_with fail
    go_ret
    refine ⟨ret_int ?_, HXX.out⟩
    rw [beq_eq_false_iff_ne] at h0 h8 h10 h9 h11
    simp [goesD, h0, h8, h10, h9, h11]
end
end Go.Proofs.YtnmjaddhbecopaaGreatDoor
end
section
namespace Go.Proofs.YtnmjaddhbecopaaGreatDoor
open Go.RowKit Go.Att
set_option maxHeartbeats 1000000 in
theorem dof_any (l k : Nat) (w : World) (hl : l ≤ 1048576) (hk : k < l + 26) : Calls Tryz.prog 149 #[.int .i64 l, .int .i64 k] w fun e w' => e = .returned (.int .i64 (kindR l k)) ∧ w = w' := by
  have hall : k < l + 12 ∨ (¬ k < l + 12 ∧ k < l + 18) ∨ (¬ k < l + 12 ∧ ¬ k < l + 18 ∧ k < l + 24) ∨ (¬ k < l + 12 ∧ ¬ k < l + 18 ∧ ¬ k < l + 24) := by omega
  rcases hall with h | ⟨h, h2⟩ | ⟨h, h2, h3⟩ | ⟨h, h2, h3⟩
  all_goals
    go_enter Tryz.func149, Tryz.ntmps149
    go_wp2_with fail
    go_ret
    refine ⟨ret_int ?_, rfl⟩
    simp [kindR, *]
set_option maxHeartbeats 1000000 in
theorem pof_any (l k : Nat) (w : World) (hl : l ≤ 1048576) (hk : k < l + 26) : Calls Tryz.prog 109 #[.int .i64 k, .int .i64 l] w fun e w' => e = .returned (.int .i64 (kindR l k)) ∧ w = w' := by
  have hall : k < l + 12 ∨ (¬ k < l + 12 ∧ k < l + 18) ∨ (¬ k < l + 12 ∧ ¬ k < l + 18 ∧ k < l + 24) ∨ (¬ k < l + 12 ∧ ¬ k < l + 18 ∧ ¬ k < l + 24) := by omega
  rcases hall with h | ⟨h, h2⟩ | ⟨h, h2, h3⟩ | ⟨h, h2, h3⟩
  all_goals
    go_enter Tryz.func109, Tryz.ntmps109
    go_wp2_with fail
    go_ret
    refine ⟨ret_int ?_, rfl⟩
    simp [kindR, *]
set_option maxHeartbeats 1000000 in
theorem speaks_any (kd i N : Nat) (ki : Int) (w : World) (hi : i < N) (hN : N ≤ 1048576) (hk : (kd = 0 ∧ ki = 0) ∨ (kd = 1 ∧ ki = 1) ∨ (kd = 2 ∧ ki = 2) ∨ (kd = 3 ∧ ki = 3)) : Calls Tryz.prog 108 #[.int .i64 ki, .int .i64 i, .int .i64 N] w fun e w' => e = .returned (.bool (speakB N kd i)) ∧ w = w' := by
  have ha : i = 0 ∨ 0 < i := by omega
  have hb : i + 1 = N ∨ i + 1 < N := by omega
  rcases hk with ⟨rfl, rfl⟩ | ⟨rfl, rfl⟩ | ⟨rfl, rfl⟩ | ⟨rfl, rfl⟩ <;> rcases ha with rfl | ha <;> rcases hb with rfl | hb
  all_goals
    go_enter Tryz.func108, Tryz.ntmps108
    go_wp2_with fail
    go_ret
    refine ⟨ret_bool ?_, rfl⟩
    simp only [speakB]
    first | rfl | (have hh : ((i : Int) == 0) = (i == 0) := (by rw [Bool.eq_iff_iff, beq_iff_eq, beq_iff_eq]; omega); rw [hh]; rfl) | (simp; done) | (have hh : (((i : Int) + 1 == N)) = false := (beq_eq_false_iff_ne.2 (by omega)); simp [hh]; done) | (rw [Bool.eq_iff_iff]; simp; omega) | (rw [Bool.eq_iff_iff]; simp only [beq_iff_eq, decide_eq_true_eq]; omega)
end Go.Proofs.YtnmjaddhbecopaaGreatDoor
end
