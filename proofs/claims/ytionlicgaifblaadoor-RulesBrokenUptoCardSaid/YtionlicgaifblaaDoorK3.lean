/- RulesBroken: the document's side: what a rule is asked of. -/
import Derived.Test.YtionlicgaifblaaDoorK2
import Derived.Test.YtionlicgaifblaaDoorIq
import Derived.Test.YtionlicgaifblaaDoorFa
namespace Go.Att
open Go.RowKit
/-- What rules are asked of lies in a block. -/
structure WAt (w : World) (b : Nat) (p sz out : Int) (cd : List In4) (lv rv nv : Value) (r n : List Int) : Prop where
  c0 : w.cell? ⟨b, 0, none⟩ = some (.int .i64 p)
  c1 : w.cell? ⟨b, 1, none⟩ = some (.int .i64 sz)
  c2 : w.cell? ⟨b, 2, none⟩ = some lv
  c3 : w.cell? ⟨b, 3, none⟩ = some (.int .i64 out)
  c4 : w.cell? ⟨b, 4, none⟩ = some rv
  c5 : w.cell? ⟨b, 5, none⟩ = some nv
  code : Inqs w lv cd
  row : Ints w rv r
  next : Ints w nv n
  lr : r.length = 20 + cd.length
  ln : n.length = 20 + cd.length
  two : 2 ≤ p
  hi : p ≤ 2147483647
theorem WAt.ext {w w' : World} {b : Nat} {p sz out : Int} {cd : List In4} {lv rv nv : Value} {r n : List Int} (h : WAt w b p sz out cd lv rv nv r n) (hx : Ext w w') : WAt w' b p sz out cd lv rv nv r n :=
  ⟨hx.cell h.c0, hx.cell h.c1, hx.cell h.c2, hx.cell h.c3, hx.cell h.c4, hx.cell h.c5, h.code.ext hx, h.row.ext hx, h.next.ext hx, h.lr, h.ln, h.two, h.hi⟩
end Go.Att
namespace Go.Proofs.YtionlicgaifblaaDoor
open Go.RowKit Go.Att
section
variable {w : World} {q : Nat} {p sz out : Int} {cd : List In4} {lv rv nv : Value} {r n : List Int}
theorem wadd_any (h : WAt w q p sz out cd lv rv nv r n) (a b : Int) : Calls Tryd.prog 65 #[.pointer (some ⟨q, 0, none⟩), .int .i64 a, .int .i64 b] w fun e w' => e = .returned (.int .i64 (fadd p a b)) ∧ w = w' := by
  have c0 := h.c0
  have C := radd_any p a b w h.two h.hi
  clear h
  go_enter Tryd.func65, Tryd.ntmps65
  go_wp2_with fail
  refine C.mono ?_
  rintro e w1 ⟨rfl, rfl⟩
  go_wp2_with fail
  go_ret
  exact ⟨rfl, rfl⟩
theorem wsub_any (h : WAt w q p sz out cd lv rv nv r n) (a b : Int) : Calls Tryd.prog 64 #[.pointer (some ⟨q, 0, none⟩), .int .i64 a, .int .i64 b] w fun e w' => e = .returned (.int .i64 (fsub p a b)) ∧ w = w' := by
  have c0 := h.c0
  have C := rsub_any p a b w h.two h.hi
  clear h
  go_enter Tryd.func64, Tryd.ntmps64
  go_wp2_with fail
  refine C.mono ?_
  rintro e w1 ⟨rfl, rfl⟩
  go_wp2_with fail
  go_ret
  exact ⟨rfl, rfl⟩
theorem wmul_any (h : WAt w q p sz out cd lv rv nv r n) (a b : Int) : Calls Tryd.prog 63 #[.pointer (some ⟨q, 0, none⟩), .int .i64 a, .int .i64 b] w fun e w' => e = .returned (.int .i64 (fmul p a b)) ∧ w = w' := by
  have c0 := h.c0
  have C := rmul_any p a b w h.two h.hi
  clear h
  go_enter Tryd.func63, Tryd.ntmps63
  go_wp2_with fail
  refine C.mono ?_
  rintro e w1 ⟨rfl, rfl⟩
  go_wp2_with fail
  go_ret
  exact ⟨rfl, rfl⟩
set_option maxRecDepth 100000 in
set_option maxHeartbeats 4000000 in
theorem wdoes_any (h : WAt w q p sz out cd lv rv nv r n) (k : Nat) (x : In4) : Calls Tryd.prog 109 #[.pointer (some ⟨q, 0, none⟩), .agg #[.int .i64 x.op, .int .i64 x.a, .int .i64 x.b, .int .i64 x.c]] w fun e w' => e = .returned (.int .i64 (doesK p r k x)) ∧ Ext w w' := by
  obtain ⟨op, a, b, c⟩ := x
  have hx := Ext.alloc w (Obj.cells #[.int .i64 op, .int .i64 a, .int .i64 b, .int .i64 c] 93)
  have H := h.ext hx
  have HH := Lib.hid H
  have HXX := Lib.hid hx
  have hr : 20 ≤ r.length := by have := h.lr; omega
  have f0 : ∀ w', (Instr.indexAt 64 rv (.int .i64 0)).run Tryd.prog w' = .ok (.pointer (some (elt rv 0 1))) w' := h.row.run_index slInts 0 (by omega)
  have f2 : ∀ w', (Instr.indexAt 64 rv (.int .i64 2)).run Tryd.prog w' = .ok (.pointer (some (elt rv 2 1))) w' := h.row.run_index slInts 2 (by omega)
  have f7 : ∀ w', (Instr.indexAt 64 rv (.int .i64 7)).run Tryd.prog w' = .ok (.pointer (some (elt rv 7 1))) w' := h.row.run_index slInts 7 (by omega)
  have f8 : ∀ w', (Instr.indexAt 64 rv (.int .i64 8)).run Tryd.prog w' = .ok (.pointer (some (elt rv 8 1))) w' := h.row.run_index slInts 8 (by omega)
  have f9 : ∀ w', (Instr.indexAt 64 rv (.int .i64 9)).run Tryd.prog w' = .ok (.pointer (some (elt rv 9 1))) w' := h.row.run_index slInts 9 (by omega)
  have f11 : ∀ w', (Instr.indexAt 64 rv (.int .i64 11)).run Tryd.prog w' = .ok (.pointer (some (elt rv 11 1))) w' := h.row.run_index slInts 11 (by omega)
  have d0 := H.row.cell 0 (by omega)
  have d2 := H.row.cell 2 (by omega)
  have d7 := H.row.cell 7 (by omega)
  have d8 := H.row.cell 8 (by omega)
  have d9 := H.row.cell 9 (by omega)
  have d11 := H.row.cell 11 (by omega)
  have c4 := H.c4
  have hall : op = 1 ∨ op = 2 ∨ op = 3 ∨ op = 4 ∨ op = 5 ∨ op = 6 ∨ op = 7 ∨ op = 13 ∨ op = 9 ∨ op = 10 ∨ op = 12 ∨ op = 0 ∨ op = 8 ∨ op = 11 ∨ ((op == 1) = false ∧ (op == 2) = false ∧ (op == 3) = false ∧ (op == 4) = false ∧ (op == 5) = false ∧ (op == 6) = false ∧ (op == 7) = false ∧ (op == 13) = false ∧ (op == 9) = false ∧ (op == 10) = false ∧ (op == 12) = false ∧ (op == 0) = false ∧ (op == 8) = false ∧ (op == 11) = false) := by
    simp only [beq_eq_false_iff_ne]; omega
  clear H hx h hr
  rcases hall with rfl | rfl | rfl | rfl | rfl | rfl | rfl | rfl | rfl | rfl | rfl | rfl | rfl | rfl | ⟨h1, h2, h3, h4, h5, h6, h7, h13, h9, h10, h12, h0, h8, h11⟩
  all_goals
    go_enter Tryd.func109, Tryd.ntmps109
    go_wp2_with (first | (go_at_call 64; refine (wsub_any HH.out _ _).mono ?_; rintro e w' ⟨rfl, rfl⟩) | (go_at_call 63; refine (wmul_any HH.out _ _).mono ?_; rintro e w' ⟨rfl, rfl⟩) | (go_at_call 65; refine (wadd_any HH.out _ _).mono ?_; rintro e w' ⟨rfl, rfl⟩))
    go_ret
    first | exact ⟨rfl, HXX.out⟩ | (refine ⟨ret_int ?_, HXX.out⟩; rw [beq_eq_false_iff_ne] at h1 h2 h3 h4 h5 h6 h7 h13 h9 h10 h12 h0 h8 h11; simp [doesK, h1, h2, h3, h4, h5, h6, h7, h13, h9, h10, h12, h0, h8, h11]; done) | (refine ⟨ret_int ?_, HXX.out⟩; simp [doesK]; done)
end
end Go.Proofs.YtionlicgaifblaaDoor
