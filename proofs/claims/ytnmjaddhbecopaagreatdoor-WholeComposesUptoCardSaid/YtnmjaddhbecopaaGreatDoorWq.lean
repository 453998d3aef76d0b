/- Vouchers: what is added for a rule: the program's side: contracts. -/
import Derived.Test.YtnmjaddhbecopaaGreatDoorGr
import Derived.Test.YtnmjaddhbecopaaGreatDoorZx4
import Derived.Test.YtnmjaddhbecopaaGreatDoorZx11
import Derived.Test.YtnmjaddhbecopaaGreatDoorZx12
namespace Go.Att
open Go.RowKit
/-- What is known while rules are added up: the boxes of what is captured. -/
structure AtB (w0 w : World) (q8 qb qd qs qp b : Nat) (x y a : Int) (d : Nat → Int) (s pw : Int) : Prop where
  ext : Ext w0 w
  c8 : w.cell? ⟨q8, 0, none⟩ = some (.pointer (some ⟨b, 0, none⟩))
  bx : w.cell? ⟨qb, 0, none⟩ = some (.int .i64 x)
  by_ : w.cell? ⟨qb, 1, none⟩ = some (.int .i64 y)
  ba : w.cell? ⟨qb, 2, none⟩ = some (.int .i64 a)
  dv : ∀ k, k < 4 → w.cell? ⟨qd, k, none⟩ = some (.int .i64 (d k))
  cs : w.cell? ⟨qs, 0, none⟩ = some (.int .i64 s)
  fs : w.frozen? ⟨qs, 0, none⟩ = false
  cp : w.cell? ⟨qp, 0, none⟩ = some (.int .i64 pw)
  fp : w.frozen? ⟨qp, 0, none⟩ = false
/-- The boxes lie apart. -/
structure AtD (w0 : World) (q8 qb qd qs qp : Nat) : Prop where
  s8 : qs ≠ q8
  sb : qs ≠ qb
  sd : qs ≠ qd
  sp : qs ≠ qp
  p8 : qp ≠ q8
  pb : qp ≠ qb
  pd : qp ≠ qd
  ls : w0.heap.size ≤ qs
  lp : w0.heap.size ≤ qp
theorem four_any {w W : World} (hx : Ext w W) (a b c d : Value) : Ext w ((((W.setCell ⟨w.heap.size, 0, none⟩ a).setCell ⟨w.heap.size, 1, none⟩ b).setCell ⟨w.heap.size, 2, none⟩ c).setCell ⟨w.heap.size, 3, none⟩ d) :=
  Below.setCell (Below.setCell (Below.setCell (Below.setCell hx (Nat.le_refl _) _) (Nat.le_refl _) _) (Nat.le_refl _) _) (Nat.le_refl _) _
theorem at_join {W3 WW : World} {t : TypeId} {z0 z1 z2 z3 a b c d : Value} {Q : World → Prop} (hx : Ext W3 WW) (hb : BlkOf WW W3.heap.size [z0, z1, z2, z3] t) (h : ∀ W', Ext W3 W' → BlkOf W' W3.heap.size [a, b, c, d] t → Q W') : Q ((((WW.setCell ⟨W3.heap.size, 0, none⟩ a).setCell ⟨W3.heap.size, 1, none⟩ b).setCell ⟨W3.heap.size, 2, none⟩ c).setCell ⟨W3.heap.size, 3, none⟩ d) :=
  h _ (four_any hx a b c d) ((((hb.set 0 a).set 1 b).set 2 c).set 3 d)
section
variable {w0 w w' : World} {q8 qb qd qs qp b : Nat} {x y a : Int} {d : Nat → Int} {s pw : Int}
theorem AtB.more (h : AtB w0 w q8 qb qd qs qp b x y a d s pw) (hx : Ext w w') : AtB w0 w' q8 qb qd qs qp b x y a d s pw :=
  ⟨h.ext.trans hx, hx.cell h.c8, hx.cell h.bx, hx.cell h.by_, hx.cell h.ba, fun k hk => hx.cell (h.dv k hk), hx.cell h.cs, by rw [World.frozen?_of_block (hx.below.block qs (World.block_lt_of_cell? w _ h.cs))]; exact h.fs, hx.cell h.cp, by rw [World.frozen?_of_block (hx.below.block qp (World.block_lt_of_cell? w _ h.cp))]; exact h.fp⟩
/-- A block that is none of them was written. -/
theorem AtB.beside (h : AtB w0 w q8 qb qd qs qp b x y a d s pw) {q k : Nat} {v : Value} (hl : w0.heap.size ≤ q) (h8 : q ≠ q8) (hb : q ≠ qb) (hd : q ≠ qd) (hs : q ≠ qs) (hp : q ≠ qp) : AtB w0 (w.setCell ⟨q, k, none⟩ v) q8 qb qd qs qp b x y a d s pw :=
  ⟨Below.setCell h.ext hl v, by rw [World.cell?_setCell_other _ _ _ _ (by simp; try omega)]; exact h.c8, by rw [World.cell?_setCell_other _ _ _ _ (by simp; try omega)]; exact h.bx, by rw [World.cell?_setCell_other _ _ _ _ (by simp; try omega)]; exact h.by_, by rw [World.cell?_setCell_other _ _ _ _ (by simp; try omega)]; exact h.ba,
    fun k' hk => by rw [World.cell?_setCell_other _ _ _ _ (by simp; try omega)]; exact h.dv k' hk, by rw [World.cell?_setCell_other _ _ _ _ (by simp; try omega)]; exact h.cs, by rw [World.frozen?_setCell]; exact h.fs, by rw [World.cell?_setCell_other _ _ _ _ (by simp; try omega)]; exact h.cp, by rw [World.frozen?_setCell]; exact h.fp⟩
theorem AtB.setS (h : AtB w0 w q8 qb qd qs qp b x y a d s pw) (D : AtD w0 q8 qb qd qs qp) (s' : Int) : AtB w0 (w.setCell ⟨qs, 0, none⟩ (.int .i64 s')) q8 qb qd qs qp b x y a d s' pw := by
  have := D.s8; have := D.sb; have := D.sd; have := D.sp
  exact ⟨Below.setCell h.ext D.ls _, by rw [World.cell?_setCell_other _ _ _ _ (by simp; try omega)]; exact h.c8, by rw [World.cell?_setCell_other _ _ _ _ (by simp; try omega)]; exact h.bx, by rw [World.cell?_setCell_other _ _ _ _ (by simp; try omega)]; exact h.by_, by rw [World.cell?_setCell_other _ _ _ _ (by simp; try omega)]; exact h.ba,
    fun k' hk => by rw [World.cell?_setCell_other _ _ _ _ (by simp; try omega)]; exact h.dv k' hk, World.cell?_setCell_same _ _ _ h.cs, by rw [World.frozen?_setCell]; exact h.fs, by rw [World.cell?_setCell_other _ _ _ _ (by simp; try omega)]; exact h.cp, by rw [World.frozen?_setCell]; exact h.fp⟩
theorem AtB.setP (h : AtB w0 w q8 qb qd qs qp b x y a d s pw) (D : AtD w0 q8 qb qd qs qp) (p' : Int) : AtB w0 (w.setCell ⟨qp, 0, none⟩ (.int .i64 p')) q8 qb qd qs qp b x y a d s p' := by
  have := D.p8; have := D.pb; have := D.pd; have := D.sp
  exact ⟨Below.setCell h.ext D.lp _, by rw [World.cell?_setCell_other _ _ _ _ (by simp; try omega)]; exact h.c8, by rw [World.cell?_setCell_other _ _ _ _ (by simp; try omega)]; exact h.bx, by rw [World.cell?_setCell_other _ _ _ _ (by simp; try omega)]; exact h.by_, by rw [World.cell?_setCell_other _ _ _ _ (by simp; try omega)]; exact h.ba,
    fun k' hk => by rw [World.cell?_setCell_other _ _ _ _ (by simp; try omega)]; exact h.dv k' hk, by rw [World.cell?_setCell_other _ _ _ _ (by simp; try omega)]; exact h.cs, by rw [World.frozen?_setCell]; exact h.fs, World.cell?_setCell_same _ _ _ h.cp, by rw [World.frozen?_setCell]; exact h.fp⟩
end
end Go.Att
namespace Go.Proofs.YtnmjaddhbecopaaGreatDoor
open Go.RowKit Go.Att
theorem ptr4a (sb : Nat) (w : World) : (Instr.indexAt 278 (.pointer (some ⟨sb, 0, none⟩)) (.int .i64 0)).run Tryz.prog w = .ok (.pointer (some ⟨sb, 0, none⟩)) w := by kernel_rfl
theorem ptr4b (sb : Nat) (w : World) : (Instr.indexAt 278 (.pointer (some ⟨sb, 0, none⟩)) (.int .i64 1)).run Tryz.prog w = .ok (.pointer (some ⟨sb, 1, none⟩)) w := by kernel_rfl
theorem ptr4c (sb : Nat) (w : World) : (Instr.indexAt 278 (.pointer (some ⟨sb, 0, none⟩)) (.int .i64 2)).run Tryz.prog w = .ok (.pointer (some ⟨sb, 2, none⟩)) w := by kernel_rfl
theorem ptr4d (sb : Nat) (w : World) : (Instr.indexAt 278 (.pointer (some ⟨sb, 0, none⟩)) (.int .i64 3)).run Tryz.prog w = .ok (.pointer (some ⟨sb, 3, none⟩)) w := by kernel_rfl
theorem ptr4 (sb : Nat) (j : Nat) (hj : j < 4) (w : World) : (Instr.indexAt 278 (.pointer (some ⟨sb, 0, none⟩)) (.int .i64 (j : Int))).run Tryz.prog w = .ok (.pointer (some ⟨sb, j, none⟩)) w := by
  have h3 : j = 0 ∨ j = 1 ∨ j = 2 ∨ j = 3 := by omega
  rcases h3 with rfl | rfl | rfl | rfl
  · exact ptr4a _ w
  · exact ptr4b _ w
  · exact ptr4c _ w
  · exact ptr4d _ w
section
variable {w0 w w' : World} {q8 qb qd qs qp b bf : Nat} {p g x y a : Int} {fs : List Int} {d : Nat → Int} {s pw : Int}
theorem divA_q {f : Value} (hf : Fld w f p g fs) (a b : Int) (m : Nat) : Calls Tryz.prog 214 #[f, .int .i64 a, .int .i64 b] (w.drewN m) fun e w'' => e = .returned (.int .i64 (fdiv p a b)) ∧ ∃ m, w'' = w.drewN m := Calls.quiet_of (divA_any (hf.drewN m) a b)
set_option maxRecDepth 100000 in
set_option maxHeartbeats 4000000 in
theorem atadd_any (h : AtB w0 w q8 qb qd qs qp b x y a d s pw) (D : AtD w0 q8 qb qd qs qp) (hb : w0.cell? ⟨b, 0, none⟩ = some (.pointer (some ⟨bf, 0, none⟩))) (hf : Fld w0 (.pointer (some ⟨bf, 0, none⟩)) p g fs) (is : Int) (k : Nat) (hk : k < 4) :
    Calls Tryz.prog 215 #[.int .i64 is, .int .i64 k, .pointer (some ⟨q8, 0, none⟩), .pointer (some ⟨qs, 0, none⟩), .pointer (some ⟨qp, 0, none⟩), .pointer (some ⟨qd, 0, none⟩), .pointer (some ⟨qb, 0, none⟩)] w fun e w' => e = .returned (.tuple #[]) ∧
      ∃ m1 m2, w' = (((w.drewN m1).setCell ⟨qs, 0, none⟩ (.int .i64 (fadd p s (fmul p pw (fdiv p is (d k)))))).drewN m2).setCell ⟨qp, 0, none⟩ (.int .i64 (fmul p pw a)) := by
  have H := Lib.hid h; have HD := Lib.hid D; have HF := Lib.hid hf; have HB := Lib.hid hb
  have c8 := h.c8; have cs := h.cs; have fs1 := h.fs; have cp := h.cp; have cd := h.dv k hk; have cb := h.ext.cell hb
  have hpt := ptr4 qd k hk
  clear h D hf hb
  go_enter Tryz.func215, Tryz.ntmps215
  go_wp2_with fail
  refine wp_region_quiet_tail 21 (by kernel_rfl) (by kernel_rfl) ?_
  simp only [List.take_succ_cons, List.take_zero, List.drop_succ_cons, List.drop_zero]
  repeat (go_big_quiet_step (first | (go_at_call 214; exact divA_q (HF.out.ext H.out.ext) _ _ _) | (go_at_call 123; exact mul_q (HF.out.ext H.out.ext) _ _ _) | (go_at_call 122; exact add_q (HF.out.ext H.out.ext) _ _ _)))
  refine wpQuiet_nil ?_
  rintro _ ⟨m1, rfl⟩
  go_wp2_with fail
  generalize hs' : fadd p s (fmul p pw (fdiv p is (d k))) = s' at *
  have H1 := Lib.hid ((H.out.more (Ext.drewN w m1)).setS HD.out s')
  generalize hW1 : (w.drewN m1).setCell ⟨qs, 0, none⟩ (.int .i64 s') = W1 at *
  have HW1 := Lib.hid hW1; have HS1 := Lib.hid hs'
  clear hW1 hs' cs fs1 cd hpt
  have d8 := H1.out.c8; have dp := H1.out.cp; have fp1 := H1.out.fp; have da := H1.out.ba; have db := H1.out.ext.cell HB.out
  clear c8 cp cb
  refine wp_region_quiet_tail 8 (by kernel_rfl) (by kernel_rfl) ?_
  simp only [List.take_succ_cons, List.take_zero, List.drop_succ_cons, List.drop_zero]
  repeat (go_big_quiet_step (first | (go_at_call 123; exact mul_q (HF.out.ext H1.out.ext) _ _ _)))
  refine wpQuiet_nil ?_
  rintro _ ⟨m2, rfl⟩
  go_wp2_with fail
  go_end0
  exact ⟨rfl, m1, m2, by rw [HS1.out, HW1.out]⟩
theorem atadd0_any (h : AtB w0 w q8 qb qd qs qp b x y a d s pw) (D : AtD w0 q8 qb qd qs qp) (hb : w0.cell? ⟨b, 0, none⟩ = some (.pointer (some ⟨bf, 0, none⟩))) (hf : Fld w0 (.pointer (some ⟨bf, 0, none⟩)) p g fs) (is : Int) :
    Calls Tryz.prog 215 #[.int .i64 is, .int .i64 0, .pointer (some ⟨q8, 0, none⟩), .pointer (some ⟨qs, 0, none⟩), .pointer (some ⟨qp, 0, none⟩), .pointer (some ⟨qd, 0, none⟩), .pointer (some ⟨qb, 0, none⟩)] w fun e w' => e = .returned (.tuple #[]) ∧
      ∃ m1 m2, w' = (((w.drewN m1).setCell ⟨qs, 0, none⟩ (.int .i64 (fadd p s (fmul p pw (fdiv p is (d 0)))))).drewN m2).setCell ⟨qp, 0, none⟩ (.int .i64 (fmul p pw a)) := atadd_any h D hb hf is 0 (by omega)
theorem atadd2_any (h : AtB w0 w q8 qb qd qs qp b x y a d s pw) (D : AtD w0 q8 qb qd qs qp) (hb : w0.cell? ⟨b, 0, none⟩ = some (.pointer (some ⟨bf, 0, none⟩))) (hf : Fld w0 (.pointer (some ⟨bf, 0, none⟩)) p g fs) (is : Int) :
    Calls Tryz.prog 215 #[.int .i64 is, .int .i64 2, .pointer (some ⟨q8, 0, none⟩), .pointer (some ⟨qs, 0, none⟩), .pointer (some ⟨qp, 0, none⟩), .pointer (some ⟨qd, 0, none⟩), .pointer (some ⟨qb, 0, none⟩)] w fun e w' => e = .returned (.tuple #[]) ∧
      ∃ m1 m2, w' = (((w.drewN m1).setCell ⟨qs, 0, none⟩ (.int .i64 (fadd p s (fmul p pw (fdiv p is (d 2)))))).drewN m2).setCell ⟨qp, 0, none⟩ (.int .i64 (fmul p pw a)) := atadd_any h D hb hf is 2 (by omega)
end
end Go.Proofs.YtnmjaddhbecopaaGreatDoor
