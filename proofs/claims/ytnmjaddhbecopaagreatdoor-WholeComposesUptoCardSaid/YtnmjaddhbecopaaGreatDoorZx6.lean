/- RulesBroken: the document's side: what is summed up of an instruction. RulesBroken: the document's side: a sum over all instructions; the order of two pairs. RulesBroken: the document's side: the rules of the first and the last row. RulesBroken: the document's side: a rule: those of the instructions' own columns. RulesBroken: the document's side: a rule: the fifth behind the instructions' (the pattern for its like). RulesBroken: the document's side: a rule: the sixth, and those of the first and the last row. RulesBroken: the document's side: a rule: the sum of all s; the number of the next one. -/
import Derived.Test.YtnmjaddhbecopaaGreatDoorZx7
import Derived.BigQuiet
section
namespace Go.Att
/-- What is summed up of an instruction, for a kind of rule. -/
def ofD (p : Int) (r : List Int) (kind : Nat) (k : Nat) (x : In4) : Int :=
  if kind < 3 then cellD p r kind k x else if kind = 3 then doesK p r k x else if kind = 4 then moreK p r k x else if kind = 5 then goesD p r k x
  else if kind < 9 then Go.Proofs.YtnmjaddhbecopaaGreatDoor.regK p r (kind - 6) k x else haltK k x
end Go.Att
namespace Go.Proofs.YtnmjaddhbecopaaGreatDoor
open Go.RowKit Go.Att
section
variable {w : World} {q : Nat} {p sz out : Int} {cd : List In4} {lv rv nv : Value} {r n : List Int}
set_option maxRecDepth 100000 in
set_option maxHeartbeats 4000000 in
theorem wof_any (h : WAt w q p sz out cd lv rv nv r n) (k : Nat) (hk : k < cd.length) (hs : cd.length ≤ 1048576) (g : Nat) (gi : Int) (hg : (g = 0 ∧ gi = 0) ∨ (g = 1 ∧ gi = 1) ∨ (g = 2 ∧ gi = 2) ∨ (g = 3 ∧ gi = 3) ∨ (g = 4 ∧ gi = 4) ∨ (g = 5 ∧ gi = 5) ∨ (g = 6 ∧ gi = 6) ∨ (g = 7 ∧ gi = 7) ∨ (g = 8 ∧ gi = 8) ∨ (g = 9 ∧ gi = 9)) : Calls Tryz.prog 271 #[.pointer (some ⟨q, 0, none⟩), .int .i64 gi, .int .i64 k] w fun e w' => e = .returned (.int .i64 (ofD p r g k (nthI cd k))) ∧ Ext w w' := by
  have hix := h.code.run_index (P := Tryz.prog) slIns k hk
  have e0 := h.code.c0 k hk
  have e1 := h.code.c1 k hk
  have e2 := h.code.c2 k hk
  have e3 := h.code.c3 k hk
  have c2 := h.c2
  generalize hxk : nthI cd k = x at *
  obtain ⟨op, a, b, c⟩ := x
  have hx := Ext.alloc w (Obj.cells #[.int .i64 op, .int .i64 a, .int .i64 b, .int .i64 c] 169)
  have H := h.ext hx
  have C4 := walso_any H k hk hs
  have C5 := wnext_any H k hk hs
  rw [hxk] at C4 C5
  have HH := Lib.hid H
  have HXX := Lib.hid hx
  clear h H hx hxk
  rcases hg with ⟨rfl, rfl⟩ | ⟨rfl, rfl⟩ | ⟨rfl, rfl⟩ | ⟨rfl, rfl⟩ | ⟨rfl, rfl⟩ | ⟨rfl, rfl⟩ | ⟨rfl, rfl⟩ | ⟨rfl, rfl⟩ | ⟨rfl, rfl⟩ | ⟨rfl, rfl⟩
  · go_enter Tryz.func271, Tryz.ntmps271
    go_wp2_with fail
    refine (wcell_any HH.out k ⟨op, a, b, c⟩ 0 0 (by simp)).mono ?_
    rintro e w1 ⟨rfl, hx1⟩
    clear C4 C5
    go_wp2_with fail
    go_ret
    exact ⟨rfl, HXX.out.trans hx1⟩
  · go_enter Tryz.func271, Tryz.ntmps271
    go_wp2_with fail
    refine (wcell_any HH.out k ⟨op, a, b, c⟩ 1 1 (by simp)).mono ?_
    rintro e w1 ⟨rfl, hx1⟩
    clear C4 C5
    go_wp2_with fail
    go_ret
    exact ⟨rfl, HXX.out.trans hx1⟩
  · go_enter Tryz.func271, Tryz.ntmps271
    go_wp2_with fail
    refine (wcell_any HH.out k ⟨op, a, b, c⟩ 2 2 (by simp)).mono ?_
    rintro e w1 ⟨rfl, hx1⟩
    clear C4 C5
    go_wp2_with fail
    go_ret
    exact ⟨rfl, HXX.out.trans hx1⟩
  · go_enter Tryz.func271, Tryz.ntmps271
    go_wp2_with fail
    refine (wdoes_any HH.out k ⟨op, a, b, c⟩).mono ?_
    rintro e w1 ⟨rfl, hx1⟩
    clear C4 C5
    go_wp2_with fail
    go_ret
    exact ⟨rfl, HXX.out.trans hx1⟩
  · go_enter Tryz.func271, Tryz.ntmps271
    go_wp2_with fail
    refine (C4).mono ?_
    rintro e w1 ⟨rfl, hx1⟩
    clear C4 C5
    go_wp2_with fail
    go_ret
    exact ⟨rfl, HXX.out.trans hx1⟩
  · go_enter Tryz.func271, Tryz.ntmps271
    go_wp2_with fail
    refine (C5).mono ?_
    rintro e w1 ⟨rfl, hx1⟩
    clear C4 C5
    go_wp2_with fail
    go_ret
    exact ⟨rfl, HXX.out.trans hx1⟩
  · go_enter Tryz.func271, Tryz.ntmps271
    go_wp2_with fail
    refine (wreg_any HH.out k ⟨op, a, b, c⟩ 0 0 (by simp)).mono ?_
    rintro e w1 ⟨rfl, hx1⟩
    clear C4 C5
    go_wp2_with fail
    go_ret
    exact ⟨rfl, HXX.out.trans hx1⟩
  · go_enter Tryz.func271, Tryz.ntmps271
    go_wp2_with fail
    refine (wreg_any HH.out k ⟨op, a, b, c⟩ 1 1 (by simp)).mono ?_
    rintro e w1 ⟨rfl, hx1⟩
    clear C4 C5
    go_wp2_with fail
    go_ret
    exact ⟨rfl, HXX.out.trans hx1⟩
  · go_enter Tryz.func271, Tryz.ntmps271
    go_wp2_with fail
    refine (wreg_any HH.out k ⟨op, a, b, c⟩ 2 2 (by simp)).mono ?_
    rintro e w1 ⟨rfl, hx1⟩
    clear C4 C5
    go_wp2_with fail
    go_ret
    exact ⟨rfl, HXX.out.trans hx1⟩
  · clear C4 C5
    by_cases h0 : op = 0
    · subst h0
      go_enter Tryz.func271, Tryz.ntmps271
      go_wp2_with fail
      go_ret
      exact ⟨rfl, HXX.out⟩
    · have hb : (op == 0) = false := beq_eq_false_iff_ne.2 h0
      have HN := Lib.hid (show haltK k ⟨op, a, b, c⟩ = 0 from if_neg h0)
      clear h0
      go_enter Tryz.func271, Tryz.ntmps271
      go_wp2_with fail
      go_ret
      exact ⟨ret_int HN.out.symm, HXX.out⟩
end
end Go.Proofs.YtnmjaddhbecopaaGreatDoor
end
section
namespace Go.Proofs.YtnmjaddhbecopaaGreatDoor
open Go.RowKit Go.Att
section
variable {w : World} {q : Nat} {p sz out : Int} {cd : List In4} {lv rv nv : Value} {r n : List Int}
set_option maxRecDepth 100000 in
set_option maxHeartbeats 4000000 in
theorem wsum_any (h : WAt w q p sz out cd lv rv nv r n) (hs : cd.length ≤ 1048576) (g : Nat) (gi : Int) (hg : (g = 0 ∧ gi = 0) ∨ (g = 1 ∧ gi = 1) ∨ (g = 2 ∧ gi = 2) ∨ (g = 3 ∧ gi = 3) ∨ (g = 4 ∧ gi = 4) ∨ (g = 5 ∧ gi = 5) ∨ (g = 6 ∧ gi = 6) ∨ (g = 7 ∧ gi = 7) ∨ (g = 8 ∧ gi = 8) ∨ (g = 9 ∧ gi = 9)) : Calls Tryz.prog 225 #[.pointer (some ⟨q, 0, none⟩), .int .i64 gi] w fun e w' => e = .returned (.int .i64 (sumD p r cd (ofD p r g) cd.length)) ∧ Ext w w' := by
  have hll := h.code.run_len (P := Tryz.prog) slIns
  have hlr := h.lr
  have HB := Lib.hid h; have HG := Lib.hid hg
  clear h hg
  go_enter Tryz.func225, Tryz.ntmps225
  go_wp2_with fail
  go_loopw [5, 6] (fun x5 x6 wr => ∃ i : Nat, i ≤ cd.length ∧ x6 = .int .i64 i ∧ x5 = .int .i64 (sumD p r cd (ofD p r g) i) ∧ Hid (Ext w wr)) (fun _ x6 _ => cd.length - (intOf x6).toNat)
  case atStart => exact ⟨0, Nat.zero_le _, rfl, rfl, Lib.hid (Ext.refl _)⟩
  case round =>
    obtain ⟨i, hi, rfl, rfl, HX⟩ := hrel
    have HW := Lib.hid (HB.out.ext HX.out)
    have c2 := HW.out.c2
    by_cases hil : i < cd.length
    · have C := wof_any HW.out i hil hs g gi HG.out
      have HS := Lib.hid (show sumD p r cd (ofD p r g) (i + 1) = fadd p (sumD p r cd (ofD p r g) i) (fmul p (ofD p r g i (nthI cd i)) (nth r (20 + i))) from rfl)
      generalize ofD p r g i (nthI cd i) = y at *
      generalize sumD p r cd (ofD p r g) i = s at *
      have hix : ∀ w', (Instr.indexAt 23 rv (.int .i64 (20 + (i : Int)))).run Tryz.prog w' = .ok (.pointer (some (elt rv (20 + i) 1))) w' := by
        intro w'
        have := HB.out.row.run_index (P := Tryz.prog) slInts (20 + i) (by omega) w'
        simpa using this
      go_wp2_with fail
      refine C.mono ?_
      rintro e w1 ⟨rfl, hx1⟩
      have HW1 := Lib.hid (HW.out.ext hx1)
      have HX1 := Lib.hid (HX.out.trans hx1)
      have c4 := HW1.out.c4
      have d := HW1.out.row.cell (20 + i) (by omega)
      clear C hx1 c2
      go_wp2_with (first | (go_at_call 222; refine (wmul_any HW1.out _ _).mono ?_; rintro e w' ⟨rfl, rfl⟩) | (go_at_call 224; refine (wadd_any HW1.out _ _).mono ?_; rintro e w' ⟨rfl, rfl⟩))
      go_roundw
      case rel => exact ⟨i + 1, by omega, by go_num, by rw [HS.out], HX1⟩
      case measure => simp [intOf]; omega
    · obtain rfl : i = cd.length := by omega
      go_wp2_with fail
      go_ret
      exact ⟨rfl, HX.out⟩
set_option maxRecDepth 100000 in
set_option maxHeartbeats 4000000 in
theorem word_any (h : WAt w q p sz out cd lv rv nv r n) (a v b u : Int) (t : Bool) : Calls Tryz.prog 226 #[.pointer (some ⟨q, 0, none⟩), .int .i64 a, .int .i64 v, .int .i64 b, .int .i64 u, .bool t] w fun e w' => e = .returned (.int .i64 (ordD p a v b u t)) ∧ w = w' := by
  have HB := Lib.hid h
  clear h
  cases t
  all_goals
    go_enter Tryz.func226, Tryz.ntmps226
    go_wp2_with (first | (go_at_call 223; refine (wsub_any HB.out _ _).mono ?_; rintro e w' ⟨rfl, rfl⟩) | (go_at_call 222; refine (wmul_any HB.out _ _).mono ?_; rintro e w' ⟨rfl, rfl⟩))
    go_ret
    exact ⟨rfl, rfl⟩
end
end Go.Proofs.YtnmjaddhbecopaaGreatDoor
end
section
namespace Go.Proofs.YtnmjaddhbecopaaGreatDoor
open Go.RowKit Go.Att
section
variable {w : World} {q : Nat} {p sz out : Int} {cd : List In4} {lv rv nv : Value} {r n : List Int}
theorem rof_q3 (p n : Int) (w : World) (m : Nat) (hp : 2 ≤ p) (hp2 : p ≤ 2147483647) : Calls Tryz.prog 47 #[.int .i64 p, .int .i64 n] (w.drewN m) fun e w' => e = .returned (.int .i64 (fof p n)) ∧ ∃ k, w' = w.drewN k := (rof_any p n _ hp hp2).mono fun _ _ h => ⟨h.1, m, h.2.symm⟩
set_option maxRecDepth 100000 in
set_option maxHeartbeats 4000000 in
theorem wedge_any (h : WAt w q p sz out cd lv rv nv r n) (hs : cd.length ≤ 1048576) (hl : 1 ≤ cd.length) (i : Nat) (ii : Int) (hi : (i = 18 ∧ ii = 18) ∨ (i = 19 ∧ ii = 19) ∨ (i = 20 ∧ ii = 20) ∨ (i = 21 ∧ ii = 21) ∨ (i = 22 ∧ ii = 22) ∨ (i = 23 ∧ ii = 23) ∨ (i = 24 ∧ ii = 24) ∨ (i = 25 ∧ ii = 25)) : Calls Tryz.prog 227 #[.pointer (some ⟨q, 0, none⟩), .int .i64 ii] w fun e w' => e = .returned (.int .i64 (tailD p sz out cd r n i)) ∧ Ext w w' := by
  have hp := h.two
  have hp2 := h.hi
  have C9 := wsum_any h hs 9 9 (by simp)
  rw [show ofD p r 9 = haltK from by funext k x; simp [ofD]] at C9
  have f0 : ∀ w', (Instr.indexAt 23 rv (.int .i64 0)).run Tryz.prog w' = .ok (.pointer (some (elt rv 0 1))) w' := h.row.run_index slInts 0 (by have := h.lr; omega)
  have d0 := h.row.cell 0 (by have := h.lr; omega)
  have f1 : ∀ w', (Instr.indexAt 23 rv (.int .i64 1)).run Tryz.prog w' = .ok (.pointer (some (elt rv 1 1))) w' := h.row.run_index slInts 1 (by have := h.lr; omega)
  have d1 := h.row.cell 1 (by have := h.lr; omega)
  have f2 : ∀ w', (Instr.indexAt 23 rv (.int .i64 2)).run Tryz.prog w' = .ok (.pointer (some (elt rv 2 1))) w' := h.row.run_index slInts 2 (by have := h.lr; omega)
  have d2 := h.row.cell 2 (by have := h.lr; omega)
  have f7 : ∀ w', (Instr.indexAt 23 rv (.int .i64 7)).run Tryz.prog w' = .ok (.pointer (some (elt rv 7 1))) w' := h.row.run_index slInts 7 (by have := h.lr; omega)
  have d7 := h.row.cell 7 (by have := h.lr; omega)
  have f12 : ∀ w', (Instr.indexAt 23 rv (.int .i64 12)).run Tryz.prog w' = .ok (.pointer (some (elt rv 12 1))) w' := h.row.run_index slInts 12 (by have := h.lr; omega)
  have d12 := h.row.cell 12 (by have := h.lr; omega)
  have f16 : ∀ w', (Instr.indexAt 23 rv (.int .i64 16)).run Tryz.prog w' = .ok (.pointer (some (elt rv 16 1))) w' := h.row.run_index slInts 16 (by have := h.lr; omega)
  have d16 := h.row.cell 16 (by have := h.lr; omega)
  have f20 : ∀ w', (Instr.indexAt 23 rv (.int .i64 20)).run Tryz.prog w' = .ok (.pointer (some (elt rv 20 1))) w' := h.row.run_index slInts 20 (by have := h.lr; omega)
  have d20 := h.row.cell 20 (by have := h.lr; omega)
  have c0 := h.c0
  have c1 := h.c1
  have c3 := h.c3
  have c4 := h.c4
  have HH := Lib.hid h
  clear h hl
  rcases hi with ⟨rfl, rfl⟩ | ⟨rfl, rfl⟩ | ⟨rfl, rfl⟩ | ⟨rfl, rfl⟩ | ⟨rfl, rfl⟩ | ⟨rfl, rfl⟩ | ⟨rfl, rfl⟩ | ⟨rfl, rfl⟩
  · clear C9
    go_enter Tryz.func227, Tryz.ntmps227
    go_wp2_with (go_at_call 223; refine (wsub_any HH.out _ _).mono ?_; rintro e w' ⟨rfl, rfl⟩)
    go_ret
    exact ⟨rfl, Ext.refl _⟩
  · clear C9
    go_enter Tryz.func227, Tryz.ntmps227
    go_wp2_with (go_at_call 223; refine (wsub_any HH.out _ _).mono ?_; rintro e w' ⟨rfl, rfl⟩)
    go_ret
    exact ⟨rfl, Ext.refl _⟩
  · clear C9
    go_enter Tryz.func227, Tryz.ntmps227
    go_wp2_with (go_at_call 223; refine (wsub_any HH.out _ _).mono ?_; rintro e w' ⟨rfl, rfl⟩)
    go_ret
    exact ⟨rfl, Ext.refl _⟩
  · clear C9
    go_enter Tryz.func227, Tryz.ntmps227
    go_wp2_with fail
    go_quiet ((go_at_call 47; exact rof_q3 _ _ _ _ hp hp2))
    go_wp2_with fail
    go_ret
    exact ⟨rfl, Ext.drewN _ _⟩
  · clear C9
    go_enter Tryz.func227, Tryz.ntmps227
    go_wp2_with fail
    go_quiet ((go_at_call 47; exact rof_q3 _ _ _ _ hp hp2))
    go_wp2_with fail
    go_ret
    exact ⟨rfl, Ext.drewN _ _⟩
  · clear C9
    go_enter Tryz.func227, Tryz.ntmps227
    go_wp2_with fail
    go_quiet ((go_at_call 47; exact rof_q3 _ _ _ _ hp hp2))
    go_wp2_with fail
    go_ret
    exact ⟨rfl, Ext.drewN _ _⟩
  · go_enter Tryz.func227, Tryz.ntmps227
    go_wp2_with fail
    refine C9.mono ?_
    rintro e w1 ⟨rfl, hx1⟩
    have H1 := Lib.hid (HH.out.ext hx1)
    go_wp2_with (go_at_call 223; refine (wsub_any H1.out _ _).mono ?_; rintro e w' ⟨rfl, rfl⟩)
    go_ret
    exact ⟨rfl, hx1⟩
  · clear C9
    go_enter Tryz.func227, Tryz.ntmps227
    go_wp2_with fail
    go_quiet ((go_at_call 223; exact wsub_q HH.out _ _ _))
    go_wp2_with fail
    go_ret
    exact ⟨rfl, Ext.drewN _ _⟩
end
end Go.Proofs.YtnmjaddhbecopaaGreatDoor
end
section
namespace Go.Proofs.YtnmjaddhbecopaaGreatDoor
open Go.RowKit Go.Att
section
variable {w : World} {q : Nat} {p sz out : Int} {cd : List In4} {lv rv nv : Value} {r n : List Int}
set_option maxRecDepth 100000 in
set_option maxHeartbeats 4000000 in
theorem wrule_lo (h : WAt w q p sz out cd lv rv nv r n) (hs : cd.length ≤ 1048576) (i : Nat) (hi : i < cd.length) : Calls Tryz.prog 152 #[.pointer (some ⟨q, 0, none⟩), .int .i64 i] w fun e w' => e = .returned (.int .i64 (ruleD p sz out cd r n i)) ∧ Ext w w' := by
  have hll := h.code.run_len (P := Tryz.prog) slIns
  have hix : ∀ w', (Instr.indexAt 23 rv (.int .i64 (20 + (i : Int)))).run Tryz.prog w' = .ok (.pointer (some (elt rv (20 + i) 1))) w' := by
    intro w'
    have := h.row.run_index (P := Tryz.prog) slInts (20 + i) (by have := h.lr; omega) w'
    simpa using this
  have d := h.row.cell (20 + i) (by have := h.lr; omega)
  have c2 := h.c2
  have c4 := h.c4
  have HR := Lib.hid (show ruleD p sz out cd r n i = fsub p (fmul p (nth r (20 + i)) (nth r (20 + i))) (nth r (20 + i)) from if_pos hi)
  have HH := Lib.hid h
  clear h
  go_enter Tryz.func152, Tryz.ntmps152
  go_wp2_with (first | (go_at_call 223; refine (wsub_any HH.out _ _).mono ?_; rintro e w' ⟨rfl, rfl⟩) | (go_at_call 222; refine (wmul_any HH.out _ _).mono ?_; rintro e w' ⟨rfl, rfl⟩))
  go_ret
  exact ⟨ret_int HR.out.symm, Ext.refl _⟩
end
end Go.Proofs.YtnmjaddhbecopaaGreatDoor
end
section
namespace Go.Proofs.YtnmjaddhbecopaaGreatDoor
open Go.RowKit Go.Att
section
variable {w : World} {q : Nat} {p sz out : Int} {cd : List In4} {lv rv nv : Value} {r n : List Int}
set_option maxRecDepth 100000 in
set_option maxHeartbeats 4000000 in
theorem wrule_4 (h : WAt w q p sz out cd lv rv nv r n) (hs : cd.length ≤ 1048576) (x : Int) (hx : x = cd.length + 4) : Calls Tryz.prog 152 #[.pointer (some ⟨q, 0, none⟩), .int .i64 x] w fun e w' => e = .returned (.int .i64 (tailD p sz out cd r n 4)) ∧ Ext w w' := by
  have hll := h.code.run_len (P := Tryz.prog) slIns
  have c2 := h.c2
  have c4 := h.c4
  have HH := Lib.hid h
  have C := wsum_any h hs 3 3 (by simp)
  clear h
  have hy : x - (cd.length : Int) = 4 := by omega
  go_enter Tryz.func152, Tryz.ntmps152
  go_wp2_with fail
  rw [show (cd.length : Int) + 4 - cd.length - 1 = 3 by omega]
  refine C.mono ?_
  rintro e w1 ⟨rfl, hx1⟩
  go_wp2_with fail
  go_ret
  exact ⟨rfl, hx1⟩
end
end Go.Proofs.YtnmjaddhbecopaaGreatDoor
end
section
namespace Go.Proofs.YtnmjaddhbecopaaGreatDoor
open Go.RowKit Go.Att
section
variable {w : World} {q : Nat} {p sz out : Int} {cd : List In4} {lv rv nv : Value} {r n : List Int}
set_option maxRecDepth 100000 in
set_option maxHeartbeats 4000000 in
theorem wrule_5 (h : WAt w q p sz out cd lv rv nv r n) (hs : cd.length ≤ 1048576) (_hl : 1 ≤ cd.length) (x : Int) (hx : x = cd.length + 5) : Calls Tryz.prog 152 #[.pointer (some ⟨q, 0, none⟩), .int .i64 x] w fun e w' => e = .returned (.int .i64 (tailD p sz out cd r n 5)) ∧ Ext w w' := by
  have hll := h.code.run_len (P := Tryz.prog) slIns
  have c2 := h.c2
  have c4 := h.c4
  have C := wsum_any h hs 4 4 (by simp)
  clear h
  have hy : x - (cd.length : Int) = 5 := by omega
  go_enter Tryz.func152, Tryz.ntmps152
  go_wp2_with fail
  rw [show (cd.length : Int) + 5 - cd.length - 1 = 4 by omega]
  refine C.mono ?_
  rintro e w1 ⟨rfl, hx1⟩
  go_wp2_with fail
  go_ret
  exact ⟨rfl, hx1⟩
set_option maxRecDepth 100000 in
set_option maxHeartbeats 4000000 in
theorem wrule_18 (h : WAt w q p sz out cd lv rv nv r n) (hs : cd.length ≤ 1048576) (hl : 1 ≤ cd.length) (x : Int) (hx : x = cd.length + 18) : Calls Tryz.prog 152 #[.pointer (some ⟨q, 0, none⟩), .int .i64 x] w fun e w' => e = .returned (.int .i64 (tailD p sz out cd r n 18)) ∧ Ext w w' := by
  have hll := h.code.run_len (P := Tryz.prog) slIns
  have c2 := h.c2
  have c4 := h.c4
  have C := wedge_any h hs hl 18 18 (by simp)
  clear h
  have hy : x - (cd.length : Int) = 18 := by omega
  go_enter Tryz.func152, Tryz.ntmps152
  go_wp2_with fail
  rw [show (cd.length : Int) + 18 - cd.length = 18 by omega]
  refine C.mono ?_
  rintro e w1 ⟨rfl, hx1⟩
  go_wp2_with fail
  go_ret
  exact ⟨rfl, hx1⟩
set_option maxRecDepth 100000 in
set_option maxHeartbeats 4000000 in
theorem wrule_19 (h : WAt w q p sz out cd lv rv nv r n) (hs : cd.length ≤ 1048576) (hl : 1 ≤ cd.length) (x : Int) (hx : x = cd.length + 19) : Calls Tryz.prog 152 #[.pointer (some ⟨q, 0, none⟩), .int .i64 x] w fun e w' => e = .returned (.int .i64 (tailD p sz out cd r n 19)) ∧ Ext w w' := by
  have hll := h.code.run_len (P := Tryz.prog) slIns
  have c2 := h.c2
  have c4 := h.c4
  have C := wedge_any h hs hl 19 19 (by simp)
  clear h
  have hy : x - (cd.length : Int) = 19 := by omega
  go_enter Tryz.func152, Tryz.ntmps152
  go_wp2_with fail
  rw [show (cd.length : Int) + 19 - cd.length = 19 by omega]
  refine C.mono ?_
  rintro e w1 ⟨rfl, hx1⟩
  go_wp2_with fail
  go_ret
  exact ⟨rfl, hx1⟩
set_option maxRecDepth 100000 in
set_option maxHeartbeats 4000000 in
theorem wrule_20 (h : WAt w q p sz out cd lv rv nv r n) (hs : cd.length ≤ 1048576) (hl : 1 ≤ cd.length) (x : Int) (hx : x = cd.length + 20) : Calls Tryz.prog 152 #[.pointer (some ⟨q, 0, none⟩), .int .i64 x] w fun e w' => e = .returned (.int .i64 (tailD p sz out cd r n 20)) ∧ Ext w w' := by
  have hll := h.code.run_len (P := Tryz.prog) slIns
  have c2 := h.c2
  have c4 := h.c4
  have C := wedge_any h hs hl 20 20 (by simp)
  clear h
  have hy : x - (cd.length : Int) = 20 := by omega
  go_enter Tryz.func152, Tryz.ntmps152
  go_wp2_with fail
  rw [show (cd.length : Int) + 20 - cd.length = 20 by omega]
  refine C.mono ?_
  rintro e w1 ⟨rfl, hx1⟩
  go_wp2_with fail
  go_ret
  exact ⟨rfl, hx1⟩
set_option maxRecDepth 100000 in
set_option maxHeartbeats 4000000 in
theorem wrule_21 (h : WAt w q p sz out cd lv rv nv r n) (hs : cd.length ≤ 1048576) (hl : 1 ≤ cd.length) (x : Int) (hx : x = cd.length + 21) : Calls Tryz.prog 152 #[.pointer (some ⟨q, 0, none⟩), .int .i64 x] w fun e w' => e = .returned (.int .i64 (tailD p sz out cd r n 21)) ∧ Ext w w' := by
  have hll := h.code.run_len (P := Tryz.prog) slIns
  have c2 := h.c2
  have c4 := h.c4
  have C := wedge_any h hs hl 21 21 (by simp)
  clear h
  have hy : x - (cd.length : Int) = 21 := by omega
  go_enter Tryz.func152, Tryz.ntmps152
  go_wp2_with fail
  rw [show (cd.length : Int) + 21 - cd.length = 21 by omega]
  refine C.mono ?_
  rintro e w1 ⟨rfl, hx1⟩
  go_wp2_with fail
  go_ret
  exact ⟨rfl, hx1⟩
set_option maxRecDepth 100000 in
set_option maxHeartbeats 4000000 in
theorem wrule_22 (h : WAt w q p sz out cd lv rv nv r n) (hs : cd.length ≤ 1048576) (hl : 1 ≤ cd.length) (x : Int) (hx : x = cd.length + 22) : Calls Tryz.prog 152 #[.pointer (some ⟨q, 0, none⟩), .int .i64 x] w fun e w' => e = .returned (.int .i64 (tailD p sz out cd r n 22)) ∧ Ext w w' := by
  have hll := h.code.run_len (P := Tryz.prog) slIns
  have c2 := h.c2
  have c4 := h.c4
  have C := wedge_any h hs hl 22 22 (by simp)
  clear h
  have hy : x - (cd.length : Int) = 22 := by omega
  go_enter Tryz.func152, Tryz.ntmps152
  go_wp2_with fail
  rw [show (cd.length : Int) + 22 - cd.length = 22 by omega]
  refine C.mono ?_
  rintro e w1 ⟨rfl, hx1⟩
  go_wp2_with fail
  go_ret
  exact ⟨rfl, hx1⟩
set_option maxRecDepth 100000 in
set_option maxHeartbeats 4000000 in
theorem wrule_23 (h : WAt w q p sz out cd lv rv nv r n) (hs : cd.length ≤ 1048576) (hl : 1 ≤ cd.length) (x : Int) (hx : x = cd.length + 23) : Calls Tryz.prog 152 #[.pointer (some ⟨q, 0, none⟩), .int .i64 x] w fun e w' => e = .returned (.int .i64 (tailD p sz out cd r n 23)) ∧ Ext w w' := by
  have hll := h.code.run_len (P := Tryz.prog) slIns
  have c2 := h.c2
  have c4 := h.c4
  have C := wedge_any h hs hl 23 23 (by simp)
  clear h
  have hy : x - (cd.length : Int) = 23 := by omega
  go_enter Tryz.func152, Tryz.ntmps152
  go_wp2_with fail
  rw [show (cd.length : Int) + 23 - cd.length = 23 by omega]
  refine C.mono ?_
  rintro e w1 ⟨rfl, hx1⟩
  go_wp2_with fail
  go_ret
  exact ⟨rfl, hx1⟩
set_option maxRecDepth 100000 in
set_option maxHeartbeats 4000000 in
theorem wrule_24 (h : WAt w q p sz out cd lv rv nv r n) (hs : cd.length ≤ 1048576) (hl : 1 ≤ cd.length) (x : Int) (hx : x = cd.length + 24) : Calls Tryz.prog 152 #[.pointer (some ⟨q, 0, none⟩), .int .i64 x] w fun e w' => e = .returned (.int .i64 (tailD p sz out cd r n 24)) ∧ Ext w w' := by
  have hll := h.code.run_len (P := Tryz.prog) slIns
  have c2 := h.c2
  have c4 := h.c4
  have C := wedge_any h hs hl 24 24 (by simp)
  clear h
  have hy : x - (cd.length : Int) = 24 := by omega
  go_enter Tryz.func152, Tryz.ntmps152
  go_wp2_with fail
  rw [show (cd.length : Int) + 24 - cd.length = 24 by omega]
  refine C.mono ?_
  rintro e w1 ⟨rfl, hx1⟩
  go_wp2_with fail
  go_ret
  exact ⟨rfl, hx1⟩
set_option maxRecDepth 100000 in
set_option maxHeartbeats 4000000 in
theorem wrule_25 (h : WAt w q p sz out cd lv rv nv r n) (hs : cd.length ≤ 1048576) (hl : 1 ≤ cd.length) (x : Int) (hx : x = cd.length + 25) : Calls Tryz.prog 152 #[.pointer (some ⟨q, 0, none⟩), .int .i64 x] w fun e w' => e = .returned (.int .i64 (tailD p sz out cd r n 25)) ∧ Ext w w' := by
  have hll := h.code.run_len (P := Tryz.prog) slIns
  have c2 := h.c2
  have c4 := h.c4
  have C := wedge_any h hs hl 25 25 (by simp)
  clear h
  have hy : x - (cd.length : Int) = 25 := by omega
  go_enter Tryz.func152, Tryz.ntmps152
  go_wp2_with fail
  rw [show (cd.length : Int) + 25 - cd.length = 25 by omega]
  refine C.mono ?_
  rintro e w1 ⟨rfl, hx1⟩
  go_wp2_with fail
  go_ret
  exact ⟨rfl, hx1⟩
end
end Go.Proofs.YtnmjaddhbecopaaGreatDoor
end
section
namespace Go.Proofs.YtnmjaddhbecopaaGreatDoor
open Go.RowKit Go.Att
section
variable {w : World} {q : Nat} {p sz out : Int} {cd : List In4} {lv rv nv : Value} {r n : List Int}
set_option maxRecDepth 100000 in
set_option maxHeartbeats 4000000 in
theorem wrule_0 (h : WAt w q p sz out cd lv rv nv r n) (hs : cd.length ≤ 1048576) (hl : 1 ≤ cd.length) (x : Int) (hx : x = cd.length + 0) : Calls Tryz.prog 152 #[.pointer (some ⟨q, 0, none⟩), .int .i64 x] w fun e w' => e = .returned (.int .i64 (tailD p sz out cd r n 0)) ∧ Ext w w' := by
  have hll := h.code.run_len (P := Tryz.prog) slIns
  have c0 := h.c0
  have c2 := h.c2
  have c4 := h.c4
  have hp := h.two
  have hp2 := h.hi
  have HLR := Lib.hid h.lr
  have HH := Lib.hid h
  clear h
  obtain rfl : x = cd.length := by omega
  clear hx
  have HT := Lib.hid (show tailD p sz out cd r n 0 = fof p (onesD p r cd.length) from rfl)
  generalize tailD p sz out cd r n 0 = res at *
  have hy : (cd.length : Int) - (cd.length : Int) = 0 := by omega
  go_enter Tryz.func152, Tryz.ntmps152
  go_wp2_with fail
  go_loop [8, 9] (fun x8 x9 => ∃ k : Nat, k ≤ cd.length ∧ x8 = .int .i64 (onesD p r k) ∧ x9 = .int .i64 k) (fun _ x9 => cd.length - (intOf x9).toNat)
  case atStart => exact ⟨0, Nat.zero_le _, rfl, rfl⟩
  case round =>
    obtain ⟨k, hk, rfl, rfl⟩ := hrel
    by_cases hkl : k < cd.length
    · have HS := Lib.hid (show onesD p r (k + 1) = fadd p (onesD p r k) (nth r (20 + k)) from rfl)
      generalize onesD p r k = s at *
      have hix : ∀ w', (Instr.indexAt 23 rv (.int .i64 (20 + (k : Int)))).run Tryz.prog w' = .ok (.pointer (some (elt rv (20 + k) 1))) w' := by
        intro w'
        have := HH.out.row.run_index (P := Tryz.prog) slInts (20 + k) (by have := HLR.out; omega) w'
        simpa using this
      have d := HH.out.row.cell (20 + k) (by have := HLR.out; omega)
      go_wp2_with (go_at_call 224; refine (wadd_any HH.out _ _).mono ?_; rintro e w' ⟨rfl, rfl⟩)
      go_round
      case rel => exact ⟨k + 1, by omega, by rw [HS.out], by go_num⟩
      case measure => simp [intOf]; omega
    · obtain rfl : k = cd.length := by omega
      go_wp2_with (go_at_call 47; refine (rof_any _ _ _ hp hp2).mono ?_; rintro e w' ⟨rfl, rfl⟩)
      go_ret
      exact ⟨ret_int HT.out.symm, Ext.refl _⟩
set_option maxRecDepth 100000 in
set_option maxHeartbeats 4000000 in
theorem wrule_12 (h : WAt w q p sz out cd lv rv nv r n) (hs : cd.length ≤ 1048576) (hl : 1 ≤ cd.length) (x : Int) (hx : x = cd.length + 12) : Calls Tryz.prog 152 #[.pointer (some ⟨q, 0, none⟩), .int .i64 x] w fun e w' => e = .returned (.int .i64 (tailD p sz out cd r n 12)) ∧ Ext w w' := by
  have hll := h.code.run_len (P := Tryz.prog) slIns
  have c2 := h.c2
  have c5 := h.c5
  have C := wsum_any h hs 5 5 (by simp)
  have HLN := Lib.hid h.ln
  have HH := Lib.hid h
  have HT := Lib.hid (show tailD p sz out cd r n 12 = fsub p (numK p n cd.length) (sumD p r cd (ofD p r 5) cd.length) from rfl)
  generalize sumD p r cd (ofD p r 5) cd.length = S5 at *
  generalize tailD p sz out cd r n 12 = res at *
  clear h
  have hy : x - (cd.length : Int) = 12 := by omega
  have hn : ¬ x < (cd.length : Int) := by omega
  have hb1 : x ≤ 1048700 := by omega
  have hb0 : 0 ≤ x := by omega
  clear hx
  go_enter Tryz.func152, Tryz.ntmps152
  go_wp2_with fail
  go_loop [12, 13] (fun x12 x13 => ∃ k : Nat, k ≤ cd.length ∧ x12 = .int .i64 (numK p n k) ∧ x13 = .int .i64 k) (fun _ x13 => cd.length - (intOf x13).toNat)
  case atStart => exact ⟨0, Nat.zero_le _, rfl, rfl⟩
  case round =>
    obtain ⟨k, hk, rfl, rfl⟩ := hrel
    by_cases hkl : k < cd.length
    · have HS := Lib.hid (show numK p n (k + 1) = fadd p (numK p n k) (fmul p k (nth n (20 + k))) from rfl)
      generalize numK p n k = s at *
      have hix : ∀ w', (Instr.indexAt 23 nv (.int .i64 (20 + (k : Int)))).run Tryz.prog w' = .ok (.pointer (some (elt nv (20 + k) 1))) w' := by
        intro w'
        have := HH.out.next.run_index (P := Tryz.prog) slInts (20 + k) (by have := HLN.out; omega) w'
        simpa using this
      have d := HH.out.next.cell (20 + k) (by have := HLN.out; omega)
      clear C
      go_wp2_with (first | (go_at_call 222; refine (wmul_any HH.out _ _).mono ?_; rintro e w' ⟨rfl, rfl⟩) | (go_at_call 224; refine (wadd_any HH.out _ _).mono ?_; rintro e w' ⟨rfl, rfl⟩))
      go_round
      case rel => exact ⟨k + 1, by omega, by rw [HS.out], by go_num⟩
      case measure => simp [intOf]; omega
    · obtain rfl : k = cd.length := by omega
      go_wp2_with fail
      refine C.mono ?_
      rintro e w1 ⟨rfl, hx1⟩
      have H1 := Lib.hid (HH.out.ext hx1)
      go_wp2_with (go_at_call 223; refine (wsub_any H1.out _ _).mono ?_; rintro e w' ⟨rfl, rfl⟩)
      go_ret
      exact ⟨ret_int HT.out.symm, hx1⟩
end
end Go.Proofs.YtnmjaddhbecopaaGreatDoor
end
