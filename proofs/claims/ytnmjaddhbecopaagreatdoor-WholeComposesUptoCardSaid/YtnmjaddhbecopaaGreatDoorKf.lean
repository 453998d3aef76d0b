/- RulesBroken: the document's side: a rule: those of cells, of registers, of orders. -/
import Derived.Test.YtnmjaddhbecopaaGreatDoorZx6
namespace Go.Proofs.YtnmjaddhbecopaaGreatDoor
open Go.RowKit Go.Att
section
variable {w : World} {q : Nat} {p sz out : Int} {cd : List In4} {lv rv nv : Value} {r n : List Int}
theorem word_q (h : WAt w q p sz out cd lv rv nv r n) (a v b u : Int) (t : Bool) (m : Nat) : Calls Tryz.prog 226 #[.pointer (some ⟨q, 0, none⟩), .int .i64 a, .int .i64 v, .int .i64 b, .int .i64 u, .bool t] (w.drewN m) fun e w' => e = .returned (.int .i64 (ordD p a v b u t)) ∧ ∃ k, w' = w.drewN k := (word_any (h.ext (Ext.drewN w m)) a v b u t).mono fun _ _ h => ⟨h.1, m, h.2.symm⟩
set_option maxRecDepth 100000 in
set_option maxHeartbeats 4000000 in
theorem wrule_1 (h : WAt w q p sz out cd lv rv nv r n) (hs : cd.length ≤ 1048576) (hl : 1 ≤ cd.length) (x : Int) (hx : x = cd.length + 1) : Calls Tryz.prog 152 #[.pointer (some ⟨q, 0, none⟩), .int .i64 x] w fun e w' => e = .returned (.int .i64 (tailD p sz out cd r n 1)) ∧ Ext w w' := by
  have hll := h.code.run_len (P := Tryz.prog) slIns
  have c2 := h.c2
  have c4 := h.c4
  have c5 := h.c5
  have C := wsum_any h hs 0 0 (by simp)
  have HH := Lib.hid h
  clear h
  have hy : x - (cd.length : Int) = 1 := by omega
  have hn : ¬ x < (cd.length : Int) := by omega
  have hb1 : x ≤ 1048700 := by omega
  have hb0 : 0 ≤ x := by omega
  clear hx
  go_enter Tryz.func152, Tryz.ntmps152
  go_wp2_with fail
  refine C.mono ?_
  rintro e w1 ⟨rfl, hx1⟩
  have H1 := Lib.hid (HH.out.ext hx1)
  have c4 := H1.out.c4
  have c5 := H1.out.c5
  have fr3 : ∀ w', (Instr.indexAt 23 rv (.int .i64 3)).run Tryz.prog w' = .ok (.pointer (some (elt rv 3 1))) w' := H1.out.row.run_index slInts 3 (by have := H1.out.lr; omega)
  have dr3 := H1.out.row.cell 3 (by have := H1.out.lr; omega)
  go_wp2_with (go_at_call 223; refine (wsub_any H1.out _ _).mono ?_; rintro e w' ⟨rfl, rfl⟩)
  go_ret
  exact ⟨rfl, hx1⟩
set_option maxRecDepth 100000 in
set_option maxHeartbeats 4000000 in
theorem wrule_2 (h : WAt w q p sz out cd lv rv nv r n) (hs : cd.length ≤ 1048576) (hl : 1 ≤ cd.length) (x : Int) (hx : x = cd.length + 2) : Calls Tryz.prog 152 #[.pointer (some ⟨q, 0, none⟩), .int .i64 x] w fun e w' => e = .returned (.int .i64 (tailD p sz out cd r n 2)) ∧ Ext w w' := by
  have hll := h.code.run_len (P := Tryz.prog) slIns
  have c2 := h.c2
  have c4 := h.c4
  have c5 := h.c5
  have C := wsum_any h hs 1 1 (by simp)
  have HH := Lib.hid h
  clear h
  have hy : x - (cd.length : Int) = 2 := by omega
  have hn : ¬ x < (cd.length : Int) := by omega
  have hb1 : x ≤ 1048700 := by omega
  have hb0 : 0 ≤ x := by omega
  clear hx
  go_enter Tryz.func152, Tryz.ntmps152
  go_wp2_with fail
  refine C.mono ?_
  rintro e w1 ⟨rfl, hx1⟩
  have H1 := Lib.hid (HH.out.ext hx1)
  have c4 := H1.out.c4
  have c5 := H1.out.c5
  have fr4 : ∀ w', (Instr.indexAt 23 rv (.int .i64 4)).run Tryz.prog w' = .ok (.pointer (some (elt rv 4 1))) w' := H1.out.row.run_index slInts 4 (by have := H1.out.lr; omega)
  have dr4 := H1.out.row.cell 4 (by have := H1.out.lr; omega)
  go_wp2_with (go_at_call 223; refine (wsub_any H1.out _ _).mono ?_; rintro e w' ⟨rfl, rfl⟩)
  go_ret
  exact ⟨rfl, hx1⟩
set_option maxRecDepth 100000 in
set_option maxHeartbeats 4000000 in
theorem wrule_3 (h : WAt w q p sz out cd lv rv nv r n) (hs : cd.length ≤ 1048576) (hl : 1 ≤ cd.length) (x : Int) (hx : x = cd.length + 3) : Calls Tryz.prog 152 #[.pointer (some ⟨q, 0, none⟩), .int .i64 x] w fun e w' => e = .returned (.int .i64 (tailD p sz out cd r n 3)) ∧ Ext w w' := by
  have hll := h.code.run_len (P := Tryz.prog) slIns
  have c2 := h.c2
  have c4 := h.c4
  have c5 := h.c5
  have C := wsum_any h hs 2 2 (by simp)
  have HH := Lib.hid h
  clear h
  have hy : x - (cd.length : Int) = 3 := by omega
  have hn : ¬ x < (cd.length : Int) := by omega
  have hb1 : x ≤ 1048700 := by omega
  have hb0 : 0 ≤ x := by omega
  clear hx
  go_enter Tryz.func152, Tryz.ntmps152
  go_wp2_with fail
  refine C.mono ?_
  rintro e w1 ⟨rfl, hx1⟩
  have H1 := Lib.hid (HH.out.ext hx1)
  have c4 := H1.out.c4
  have c5 := H1.out.c5
  have fr5 : ∀ w', (Instr.indexAt 23 rv (.int .i64 5)).run Tryz.prog w' = .ok (.pointer (some (elt rv 5 1))) w' := H1.out.row.run_index slInts 5 (by have := H1.out.lr; omega)
  have dr5 := H1.out.row.cell 5 (by have := H1.out.lr; omega)
  go_wp2_with (go_at_call 223; refine (wsub_any H1.out _ _).mono ?_; rintro e w' ⟨rfl, rfl⟩)
  go_ret
  exact ⟨rfl, hx1⟩
set_option maxRecDepth 100000 in
set_option maxHeartbeats 4000000 in
theorem wrule_13 (h : WAt w q p sz out cd lv rv nv r n) (hs : cd.length ≤ 1048576) (hl : 1 ≤ cd.length) (x : Int) (hx : x = cd.length + 13) : Calls Tryz.prog 152 #[.pointer (some ⟨q, 0, none⟩), .int .i64 x] w fun e w' => e = .returned (.int .i64 (tailD p sz out cd r n 13)) ∧ Ext w w' := by
  have hll := h.code.run_len (P := Tryz.prog) slIns
  have c2 := h.c2
  have c4 := h.c4
  have c5 := h.c5
  have C := wsum_any h hs 6 6 (by simp)
  have HH := Lib.hid h
  clear h
  have hy : x - (cd.length : Int) = 13 := by omega
  have hn : ¬ x < (cd.length : Int) := by omega
  have hb1 : x ≤ 1048700 := by omega
  have hb0 : 0 ≤ x := by omega
  clear hx
  go_enter Tryz.func152, Tryz.ntmps152
  go_wp2_with fail
  refine C.mono ?_
  rintro e w1 ⟨rfl, hx1⟩
  have H1 := Lib.hid (HH.out.ext hx1)
  have c4 := H1.out.c4
  have c5 := H1.out.c5
  have fn0 : ∀ w', (Instr.indexAt 23 nv (.int .i64 0)).run Tryz.prog w' = .ok (.pointer (some (elt nv 0 1))) w' := H1.out.next.run_index slInts 0 (by have := H1.out.ln; omega)
  have dn0 := H1.out.next.cell 0 (by have := H1.out.ln; omega)
  go_wp2_with (go_at_call 223; refine (wsub_any H1.out _ _).mono ?_; rintro e w' ⟨rfl, rfl⟩)
  go_ret
  exact ⟨rfl, hx1⟩
set_option maxRecDepth 100000 in
set_option maxHeartbeats 4000000 in
theorem wrule_14 (h : WAt w q p sz out cd lv rv nv r n) (hs : cd.length ≤ 1048576) (hl : 1 ≤ cd.length) (x : Int) (hx : x = cd.length + 14) : Calls Tryz.prog 152 #[.pointer (some ⟨q, 0, none⟩), .int .i64 x] w fun e w' => e = .returned (.int .i64 (tailD p sz out cd r n 14)) ∧ Ext w w' := by
  have hll := h.code.run_len (P := Tryz.prog) slIns
  have c2 := h.c2
  have c4 := h.c4
  have c5 := h.c5
  have C := wsum_any h hs 7 7 (by simp)
  have HH := Lib.hid h
  clear h
  have hy : x - (cd.length : Int) = 14 := by omega
  have hn : ¬ x < (cd.length : Int) := by omega
  have hb1 : x ≤ 1048700 := by omega
  have hb0 : 0 ≤ x := by omega
  clear hx
  go_enter Tryz.func152, Tryz.ntmps152
  go_wp2_with fail
  refine C.mono ?_
  rintro e w1 ⟨rfl, hx1⟩
  have H1 := Lib.hid (HH.out.ext hx1)
  have c4 := H1.out.c4
  have c5 := H1.out.c5
  have fn1 : ∀ w', (Instr.indexAt 23 nv (.int .i64 1)).run Tryz.prog w' = .ok (.pointer (some (elt nv 1 1))) w' := H1.out.next.run_index slInts 1 (by have := H1.out.ln; omega)
  have dn1 := H1.out.next.cell 1 (by have := H1.out.ln; omega)
  go_wp2_with (go_at_call 223; refine (wsub_any H1.out _ _).mono ?_; rintro e w' ⟨rfl, rfl⟩)
  go_ret
  exact ⟨rfl, hx1⟩
set_option maxRecDepth 100000 in
set_option maxHeartbeats 4000000 in
theorem wrule_15 (h : WAt w q p sz out cd lv rv nv r n) (hs : cd.length ≤ 1048576) (hl : 1 ≤ cd.length) (x : Int) (hx : x = cd.length + 15) : Calls Tryz.prog 152 #[.pointer (some ⟨q, 0, none⟩), .int .i64 x] w fun e w' => e = .returned (.int .i64 (tailD p sz out cd r n 15)) ∧ Ext w w' := by
  have hll := h.code.run_len (P := Tryz.prog) slIns
  have c2 := h.c2
  have c4 := h.c4
  have c5 := h.c5
  have C := wsum_any h hs 8 8 (by simp)
  have HH := Lib.hid h
  clear h
  have hy : x - (cd.length : Int) = 15 := by omega
  have hn : ¬ x < (cd.length : Int) := by omega
  have hb1 : x ≤ 1048700 := by omega
  have hb0 : 0 ≤ x := by omega
  clear hx
  go_enter Tryz.func152, Tryz.ntmps152
  go_wp2_with fail
  refine C.mono ?_
  rintro e w1 ⟨rfl, hx1⟩
  have H1 := Lib.hid (HH.out.ext hx1)
  have c4 := H1.out.c4
  have c5 := H1.out.c5
  have fn2 : ∀ w', (Instr.indexAt 23 nv (.int .i64 2)).run Tryz.prog w' = .ok (.pointer (some (elt nv 2 1))) w' := H1.out.next.run_index slInts 2 (by have := H1.out.ln; omega)
  have dn2 := H1.out.next.cell 2 (by have := H1.out.ln; omega)
  go_wp2_with (go_at_call 223; refine (wsub_any H1.out _ _).mono ?_; rintro e w' ⟨rfl, rfl⟩)
  go_ret
  exact ⟨rfl, hx1⟩
set_option maxRecDepth 100000 in
set_option maxHeartbeats 4000000 in
theorem wrule_6 (h : WAt w q p sz out cd lv rv nv r n) (hs : cd.length ≤ 1048576) (hl : 1 ≤ cd.length) (x : Int) (hx : x = cd.length + 6) : Calls Tryz.prog 152 #[.pointer (some ⟨q, 0, none⟩), .int .i64 x] w fun e w' => e = .returned (.int .i64 (tailD p sz out cd r n 6)) ∧ Ext w w' := by
  have hll := h.code.run_len (P := Tryz.prog) slIns
  have c2 := h.c2
  have c4 := h.c4
  have c5 := h.c5
  have fr12 : ∀ w', (Instr.indexAt 23 rv (.int .i64 12)).run Tryz.prog w' = .ok (.pointer (some (elt rv 12 1))) w' := h.row.run_index slInts 12 (by have := h.lr; omega)
  have dr12 := h.row.cell 12 (by have := h.lr; omega)
  have fr16 : ∀ w', (Instr.indexAt 23 rv (.int .i64 16)).run Tryz.prog w' = .ok (.pointer (some (elt rv 16 1))) w' := h.row.run_index slInts 16 (by have := h.lr; omega)
  have dr16 := h.row.cell 16 (by have := h.lr; omega)
  have fr13 : ∀ w', (Instr.indexAt 23 rv (.int .i64 13)).run Tryz.prog w' = .ok (.pointer (some (elt rv 13 1))) w' := h.row.run_index slInts 13 (by have := h.lr; omega)
  have dr13 := h.row.cell 13 (by have := h.lr; omega)
  have fr17 : ∀ w', (Instr.indexAt 23 rv (.int .i64 17)).run Tryz.prog w' = .ok (.pointer (some (elt rv 17 1))) w' := h.row.run_index slInts 17 (by have := h.lr; omega)
  have dr17 := h.row.cell 17 (by have := h.lr; omega)
  have HH := Lib.hid h
  clear h
  have hy : x - (cd.length : Int) = 6 := by omega
  have hn : ¬ x < (cd.length : Int) := by omega
  have hb1 : x ≤ 1048700 := by omega
  have hb0 : 0 ≤ x := by omega
  clear hx
  go_enter Tryz.func152, Tryz.ntmps152
  go_wp2_with fail
  go_quiet ((go_at_call 226; exact word_q HH.out _ _ _ _ _ _))
  go_wp2_with fail
  go_ret
  exact ⟨rfl, Ext.drewN _ _⟩
set_option maxRecDepth 100000 in
set_option maxHeartbeats 4000000 in
theorem wrule_7 (h : WAt w q p sz out cd lv rv nv r n) (hs : cd.length ≤ 1048576) (hl : 1 ≤ cd.length) (x : Int) (hx : x = cd.length + 7) : Calls Tryz.prog 152 #[.pointer (some ⟨q, 0, none⟩), .int .i64 x] w fun e w' => e = .returned (.int .i64 (tailD p sz out cd r n 7)) ∧ Ext w w' := by
  have hll := h.code.run_len (P := Tryz.prog) slIns
  have c2 := h.c2
  have c4 := h.c4
  have c5 := h.c5
  have fr12 : ∀ w', (Instr.indexAt 23 rv (.int .i64 12)).run Tryz.prog w' = .ok (.pointer (some (elt rv 12 1))) w' := h.row.run_index slInts 12 (by have := h.lr; omega)
  have dr12 := h.row.cell 12 (by have := h.lr; omega)
  have fr16 : ∀ w', (Instr.indexAt 23 rv (.int .i64 16)).run Tryz.prog w' = .ok (.pointer (some (elt rv 16 1))) w' := h.row.run_index slInts 16 (by have := h.lr; omega)
  have dr16 := h.row.cell 16 (by have := h.lr; omega)
  have fr13 : ∀ w', (Instr.indexAt 23 rv (.int .i64 13)).run Tryz.prog w' = .ok (.pointer (some (elt rv 13 1))) w' := h.row.run_index slInts 13 (by have := h.lr; omega)
  have dr13 := h.row.cell 13 (by have := h.lr; omega)
  have fr17 : ∀ w', (Instr.indexAt 23 rv (.int .i64 17)).run Tryz.prog w' = .ok (.pointer (some (elt rv 17 1))) w' := h.row.run_index slInts 17 (by have := h.lr; omega)
  have dr17 := h.row.cell 17 (by have := h.lr; omega)
  have HH := Lib.hid h
  clear h
  have hy : x - (cd.length : Int) = 7 := by omega
  have hn : ¬ x < (cd.length : Int) := by omega
  have hb1 : x ≤ 1048700 := by omega
  have hb0 : 0 ≤ x := by omega
  clear hx
  go_enter Tryz.func152, Tryz.ntmps152
  go_wp2_with fail
  go_quiet ((go_at_call 226; exact word_q HH.out _ _ _ _ _ _))
  go_wp2_with fail
  go_ret
  exact ⟨rfl, Ext.drewN _ _⟩
set_option maxRecDepth 100000 in
set_option maxHeartbeats 4000000 in
theorem wrule_8 (h : WAt w q p sz out cd lv rv nv r n) (hs : cd.length ≤ 1048576) (hl : 1 ≤ cd.length) (x : Int) (hx : x = cd.length + 8) : Calls Tryz.prog 152 #[.pointer (some ⟨q, 0, none⟩), .int .i64 x] w fun e w' => e = .returned (.int .i64 (tailD p sz out cd r n 8)) ∧ Ext w w' := by
  have hll := h.code.run_len (P := Tryz.prog) slIns
  have c2 := h.c2
  have c4 := h.c4
  have c5 := h.c5
  have fr13 : ∀ w', (Instr.indexAt 23 rv (.int .i64 13)).run Tryz.prog w' = .ok (.pointer (some (elt rv 13 1))) w' := h.row.run_index slInts 13 (by have := h.lr; omega)
  have dr13 := h.row.cell 13 (by have := h.lr; omega)
  have fr17 : ∀ w', (Instr.indexAt 23 rv (.int .i64 17)).run Tryz.prog w' = .ok (.pointer (some (elt rv 17 1))) w' := h.row.run_index slInts 17 (by have := h.lr; omega)
  have dr17 := h.row.cell 17 (by have := h.lr; omega)
  have fr14 : ∀ w', (Instr.indexAt 23 rv (.int .i64 14)).run Tryz.prog w' = .ok (.pointer (some (elt rv 14 1))) w' := h.row.run_index slInts 14 (by have := h.lr; omega)
  have dr14 := h.row.cell 14 (by have := h.lr; omega)
  have fr18 : ∀ w', (Instr.indexAt 23 rv (.int .i64 18)).run Tryz.prog w' = .ok (.pointer (some (elt rv 18 1))) w' := h.row.run_index slInts 18 (by have := h.lr; omega)
  have dr18 := h.row.cell 18 (by have := h.lr; omega)
  have HH := Lib.hid h
  clear h
  have hy : x - (cd.length : Int) = 8 := by omega
  have hn : ¬ x < (cd.length : Int) := by omega
  have hb1 : x ≤ 1048700 := by omega
  have hb0 : 0 ≤ x := by omega
  clear hx
  go_enter Tryz.func152, Tryz.ntmps152
  go_wp2_with fail
  go_quiet ((go_at_call 226; exact word_q HH.out _ _ _ _ _ _))
  go_wp2_with fail
  go_ret
  exact ⟨rfl, Ext.drewN _ _⟩
set_option maxRecDepth 100000 in
set_option maxHeartbeats 4000000 in
theorem wrule_9 (h : WAt w q p sz out cd lv rv nv r n) (hs : cd.length ≤ 1048576) (hl : 1 ≤ cd.length) (x : Int) (hx : x = cd.length + 9) : Calls Tryz.prog 152 #[.pointer (some ⟨q, 0, none⟩), .int .i64 x] w fun e w' => e = .returned (.int .i64 (tailD p sz out cd r n 9)) ∧ Ext w w' := by
  have hll := h.code.run_len (P := Tryz.prog) slIns
  have c2 := h.c2
  have c4 := h.c4
  have c5 := h.c5
  have fr13 : ∀ w', (Instr.indexAt 23 rv (.int .i64 13)).run Tryz.prog w' = .ok (.pointer (some (elt rv 13 1))) w' := h.row.run_index slInts 13 (by have := h.lr; omega)
  have dr13 := h.row.cell 13 (by have := h.lr; omega)
  have fr17 : ∀ w', (Instr.indexAt 23 rv (.int .i64 17)).run Tryz.prog w' = .ok (.pointer (some (elt rv 17 1))) w' := h.row.run_index slInts 17 (by have := h.lr; omega)
  have dr17 := h.row.cell 17 (by have := h.lr; omega)
  have fr14 : ∀ w', (Instr.indexAt 23 rv (.int .i64 14)).run Tryz.prog w' = .ok (.pointer (some (elt rv 14 1))) w' := h.row.run_index slInts 14 (by have := h.lr; omega)
  have dr14 := h.row.cell 14 (by have := h.lr; omega)
  have fr18 : ∀ w', (Instr.indexAt 23 rv (.int .i64 18)).run Tryz.prog w' = .ok (.pointer (some (elt rv 18 1))) w' := h.row.run_index slInts 18 (by have := h.lr; omega)
  have dr18 := h.row.cell 18 (by have := h.lr; omega)
  have HH := Lib.hid h
  clear h
  have hy : x - (cd.length : Int) = 9 := by omega
  have hn : ¬ x < (cd.length : Int) := by omega
  have hb1 : x ≤ 1048700 := by omega
  have hb0 : 0 ≤ x := by omega
  clear hx
  go_enter Tryz.func152, Tryz.ntmps152
  go_wp2_with fail
  go_quiet ((go_at_call 226; exact word_q HH.out _ _ _ _ _ _))
  go_wp2_with fail
  go_ret
  exact ⟨rfl, Ext.drewN _ _⟩
set_option maxRecDepth 100000 in
set_option maxHeartbeats 4000000 in
theorem wrule_10 (h : WAt w q p sz out cd lv rv nv r n) (hs : cd.length ≤ 1048576) (hl : 1 ≤ cd.length) (x : Int) (hx : x = cd.length + 10) : Calls Tryz.prog 152 #[.pointer (some ⟨q, 0, none⟩), .int .i64 x] w fun e w' => e = .returned (.int .i64 (tailD p sz out cd r n 10)) ∧ Ext w w' := by
  have hll := h.code.run_len (P := Tryz.prog) slIns
  have c2 := h.c2
  have c4 := h.c4
  have c5 := h.c5
  have fr14 : ∀ w', (Instr.indexAt 23 rv (.int .i64 14)).run Tryz.prog w' = .ok (.pointer (some (elt rv 14 1))) w' := h.row.run_index slInts 14 (by have := h.lr; omega)
  have dr14 := h.row.cell 14 (by have := h.lr; omega)
  have fr18 : ∀ w', (Instr.indexAt 23 rv (.int .i64 18)).run Tryz.prog w' = .ok (.pointer (some (elt rv 18 1))) w' := h.row.run_index slInts 18 (by have := h.lr; omega)
  have dr18 := h.row.cell 18 (by have := h.lr; omega)
  have fr15 : ∀ w', (Instr.indexAt 23 rv (.int .i64 15)).run Tryz.prog w' = .ok (.pointer (some (elt rv 15 1))) w' := h.row.run_index slInts 15 (by have := h.lr; omega)
  have dr15 := h.row.cell 15 (by have := h.lr; omega)
  have fr19 : ∀ w', (Instr.indexAt 23 rv (.int .i64 19)).run Tryz.prog w' = .ok (.pointer (some (elt rv 19 1))) w' := h.row.run_index slInts 19 (by have := h.lr; omega)
  have dr19 := h.row.cell 19 (by have := h.lr; omega)
  have HH := Lib.hid h
  clear h
  have hy : x - (cd.length : Int) = 10 := by omega
  have hn : ¬ x < (cd.length : Int) := by omega
  have hb1 : x ≤ 1048700 := by omega
  have hb0 : 0 ≤ x := by omega
  clear hx
  go_enter Tryz.func152, Tryz.ntmps152
  go_wp2_with fail
  go_quiet ((go_at_call 226; exact word_q HH.out _ _ _ _ _ _))
  go_wp2_with fail
  go_ret
  exact ⟨rfl, Ext.drewN _ _⟩
set_option maxRecDepth 100000 in
set_option maxHeartbeats 4000000 in
theorem wrule_11 (h : WAt w q p sz out cd lv rv nv r n) (hs : cd.length ≤ 1048576) (hl : 1 ≤ cd.length) (x : Int) (hx : x = cd.length + 11) : Calls Tryz.prog 152 #[.pointer (some ⟨q, 0, none⟩), .int .i64 x] w fun e w' => e = .returned (.int .i64 (tailD p sz out cd r n 11)) ∧ Ext w w' := by
  have hll := h.code.run_len (P := Tryz.prog) slIns
  have c2 := h.c2
  have c4 := h.c4
  have c5 := h.c5
  have fr14 : ∀ w', (Instr.indexAt 23 rv (.int .i64 14)).run Tryz.prog w' = .ok (.pointer (some (elt rv 14 1))) w' := h.row.run_index slInts 14 (by have := h.lr; omega)
  have dr14 := h.row.cell 14 (by have := h.lr; omega)
  have fr18 : ∀ w', (Instr.indexAt 23 rv (.int .i64 18)).run Tryz.prog w' = .ok (.pointer (some (elt rv 18 1))) w' := h.row.run_index slInts 18 (by have := h.lr; omega)
  have dr18 := h.row.cell 18 (by have := h.lr; omega)
  have fr15 : ∀ w', (Instr.indexAt 23 rv (.int .i64 15)).run Tryz.prog w' = .ok (.pointer (some (elt rv 15 1))) w' := h.row.run_index slInts 15 (by have := h.lr; omega)
  have dr15 := h.row.cell 15 (by have := h.lr; omega)
  have fr19 : ∀ w', (Instr.indexAt 23 rv (.int .i64 19)).run Tryz.prog w' = .ok (.pointer (some (elt rv 19 1))) w' := h.row.run_index slInts 19 (by have := h.lr; omega)
  have dr19 := h.row.cell 19 (by have := h.lr; omega)
  have HH := Lib.hid h
  clear h
  have hy : x - (cd.length : Int) = 11 := by omega
  have hn : ¬ x < (cd.length : Int) := by omega
  have hb1 : x ≤ 1048700 := by omega
  have hb0 : 0 ≤ x := by omega
  clear hx
  go_enter Tryz.func152, Tryz.ntmps152
  go_wp2_with fail
  go_quiet ((go_at_call 226; exact word_q HH.out _ _ _ _ _ _))
  go_wp2_with fail
  go_ret
  exact ⟨rfl, Ext.drewN _ _⟩
set_option maxRecDepth 100000 in
set_option maxHeartbeats 4000000 in
theorem wrule_16 (h : WAt w q p sz out cd lv rv nv r n) (hs : cd.length ≤ 1048576) (hl : 1 ≤ cd.length) (x : Int) (hx : x = cd.length + 16) : Calls Tryz.prog 152 #[.pointer (some ⟨q, 0, none⟩), .int .i64 x] w fun e w' => e = .returned (.int .i64 (tailD p sz out cd r n 16)) ∧ Ext w w' := by
  have hll := h.code.run_len (P := Tryz.prog) slIns
  have c2 := h.c2
  have c4 := h.c4
  have c5 := h.c5
  have fr15 : ∀ w', (Instr.indexAt 23 rv (.int .i64 15)).run Tryz.prog w' = .ok (.pointer (some (elt rv 15 1))) w' := h.row.run_index slInts 15 (by have := h.lr; omega)
  have dr15 := h.row.cell 15 (by have := h.lr; omega)
  have fr19 : ∀ w', (Instr.indexAt 23 rv (.int .i64 19)).run Tryz.prog w' = .ok (.pointer (some (elt rv 19 1))) w' := h.row.run_index slInts 19 (by have := h.lr; omega)
  have dr19 := h.row.cell 19 (by have := h.lr; omega)
  have fn12 : ∀ w', (Instr.indexAt 23 nv (.int .i64 12)).run Tryz.prog w' = .ok (.pointer (some (elt nv 12 1))) w' := h.next.run_index slInts 12 (by have := h.ln; omega)
  have dn12 := h.next.cell 12 (by have := h.ln; omega)
  have fn16 : ∀ w', (Instr.indexAt 23 nv (.int .i64 16)).run Tryz.prog w' = .ok (.pointer (some (elt nv 16 1))) w' := h.next.run_index slInts 16 (by have := h.ln; omega)
  have dn16 := h.next.cell 16 (by have := h.ln; omega)
  have HH := Lib.hid h
  clear h
  have hy : x - (cd.length : Int) = 16 := by omega
  have hn : ¬ x < (cd.length : Int) := by omega
  have hb1 : x ≤ 1048700 := by omega
  have hb0 : 0 ≤ x := by omega
  clear hx
  go_enter Tryz.func152, Tryz.ntmps152
  go_wp2_with fail
  go_quiet ((go_at_call 226; exact word_q HH.out _ _ _ _ _ _))
  go_wp2_with fail
  go_ret
  exact ⟨rfl, Ext.drewN _ _⟩
set_option maxRecDepth 100000 in
set_option maxHeartbeats 4000000 in
theorem wrule_17 (h : WAt w q p sz out cd lv rv nv r n) (hs : cd.length ≤ 1048576) (hl : 1 ≤ cd.length) (x : Int) (hx : x = cd.length + 17) : Calls Tryz.prog 152 #[.pointer (some ⟨q, 0, none⟩), .int .i64 x] w fun e w' => e = .returned (.int .i64 (tailD p sz out cd r n 17)) ∧ Ext w w' := by
  have hll := h.code.run_len (P := Tryz.prog) slIns
  have c2 := h.c2
  have c4 := h.c4
  have c5 := h.c5
  have fr15 : ∀ w', (Instr.indexAt 23 rv (.int .i64 15)).run Tryz.prog w' = .ok (.pointer (some (elt rv 15 1))) w' := h.row.run_index slInts 15 (by have := h.lr; omega)
  have dr15 := h.row.cell 15 (by have := h.lr; omega)
  have fr19 : ∀ w', (Instr.indexAt 23 rv (.int .i64 19)).run Tryz.prog w' = .ok (.pointer (some (elt rv 19 1))) w' := h.row.run_index slInts 19 (by have := h.lr; omega)
  have dr19 := h.row.cell 19 (by have := h.lr; omega)
  have fn12 : ∀ w', (Instr.indexAt 23 nv (.int .i64 12)).run Tryz.prog w' = .ok (.pointer (some (elt nv 12 1))) w' := h.next.run_index slInts 12 (by have := h.ln; omega)
  have dn12 := h.next.cell 12 (by have := h.ln; omega)
  have fn16 : ∀ w', (Instr.indexAt 23 nv (.int .i64 16)).run Tryz.prog w' = .ok (.pointer (some (elt nv 16 1))) w' := h.next.run_index slInts 16 (by have := h.ln; omega)
  have dn16 := h.next.cell 16 (by have := h.ln; omega)
  have HH := Lib.hid h
  clear h
  have hy : x - (cd.length : Int) = 17 := by omega
  have hn : ¬ x < (cd.length : Int) := by omega
  have hb1 : x ≤ 1048700 := by omega
  have hb0 : 0 ≤ x := by omega
  clear hx
  go_enter Tryz.func152, Tryz.ntmps152
  go_wp2_with fail
  go_quiet ((go_at_call 226; exact word_q HH.out _ _ _ _ _ _))
  go_wp2_with fail
  go_ret
  exact ⟨rfl, Ext.drewN _ _⟩
end
end Go.Proofs.YtnmjaddhbecopaaGreatDoor
