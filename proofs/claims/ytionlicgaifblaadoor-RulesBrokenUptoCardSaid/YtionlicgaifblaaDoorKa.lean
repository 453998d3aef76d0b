/- RulesBroken: the document's side: the rules of the first and the last row. -/
import Derived.Test.YtionlicgaifblaaDoorK9
import Derived.BigQuiet
namespace Go.Proofs.YtionlicgaifblaaDoor
open Go.RowKit Go.Att
section
variable {w : World} {q : Nat} {p sz out : Int} {cd : List In4} {lv rv nv : Value} {r n : List Int}
theorem rof_q3 (p n : Int) (w : World) (m : Nat) (hp : 2 ≤ p) (hp2 : p ≤ 2147483647) : Calls Tryd.prog 36 #[.int .i64 p, .int .i64 n] (w.drewN m) fun e w' => e = .returned (.int .i64 (fof p n)) ∧ ∃ k, w' = w.drewN k := (rof_any p n _ hp hp2).mono fun _ _ h => ⟨h.1, m, h.2.symm⟩
set_option maxRecDepth 100000 in
set_option maxHeartbeats 4000000 in
theorem wedge_any (h : WAt w q p sz out cd lv rv nv r n) (hs : cd.length ≤ 1048576) (hl : 1 ≤ cd.length) (i : Nat) (ii : Int) (hi : (i = 18 ∧ ii = 18) ∨ (i = 19 ∧ ii = 19) ∨ (i = 20 ∧ ii = 20) ∨ (i = 21 ∧ ii = 21) ∨ (i = 22 ∧ ii = 22) ∨ (i = 23 ∧ ii = 23) ∨ (i = 24 ∧ ii = 24) ∨ (i = 25 ∧ ii = 25)) : Calls Tryd.prog 68 #[.pointer (some ⟨q, 0, none⟩), .int .i64 ii] w fun e w' => e = .returned (.int .i64 (tailD p sz out cd r n i)) ∧ Ext w w' := by
  have hp := h.two
  have hp2 := h.hi
  have C9 := wsum_any h hs 9 9 (by simp)
  rw [show ofD p r 9 = haltK from by funext k x; simp [ofD]] at C9
  have f0 : ∀ w', (Instr.indexAt 64 rv (.int .i64 0)).run Tryd.prog w' = .ok (.pointer (some (elt rv 0 1))) w' := h.row.run_index slInts 0 (by have := h.lr; omega)
  have d0 := h.row.cell 0 (by have := h.lr; omega)
  have f1 : ∀ w', (Instr.indexAt 64 rv (.int .i64 1)).run Tryd.prog w' = .ok (.pointer (some (elt rv 1 1))) w' := h.row.run_index slInts 1 (by have := h.lr; omega)
  have d1 := h.row.cell 1 (by have := h.lr; omega)
  have f2 : ∀ w', (Instr.indexAt 64 rv (.int .i64 2)).run Tryd.prog w' = .ok (.pointer (some (elt rv 2 1))) w' := h.row.run_index slInts 2 (by have := h.lr; omega)
  have d2 := h.row.cell 2 (by have := h.lr; omega)
  have f7 : ∀ w', (Instr.indexAt 64 rv (.int .i64 7)).run Tryd.prog w' = .ok (.pointer (some (elt rv 7 1))) w' := h.row.run_index slInts 7 (by have := h.lr; omega)
  have d7 := h.row.cell 7 (by have := h.lr; omega)
  have f12 : ∀ w', (Instr.indexAt 64 rv (.int .i64 12)).run Tryd.prog w' = .ok (.pointer (some (elt rv 12 1))) w' := h.row.run_index slInts 12 (by have := h.lr; omega)
  have d12 := h.row.cell 12 (by have := h.lr; omega)
  have f16 : ∀ w', (Instr.indexAt 64 rv (.int .i64 16)).run Tryd.prog w' = .ok (.pointer (some (elt rv 16 1))) w' := h.row.run_index slInts 16 (by have := h.lr; omega)
  have d16 := h.row.cell 16 (by have := h.lr; omega)
  have f20 : ∀ w', (Instr.indexAt 64 rv (.int .i64 20)).run Tryd.prog w' = .ok (.pointer (some (elt rv 20 1))) w' := h.row.run_index slInts 20 (by have := h.lr; omega)
  have d20 := h.row.cell 20 (by have := h.lr; omega)
  have c0 := h.c0
  have c1 := h.c1
  have c3 := h.c3
  have c4 := h.c4
  have HH := Lib.hid h
  clear h hl
  rcases hi with ⟨rfl, rfl⟩ | ⟨rfl, rfl⟩ | ⟨rfl, rfl⟩ | ⟨rfl, rfl⟩ | ⟨rfl, rfl⟩ | ⟨rfl, rfl⟩ | ⟨rfl, rfl⟩ | ⟨rfl, rfl⟩
  · clear C9
    go_enter Tryd.func68, Tryd.ntmps68
    go_wp2_with (go_at_call 64; refine (wsub_any HH.out _ _).mono ?_; rintro e w' ⟨rfl, rfl⟩)
    go_ret
    exact ⟨rfl, Ext.refl _⟩
  · clear C9
    go_enter Tryd.func68, Tryd.ntmps68
    go_wp2_with (go_at_call 64; refine (wsub_any HH.out _ _).mono ?_; rintro e w' ⟨rfl, rfl⟩)
    go_ret
    exact ⟨rfl, Ext.refl _⟩
  · clear C9
    go_enter Tryd.func68, Tryd.ntmps68
    go_wp2_with (go_at_call 64; refine (wsub_any HH.out _ _).mono ?_; rintro e w' ⟨rfl, rfl⟩)
    go_ret
    exact ⟨rfl, Ext.refl _⟩
  · clear C9
    go_enter Tryd.func68, Tryd.ntmps68
    go_wp2_with fail
    go_quiet ((go_at_call 36; exact rof_q3 _ _ _ _ hp hp2))
    go_wp2_with fail
    go_ret
    exact ⟨rfl, Ext.drewN _ _⟩
  · clear C9
    go_enter Tryd.func68, Tryd.ntmps68
    go_wp2_with fail
    go_quiet ((go_at_call 36; exact rof_q3 _ _ _ _ hp hp2))
    go_wp2_with fail
    go_ret
    exact ⟨rfl, Ext.drewN _ _⟩
  · clear C9
    go_enter Tryd.func68, Tryd.ntmps68
    go_wp2_with fail
    go_quiet ((go_at_call 36; exact rof_q3 _ _ _ _ hp hp2))
    go_wp2_with fail
    go_ret
    exact ⟨rfl, Ext.drewN _ _⟩
  · go_enter Tryd.func68, Tryd.ntmps68
    go_wp2_with fail
    refine C9.mono ?_
    rintro e w1 ⟨rfl, hx1⟩
    have H1 := Lib.hid (HH.out.ext hx1)
    go_wp2_with (go_at_call 64; refine (wsub_any H1.out _ _).mono ?_; rintro e w' ⟨rfl, rfl⟩)
    go_ret
    exact ⟨rfl, hx1⟩
  · clear C9
    go_enter Tryd.func68, Tryd.ntmps68
    go_wp2_with fail
    go_quiet ((go_at_call 64; exact wsub_q HH.out _ _ _))
    go_wp2_with fail
    go_ret
    exact ⟨rfl, Ext.drewN _ _⟩
end
end Go.Proofs.YtionlicgaifblaaDoor
