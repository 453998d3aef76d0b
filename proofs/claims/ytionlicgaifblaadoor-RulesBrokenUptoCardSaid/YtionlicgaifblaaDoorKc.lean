/- RulesBroken: the document's side: a rule: those of the instructions' own columns. -/
import Derived.Test.YtionlicgaifblaaDoorKa
namespace Go.Proofs.YtionlicgaifblaaDoor
open Go.RowKit Go.Att
section
variable {w : World} {q : Nat} {p sz out : Int} {cd : List In4} {lv rv nv : Value} {r n : List Int}
set_option maxRecDepth 100000 in
set_option maxHeartbeats 4000000 in
theorem wrule_lo (h : WAt w q p sz out cd lv rv nv r n) (hs : cd.length ≤ 1048576) (i : Nat) (hi : i < cd.length) : Calls Tryd.prog 31 #[.pointer (some ⟨q, 0, none⟩), .int .i64 i] w fun e w' => e = .returned (.int .i64 (ruleD p sz out cd r n i)) ∧ Ext w w' := by
  have hll := h.code.run_len (P := Tryd.prog) slIns
  have hix : ∀ w', (Instr.indexAt 64 rv (.int .i64 (20 + (i : Int)))).run Tryd.prog w' = .ok (.pointer (some (elt rv (20 + i) 1))) w' := by
    intro w'
    have := h.row.run_index (P := Tryd.prog) slInts (20 + i) (by have := h.lr; omega) w'
    simpa using this
  have d := h.row.cell (20 + i) (by have := h.lr; omega)
  have c2 := h.c2
  have c4 := h.c4
  have HR := Lib.hid (show ruleD p sz out cd r n i = fsub p (fmul p (nth r (20 + i)) (nth r (20 + i))) (nth r (20 + i)) from if_pos hi)
  have HH := Lib.hid h
  clear h
  go_enter Tryd.func31, Tryd.ntmps31
  go_wp2_with (first | (go_at_call 64; refine (wsub_any HH.out _ _).mono ?_; rintro e w' ⟨rfl, rfl⟩) | (go_at_call 63; refine (wmul_any HH.out _ _).mono ?_; rintro e w' ⟨rfl, rfl⟩))
  go_ret
  exact ⟨ret_int HR.out.symm, Ext.refl _⟩
end
end Go.Proofs.YtionlicgaifblaaDoor
