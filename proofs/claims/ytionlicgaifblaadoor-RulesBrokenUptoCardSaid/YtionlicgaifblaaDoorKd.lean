/- RulesBroken: the document's side: a rule: the fifth behind the instructions' (the pattern for its like). -/
import Derived.Test.YtionlicgaifblaaDoorKc
namespace Go.Proofs.YtionlicgaifblaaDoor
open Go.RowKit Go.Att
section
variable {w : World} {q : Nat} {p sz out : Int} {cd : List In4} {lv rv nv : Value} {r n : List Int}
set_option maxRecDepth 100000 in
set_option maxHeartbeats 4000000 in
theorem wrule_4 (h : WAt w q p sz out cd lv rv nv r n) (hs : cd.length ≤ 1048576) (x : Int) (hx : x = cd.length + 4) : Calls Tryd.prog 31 #[.pointer (some ⟨q, 0, none⟩), .int .i64 x] w fun e w' => e = .returned (.int .i64 (tailD p sz out cd r n 4)) ∧ Ext w w' := by
  have hll := h.code.run_len (P := Tryd.prog) slIns
  have c2 := h.c2
  have c4 := h.c4
  have HH := Lib.hid h
  have C := wsum_any h hs 3 3 (by simp)
  clear h
  have hy : x - (cd.length : Int) = 4 := by omega
  go_enter Tryd.func31, Tryd.ntmps31
  go_wp2_with fail
  rw [show (cd.length : Int) + 4 - cd.length - 1 = 3 by omega]
  refine C.mono ?_
  rintro e w1 ⟨rfl, hx1⟩
  go_wp2_with fail
  go_ret
  exact ⟨rfl, hx1⟩
end
end Go.Proofs.YtionlicgaifblaaDoor
