/- RulesBroken: the document's side: what is summed up of an instruction. -/
import Derived.Test.YtionlicgaifblaaDoorK4
import Derived.Test.YtionlicgaifblaaDoorK5
import Derived.Test.YtionlicgaifblaaDoorK6
import Derived.Test.YtionlicgaifblaaDoorK7
namespace Go.Att
/-- What is summed up of an instruction, for a kind of rule. -/
def ofD (p : Int) (r : List Int) (kind : Nat) (k : Nat) (x : In4) : Int :=
  if kind < 3 then cellD p r kind k x else if kind = 3 then doesK p r k x else if kind = 4 then moreK p r k x else if kind = 5 then goesD p r k x
  else if kind < 9 then Go.Proofs.YtionlicgaifblaaDoor.regK p r (kind - 6) k x else haltK k x
end Go.Att
namespace Go.Proofs.YtionlicgaifblaaDoor
open Go.RowKit Go.Att
section
variable {w : World} {q : Nat} {p sz out : Int} {cd : List In4} {lv rv nv : Value} {r n : List Int}
set_option maxRecDepth 100000 in
set_option maxHeartbeats 4000000 in
theorem wof_any (h : WAt w q p sz out cd lv rv nv r n) (k : Nat) (hk : k < cd.length) (hs : cd.length ≤ 1048576) (g : Nat) (gi : Int) (hg : (g = 0 ∧ gi = 0) ∨ (g = 1 ∧ gi = 1) ∨ (g = 2 ∧ gi = 2) ∨ (g = 3 ∧ gi = 3) ∨ (g = 4 ∧ gi = 4) ∨ (g = 5 ∧ gi = 5) ∨ (g = 6 ∧ gi = 6) ∨ (g = 7 ∧ gi = 7) ∨ (g = 8 ∧ gi = 8) ∨ (g = 9 ∧ gi = 9)) : Calls Tryd.prog 86 #[.pointer (some ⟨q, 0, none⟩), .int .i64 gi, .int .i64 k] w fun e w' => e = .returned (.int .i64 (ofD p r g k (nthI cd k))) ∧ Ext w w' := by
  have hix := h.code.run_index (P := Tryd.prog) slIns k hk
  have e0 := h.code.c0 k hk
  have e1 := h.code.c1 k hk
  have e2 := h.code.c2 k hk
  have e3 := h.code.c3 k hk
  have c2 := h.c2
  generalize hxk : nthI cd k = x at *
  obtain ⟨op, a, b, c⟩ := x
  have hx := Ext.alloc w (Obj.cells #[.int .i64 op, .int .i64 a, .int .i64 b, .int .i64 c] 93)
  have H := h.ext hx
  have C4 := walso_any H k hk hs
  have C5 := wnext_any H k hk hs
  rw [hxk] at C4 C5
  have HH := Lib.hid H
  have HXX := Lib.hid hx
  clear h H hx hxk
  rcases hg with ⟨rfl, rfl⟩ | ⟨rfl, rfl⟩ | ⟨rfl, rfl⟩ | ⟨rfl, rfl⟩ | ⟨rfl, rfl⟩ | ⟨rfl, rfl⟩ | ⟨rfl, rfl⟩ | ⟨rfl, rfl⟩ | ⟨rfl, rfl⟩ | ⟨rfl, rfl⟩
  · go_enter Tryd.func86, Tryd.ntmps86
    go_wp2_with fail
    refine (wcell_any HH.out k ⟨op, a, b, c⟩ 0 0 (by simp)).mono ?_
    rintro e w1 ⟨rfl, hx1⟩
    clear C4 C5
    go_wp2_with fail
    go_ret
    exact ⟨rfl, HXX.out.trans hx1⟩
  · go_enter Tryd.func86, Tryd.ntmps86
    go_wp2_with fail
    refine (wcell_any HH.out k ⟨op, a, b, c⟩ 1 1 (by simp)).mono ?_
    rintro e w1 ⟨rfl, hx1⟩
    clear C4 C5
    go_wp2_with fail
    go_ret
    exact ⟨rfl, HXX.out.trans hx1⟩
  · go_enter Tryd.func86, Tryd.ntmps86
    go_wp2_with fail
    refine (wcell_any HH.out k ⟨op, a, b, c⟩ 2 2 (by simp)).mono ?_
    rintro e w1 ⟨rfl, hx1⟩
    clear C4 C5
    go_wp2_with fail
    go_ret
    exact ⟨rfl, HXX.out.trans hx1⟩
  · go_enter Tryd.func86, Tryd.ntmps86
    go_wp2_with fail
    refine (wdoes_any HH.out k ⟨op, a, b, c⟩).mono ?_
    rintro e w1 ⟨rfl, hx1⟩
    clear C4 C5
    go_wp2_with fail
    go_ret
    exact ⟨rfl, HXX.out.trans hx1⟩
  · go_enter Tryd.func86, Tryd.ntmps86
    go_wp2_with fail
    refine (C4).mono ?_
    rintro e w1 ⟨rfl, hx1⟩
    clear C4 C5
    go_wp2_with fail
    go_ret
    exact ⟨rfl, HXX.out.trans hx1⟩
  · go_enter Tryd.func86, Tryd.ntmps86
    go_wp2_with fail
    refine (C5).mono ?_
    rintro e w1 ⟨rfl, hx1⟩
    clear C4 C5
    go_wp2_with fail
    go_ret
    exact ⟨rfl, HXX.out.trans hx1⟩
  · go_enter Tryd.func86, Tryd.ntmps86
    go_wp2_with fail
    refine (wreg_any HH.out k ⟨op, a, b, c⟩ 0 0 (by simp)).mono ?_
    rintro e w1 ⟨rfl, hx1⟩
    clear C4 C5
    go_wp2_with fail
    go_ret
    exact ⟨rfl, HXX.out.trans hx1⟩
  · go_enter Tryd.func86, Tryd.ntmps86
    go_wp2_with fail
    refine (wreg_any HH.out k ⟨op, a, b, c⟩ 1 1 (by simp)).mono ?_
    rintro e w1 ⟨rfl, hx1⟩
    clear C4 C5
    go_wp2_with fail
    go_ret
    exact ⟨rfl, HXX.out.trans hx1⟩
  · go_enter Tryd.func86, Tryd.ntmps86
    go_wp2_with fail
    refine (wreg_any HH.out k ⟨op, a, b, c⟩ 2 2 (by simp)).mono ?_
    rintro e w1 ⟨rfl, hx1⟩
    clear C4 C5
    go_wp2_with fail
    go_ret
    exact ⟨rfl, HXX.out.trans hx1⟩
  · clear C4 C5
    by_cases h0 : op = 0
    · subst h0
      go_enter Tryd.func86, Tryd.ntmps86
      go_wp2_with fail
      go_ret
      exact ⟨rfl, HXX.out⟩
    · have hb : (op == 0) = false := beq_eq_false_iff_ne.2 h0
      have HN := Lib.hid (show haltK k ⟨op, a, b, c⟩ = 0 from if_neg h0)
      clear h0
      go_enter Tryd.func86, Tryd.ntmps86
      go_wp2_with fail
      go_ret
      exact ⟨ret_int HN.out.symm, HXX.out⟩
end
end Go.Proofs.YtionlicgaifblaaDoor
