/- RulesBroken: the document's side: a sum over all instructions; the order of two pairs. -/
import Derived.Test.YtionlicgaifblaaDoorK8
namespace Go.Proofs.YtionlicgaifblaaDoor
open Go.RowKit Go.Att
section
variable {w : World} {q : Nat} {p sz out : Int} {cd : List In4} {lv rv nv : Value} {r n : List Int}
set_option maxRecDepth 100000 in
set_option maxHeartbeats 4000000 in
theorem wsum_any (h : WAt w q p sz out cd lv rv nv r n) (hs : cd.length ≤ 1048576) (g : Nat) (gi : Int) (hg : (g = 0 ∧ gi = 0) ∨ (g = 1 ∧ gi = 1) ∨ (g = 2 ∧ gi = 2) ∨ (g = 3 ∧ gi = 3) ∨ (g = 4 ∧ gi = 4) ∨ (g = 5 ∧ gi = 5) ∨ (g = 6 ∧ gi = 6) ∨ (g = 7 ∧ gi = 7) ∨ (g = 8 ∧ gi = 8) ∨ (g = 9 ∧ gi = 9)) : Calls Tryd.prog 66 #[.pointer (some ⟨q, 0, none⟩), .int .i64 gi] w fun e w' => e = .returned (.int .i64 (sumD p r cd (ofD p r g) cd.length)) ∧ Ext w w' := by
  have hll := h.code.run_len (P := Tryd.prog) slIns
  have hlr := h.lr
  have HB := Lib.hid h; have HG := Lib.hid hg
  clear h hg
  go_enter Tryd.func66, Tryd.ntmps66
  go_wp2_with fail
  go_loopw [5, 6] (fun x5 x6 wr => ∃ i : Nat, i ≤ cd.length ∧ x6 = .int .i64 i ∧ x5 = .int .i64 (sumD p r cd (ofD p r g) i) ∧ Hid (Ext w wr)) (fun _ x6 _ => cd.length - (intOf x6).toNat)
  case atStart => exact ⟨0, Nat.zero_le _, rfl, rfl, Lib.hid (Ext.refl _)⟩
  case round =>
    obtain ⟨i, hi, rfl, rfl, HX⟩ := hrel
    have HW := Lib.hid (HB.out.ext HX.out)
    have c2 := HW.out.c2
    by_cases hil : i < cd.length
    · have C := wof_any HW.out i hil hs g gi HG.out
      have HS := Lib.hid (show sumD p r cd (ofD p r g) (i + 1) = fadd p (sumD p r cd (ofD p r g) i) (fmul p (ofD p r g i (nthI cd i)) (nth r (20 + i))) from rfl)
      generalize ofD p r g i (nthI cd i) = y at *
      generalize sumD p r cd (ofD p r g) i = s at *
      have hix : ∀ w', (Instr.indexAt 64 rv (.int .i64 (20 + (i : Int)))).run Tryd.prog w' = .ok (.pointer (some (elt rv (20 + i) 1))) w' := by
        intro w'
        have := HB.out.row.run_index (P := Tryd.prog) slInts (20 + i) (by omega) w'
        simpa using this
      go_wp2_with fail
      refine C.mono ?_
      rintro e w1 ⟨rfl, hx1⟩
      have HW1 := Lib.hid (HW.out.ext hx1)
      have HX1 := Lib.hid (HX.out.trans hx1)
      have c4 := HW1.out.c4
      have d := HW1.out.row.cell (20 + i) (by omega)
      clear C hx1 c2
      go_wp2_with (first | (go_at_call 63; refine (wmul_any HW1.out _ _).mono ?_; rintro e w' ⟨rfl, rfl⟩) | (go_at_call 65; refine (wadd_any HW1.out _ _).mono ?_; rintro e w' ⟨rfl, rfl⟩))
      go_roundw
      case rel => exact ⟨i + 1, by omega, by go_num, by rw [HS.out], HX1⟩
      case measure => simp [intOf]; omega
    · obtain rfl : i = cd.length := by omega
      go_wp2_with fail
      go_ret
      exact ⟨rfl, HX.out⟩
set_option maxRecDepth 100000 in
set_option maxHeartbeats 4000000 in
theorem word_any (h : WAt w q p sz out cd lv rv nv r n) (a v b u : Int) (t : Bool) : Calls Tryd.prog 67 #[.pointer (some ⟨q, 0, none⟩), .int .i64 a, .int .i64 v, .int .i64 b, .int .i64 u, .bool t] w fun e w' => e = .returned (.int .i64 (ordD p a v b u t)) ∧ w = w' := by
  have HB := Lib.hid h
  clear h
  cases t
  all_goals
    go_enter Tryd.func67, Tryd.ntmps67
    go_wp2_with (first | (go_at_call 64; refine (wsub_any HB.out _ _).mono ?_; rintro e w' ⟨rfl, rfl⟩) | (go_at_call 63; refine (wmul_any HB.out _ _).mono ?_; rintro e w' ⟨rfl, rfl⟩))
    go_ret
    exact ⟨rfl, rfl⟩
end
end Go.Proofs.YtionlicgaifblaaDoor
