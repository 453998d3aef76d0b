/- Tables: what is helped with: plain words and the program's contract. -/
import Derived.Test.YtainhfnanamobaaGreatDoorHa
import Derived.Test.YtainhfnanamobaaGreatDoorIq
import Derived.Test.YtainhfnanamobaaGreatDoorM2
namespace Go.Att
open Go.RowKit
/-- What is helped with. -/
def hintM (p op a b : Int) : Int := if op = 4 then finv p b else if op = 6 then finv p (fsub p a b) else if op = 9 then finv p a else 0
end Go.Att
namespace Go.Proofs.YtainhfnanamobaaGreatDoor
open Go.RowKit Go.Att
set_option maxHeartbeats 4000000 in
theorem helped_any {w : World} {f : Value} {p g : Int} {fs : List Int} (hf : Fld w f p g fs) (op a b c : Int) : Calls Tryz.prog 46 #[f, .int .i64 op, .agg #[.int .i64 a, .int .i64 b, .int .i64 c]] w fun e w' => e = .returned (.int .i64 (hintM p op a b)) ∧ Ext w w' := by
  have hx := Ext.alloc w (Obj.cells #[.int .i64 a, .int .i64 b, .int .i64 c] 92)
  have HX := Lib.hid hx; have HF := Lib.hid (hf.ext hx)
  obtain ⟨bf, rfl⟩ := hf.ptr
  clear hf hx
  obtain ⟨r, hr⟩ : ∃ r, hintM p op a b = r := ⟨_, rfl⟩
  rw [hr]
  by_cases h4 : op = 4
  · have HR := Lib.hid (show finv p b = r by rw [← hr]; unfold hintM; rw [if_pos h4])
    subst h4
    clear hr
    go_enter Tryz.func46, Tryz.ntmps46
    go_wp2_with (go_at_call 92; refine (inv_any HF.out _).mono ?_; rintro e w' hrd; obtain ⟨rfl, hx1⟩ := hrd.ext; clear hrd)
    go_ret
    exact ⟨ret_int HR.out, HX.out.trans hx1⟩
  by_cases h6 : op = 6
  · have HR := Lib.hid (show finv p (fsub p a b) = r by rw [← hr]; unfold hintM; rw [if_neg h4, if_pos h6])
    subst h6
    clear hr h4
    go_enter Tryz.func46, Tryz.ntmps46
    go_wp2_with (first | (go_at_call 93; refine (sub_any HF.out _ _).mono ?_; rintro e w' hrd; obtain ⟨rfl, hx1⟩ := hrd.ext; clear hrd; replace HF := Lib.hid (HF.out.ext hx1)) | (go_at_call 92; refine (inv_any HF.out _).mono ?_; rintro e w' hrd; obtain ⟨rfl, hx2⟩ := hrd.ext; clear hrd))
    go_ret
    exact ⟨ret_int HR.out, HX.out.trans (hx1.trans hx2)⟩
  by_cases h9 : op = 9
  · have HR := Lib.hid (show finv p a = r by rw [← hr]; unfold hintM; rw [if_neg h4, if_neg h6, if_pos h9])
    subst h9
    clear hr h4 h6
    go_enter Tryz.func46, Tryz.ntmps46
    go_wp2_with (go_at_call 92; refine (inv_any HF.out _).mono ?_; rintro e w' hrd; obtain ⟨rfl, hx1⟩ := hrd.ext; clear hrd)
    go_ret
    exact ⟨ret_int HR.out, HX.out.trans hx1⟩
  · have HR := Lib.hid (show (0 : Int) = r by rw [← hr]; unfold hintM; rw [if_neg h4, if_neg h6, if_neg h9])
    have b4 : (op == 4) = false := by rw [beq_eq_false_iff_ne]; exact h4
    have b6 : (op == 6) = false := by rw [beq_eq_false_iff_ne]; exact h6
    have b9 : (op == 9) = false := by rw [beq_eq_false_iff_ne]; exact h9
    clear hr h4 h6 h9
    go_enter Tryz.func46, Tryz.ntmps46
    go_wp2_with fail
    go_ret
    exact ⟨ret_int HR.out, HX.out⟩
/-- How wide a row is. -/
theorem twidth_any (sz : Int) (lv : Value) (cd : List In4) (w : World) (hc : Inqs w lv cd) (hs : cd.length ≤ 1048576) : Calls Tryz.prog 20 #[.agg #[.int .i64 sz, lv]] w fun e w' => e = .returned (.int .i64 (20 + cd.length)) ∧ Ext w w' := by
  have hll := fun w' => hc.run_len (P := Tryz.prog) slIns 3 w'
  obtain ⟨ao, cap, rfl⟩ := hc.shape
  go_enter Tryz.func20, Tryz.ntmps20
  go_wp2_with fail
  go_ret
  exact ⟨rfl, Ext.alloc _ _⟩
end Go.Proofs.YtainhfnanamobaaGreatDoor
