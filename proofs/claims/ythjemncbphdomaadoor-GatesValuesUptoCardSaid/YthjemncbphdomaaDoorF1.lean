/- The numbers modulo a prime, as the document has them and as the program has them: contracts. -/
import Derived.Test.YthjemncbphdomaaDoorVoc
import Derived.Test.YthjemncbphdomaaDoorProg
namespace Go.Proofs.YthjemncbphdomaaDoor
open Go.RowKit Go.Att

set_option maxHeartbeats 400000 in
theorem rof_any (p n : Int) (w : World) (hp : 2 ≤ p) (hp2 : p ≤ 2147483647) :
    Calls Tryd.prog 93 #[.int .i64 p, .int .i64 n] w fun e w' => e = .returned (.int .i64 (fof p n)) ∧ w = w' := by
  obtain ⟨h1, h2, h3, h4⟩ := tm hp n
  have H3 := Lib.hid h3; have H4 := Lib.hid h4; clear h3 h4
  go_enter Tryd.func93, Tryd.ntmps93
  go_wp2
  · have hn : n.tmod p < 0 := by assumption
    go_ret; exact ⟨ret_int (H3.out hn), rfl⟩
  · have hn : 0 ≤ n.tmod p := by assumption
    go_ret; exact ⟨ret_int (H4.out hn), rfl⟩

set_option maxHeartbeats 400000 in
theorem radd_any (p a b : Int) (w : World) (hp : 2 ≤ p) (hp2 : p ≤ 2147483647) :
    Calls Tryd.prog 48 #[.int .i64 p, .int .i64 a, .int .i64 b] w fun e w' => e = .returned (.int .i64 (fadd p a b)) ∧ w = w' := by
  have hx := fof_bd hp a
  have hy := fof_bd hp b
  go_enter Tryd.func48, Tryd.ntmps48
  go_wp2_with (go_at_call 93; refine (rof_any _ _ _ hp hp2).mono ?_; rintro e w' ⟨rfl, rfl⟩)
  go_ret; exact ⟨ret_int (fadd_of _ _ _), rfl⟩

set_option maxHeartbeats 400000 in
theorem rsub_any (p a b : Int) (w : World) (hp : 2 ≤ p) (hp2 : p ≤ 2147483647) :
    Calls Tryd.prog 63 #[.int .i64 p, .int .i64 a, .int .i64 b] w fun e w' => e = .returned (.int .i64 (fsub p a b)) ∧ w = w' := by
  have hx := fof_bd hp a
  have hy := fof_bd hp b
  go_enter Tryd.func63, Tryd.ntmps63
  go_wp2_with (go_at_call 93; refine (rof_any _ _ _ hp hp2).mono ?_; rintro e w' ⟨rfl, rfl⟩)
  go_ret; exact ⟨ret_int (fsub_of' _ _ _), rfl⟩

set_option maxHeartbeats 400000 in
theorem rmul_any (p a b : Int) (w : World) (hp : 2 ≤ p) (hp2 : p ≤ 2147483647) :
    Calls Tryd.prog 57 #[.int .i64 p, .int .i64 a, .int .i64 b] w fun e w' => e = .returned (.int .i64 (fmul p a b)) ∧ w = w' := by
  have hx := fof_bd hp a
  have hy := fof_bd hp b
  have hm := mul_small hp hp2 hx hy
  go_enter Tryd.func57, Tryd.ntmps57
  go_wp2_with (go_at_call 93; refine (rof_any _ _ _ hp hp2).mono ?_; rintro e w' ⟨rfl, rfl⟩)
  go_ret; exact ⟨ret_int (fmul_of _ _ _), rfl⟩

/-! The program's. -/
section
variable {w : World} {f : Value} {p g : Int} {fs : List Int}
set_option maxHeartbeats 400000 in
theorem of_any (hf : Fld w f p g fs) (n : Int) :
    Calls Tryd.prog 91 #[f, .int .i64 n] w (Rd w (.int .i64 (fof p n))) := by
  obtain ⟨⟨b, v, rfl, hc, -, -, -⟩, -, lo, hi⟩ := hf
  obtain ⟨h1, h2, h3, h4⟩ := tm (show 2 ≤ p by omega) n
  have H3 := Lib.hid h3; have H4 := Lib.hid h4; clear h3 h4
  go_enter Tryd.func91, Tryd.ntmps91
  go_wp2
  · have hn : n.tmod p < 0 := by assumption
    go_ret; exact .same (ret_int (H3.out hn))
  · have hn : 0 ≤ n.tmod p := by assumption
    go_ret; exact .same (ret_int (H4.out hn))

/-- In a region: the same, after any draws. -/
theorem of_q (hf : Fld w f p g fs) (x : Int) (n : Nat) :
    Calls Tryd.prog 91 #[f, .int .i64 x] (w.drewN n) fun e w'' => e = .returned (.int .i64 (fof p x)) ∧ ∃ m, w'' = w.drewN m := Calls.quiet_of (of_any (hf.drewN n) x)

set_option maxHeartbeats 400000 in
theorem add_any (hf : Fld w f p g fs) (a b : Int) :
    Calls Tryd.prog 62 #[f, .int .i64 a, .int .i64 b] w (Rd w (.int .i64 (fadd p a b))) := by
  have C := Lib.hid hf
  obtain ⟨⟨b', v, hf', hc, -, -, -⟩, -, lo, hi⟩ := hf
  have hx := fof_bd (show 2 ≤ p by omega) a
  have hy := fof_bd (show 2 ≤ p by omega) b
  subst hf'
  go_enter Tryd.func62, Tryd.ntmps62
  go_wp2
  go_quiet ((go_at_call 91; exact of_q C.out _ _))
  go_wp2
  go_ret; exact .more _ (ret_int (fadd_of _ _ _))
theorem add_q (hf : Fld w f p g fs) (x y : Int) (n : Nat) :
    Calls Tryd.prog 62 #[f, .int .i64 x, .int .i64 y] (w.drewN n) fun e w'' => e = .returned (.int .i64 (fadd p x y)) ∧ ∃ m, w'' = w.drewN m := Calls.quiet_of (add_any (hf.drewN n) x y)

set_option maxHeartbeats 400000 in
theorem mul_any (hf : Fld w f p g fs) (a b : Int) :
    Calls Tryd.prog 60 #[f, .int .i64 a, .int .i64 b] w (Rd w (.int .i64 (fmul p a b))) := by
  have C := Lib.hid hf
  obtain ⟨⟨b', v, hf', hc, -, -, -⟩, -, lo, hi⟩ := hf
  have hx := fof_bd (show 2 ≤ p by omega) a
  have hy := fof_bd (show 2 ≤ p by omega) b
  have hm := mul_small (by omega) hi hx hy
  subst hf'
  go_enter Tryd.func60, Tryd.ntmps60
  go_wp2
  go_quiet ((go_at_call 91; exact of_q C.out _ _))
  go_wp2
  go_ret; exact .more _ (ret_int (fmul_of _ _ _))
theorem mul_q (hf : Fld w f p g fs) (x y : Int) (n : Nat) :
    Calls Tryd.prog 60 #[f, .int .i64 x, .int .i64 y] (w.drewN n) fun e w'' => e = .returned (.int .i64 (fmul p x y)) ∧ ∃ m, w'' = w.drewN m := Calls.quiet_of (mul_any (hf.drewN n) x y)

set_option maxHeartbeats 400000 in
theorem sub_any (hf : Fld w f p g fs) (a b : Int) :
    Calls Tryd.prog 61 #[f, .int .i64 a, .int .i64 b] w (Rd w (.int .i64 (fsub p a b))) := by
  have hx := fof_bd hf.two a
  have hy := fof_bd hf.two b
  have hi := hf.hi
  have C := Lib.hid hf; clear hf
  go_enter Tryd.func61, Tryd.ntmps61
  go_wp2_with (go_at_call 91; (first | refine (of_any C.out _).mono ?_ | refine (of_any (C.out.drewN _) _).mono ?_); rintro e w' ⟨rfl, n, rfl⟩)
  go_ret; exact .more _ (ret_int (fsub_of _ _ _))
theorem sub_q (hf : Fld w f p g fs) (x y : Int) (n : Nat) :
    Calls Tryd.prog 61 #[f, .int .i64 x, .int .i64 y] (w.drewN n) fun e w'' => e = .returned (.int .i64 (fsub p x y)) ∧ ∃ m, w'' = w.drewN m := Calls.quiet_of (sub_any (hf.drewN n) x y)
end
end Go.Proofs.YthjemncbphdomaaDoor
