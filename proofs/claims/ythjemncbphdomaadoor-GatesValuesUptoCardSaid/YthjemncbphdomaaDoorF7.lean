/- A field on both sides: contract. -/
import Derived.Test.YthjemncbphdomaaDoorF6
namespace Go.Proofs.YthjemncbphdomaaDoor
open Go.RowKit Go.Att

set_option maxHeartbeats 1000000 in
theorem sfield_bad (p : Int) (w : World) (h : ¬ okP p) (hg : Hnd w) :
    Calls Tryd.prog 13 #[.int .i64 p] w (Gives w fun v _ => v = .tuple #[.pointer none, .bool true]) := by
  have HB := Lib.hid (okB_false h); have H := Lib.hid h; clear h
  have HG := Lib.hid hg; clear hg
  go_enter Tryd.func13, Tryd.ntmps13
  go_wp2_with (first | (go_at_call 55; refine (new_bad _ _ H.out).mono ?_; rintro e w' ⟨rfl, rfl⟩) | (go_at_call 56; refine (rprime_any _ _).mono ?_; rintro e w' ⟨rfl, rfl⟩; rw [HB.out]) | (go_at_call 24; refine (error_any 1 1 _ HG.out).mono ?_; rintro e w' ⟨rfl, hx⟩))
  go_ret2
  exact .mk _ rfl hx rfl

set_option maxHeartbeats 1000000 in
theorem sfield_ok (p : Int) (w : World) (h : okP p) (hg : Hnd w) :
    Calls Tryd.prog 13 #[.int .i64 p] w (Gives w fun v w' => ∃ f g, v = .tuple #[f, .bool true] ∧ FieldOf w' f p g) := by
  have HB := Lib.hid (okB_true h); have H := Lib.hid h; clear h
  have HG := Lib.hid hg; clear hg
  go_enter Tryd.func13, Tryd.ntmps13
  go_wp2_with (first | (go_at_call 55; refine (new_ok _ _ H.out).mono ?_; rintro e w1 ⟨v, rfl, hx, f, g, rfl, hf⟩; obtain ⟨b, rfl⟩ := hf.ptr) | (go_at_call 56; refine (rprime_any _ _).mono ?_; rintro e w' ⟨rfl, rfl⟩; rw [HB.out]) | (go_at_call 24; refine (error_any 0 0 _ (HG.out.ext hx)).mono ?_; rintro e w2 ⟨rfl, hx2⟩))
  go_ret2
  exact .mk _ rfl (hx.trans hx2) ⟨_, g, rfl, hf.ext hx2⟩
end Go.Proofs.YthjemncbphdomaaDoor
