/- The document's powers, orders, generators, roots: contracts. -/
import Derived.Test.YtgnomhbbbcfehaaGreatDoorZx16
import Derived.Deep.RegionWith
/-! The document's powers, orders, generators, roots: contracts. -/
namespace Go.Att
end Go.Att
namespace Go.Proofs.YtgnomhbbbcfehaaGreatDoor
open Go.RowKit Go.Att

def OrdIs (p a : Int) : Ending → World → World → Prop := fun e w w' => ∃ r, e = .returned (.int .i64 r) ∧ w = w' ∧ (r = p - 1 ↔ IsGen p a)
theorem OrdIs.mk {p a r : Int} {e : Ending} {w : World} (h1 : e = .returned (.int .i64 r)) (h2 : r = p - 1 ↔ IsGen p a) : OrdIs p a e w w := ⟨r, h1, rfl, h2⟩

end Go.Proofs.YtgnomhbbbcfehaaGreatDoor
/-! The document's division: contract. -/
namespace Go.Proofs.YtgnomhbbbcfehaaGreatDoor
open Go.RowKit Go.Att

end Go.Proofs.YtgnomhbbbcfehaaGreatDoor
/-! The program's inverses, powers, roots: contracts. -/
namespace Go.Proofs.YtgnomhbbbcfehaaGreatDoor
open Go.RowKit Go.Att

section
variable {w : World} {f : Value} {p g : Int} {fs : List Int}
theorem p_any (hf : Fld w f p g fs) : Calls Tryz.prog 116 #[f] w (Rd w (.int .i64 p)) := by
  obtain ⟨⟨b', v, rfl, hc, -, -, -⟩, -, -, -⟩ := hf
  go_enter Tryz.func116, Tryz.ntmps116
  go_wp2
  go_ret; exact .same rfl
theorem inv_any (hf : Fld w f p g fs) (a : Int) : Calls Tryz.prog 166 #[f, .int .i64 a] w (Rd w (.int .i64 (finv p a))) := by
  have C := Lib.hid hf
  obtain ⟨⟨b', v, rfl, hc, -, -, -⟩, -, lo, hi⟩ := hf
  go_enter Tryz.func166, Tryz.ntmps166
  go_wp2_with (go_at_call 86; refine (power_int C.out _ _ (by omega) (by omega)).mono ?_; rintro e w' ⟨rfl, m, rfl⟩)
  go_ret; exact .more _ (ret_int (finv_eq _ _))
end
end Go.Proofs.YtgnomhbbbcfehaaGreatDoor
