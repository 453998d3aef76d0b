/- RulesAlike: THE LAST COLUMN: the law's walk: for every input it returns true and leaves all that was there as it was. -/
import Derived.Test.YthpgmjdepigihaaDoorA4
import Derived.Test.YthpgmjdepigihaaDoorA6
import Derived.Test.YthpgmjdepigihaaDoorSa
namespace Go.Proofs.YthpgmjdepigihaaDoor
open Go.RowKit Go.Att
set_option maxRecDepth 100000 in
set_option maxHeartbeats 4000000 in
theorem rulesAlike_bad (p : Int) (v : Value) (x y : Int) (w : World) (h : ¬ okP p) (hg : Hnd w) :
    Calls Tryd.prog 6 #[.int .i64 p, v, .int .i64 x, .int .i64 y] w fun e w' => e = .returned (.bool true) ∧ Ext w w' := by
  have H := Lib.hid h; have HG := Lib.hid hg; clear h hg
  go_enter Tryd.func6, Tryd.ntmps6
  go_wp2_with (go_at_call 15; refine (sfield_bad _ _ H.out HG.out).mono ?_; rintro e w' ⟨v, rfl, hx, rfl⟩)
  go_ret
  exact ⟨rfl, hx⟩

set_option maxRecDepth 100000 in
set_option maxHeartbeats 4000000 in
theorem rulesAlike_ok (p : Int) (v : Value) (L : List (List Int)) (x y : Int) (w : World) (h : okP p) (hg : Hnd w) (hv : Rws w v L) (hs : L.length ≤ 1048576) (hrs : ∀ i, i < L.length → (nthL L i).length ≤ 1048576) :
    Calls Tryd.prog 6 #[.int .i64 p, v, .int .i64 x, .int .i64 y] w fun e w' => e = .returned (.bool true) ∧ Ext w w' := by
  have H := Lib.hid h; have HG := Lib.hid hg
  obtain ⟨hp, lo, hi⟩ := h
  have hp2 : 2 ≤ p := by omega
  have HV := Lib.hid hv; have HRS := Lib.hid hrs
  clear hg hp hv hrs
  go_enter Tryd.func6, Tryd.ntmps6
  go_wp2_with (go_at_call 15; refine (sfield_ok _ _ H.out HG.out).mono ?_; rintro e w1 ⟨v1, rfl, hx, f, g, rfl, hf⟩; obtain ⟨bf, rfl⟩ := hf.ptr)
  obtain ⟨fs, hfl⟩ := hf.fld
  have HF := Lib.hid hfl
  have HX := Lib.hid hx
  clear hf hfl hx
  have C := copied_any v L w1 (HV.out.ext HX.out) hs HRS.out
  refine C.mono ?_
  rintro e w2 ⟨u, rfl, hx2, hu⟩
  have HX2 := Lib.hid (HX.out.trans hx2)
  have HU := Lib.hid hu
  have HF2 := Lib.hid (HF.out.ext hx2)
  clear C hx2 hu HF HX
  go_wp2_with fail
  refine (alike_any HF2.out u L HU.out hs).mono ?_
  rintro e w3 ⟨rfl, hx3⟩
  have HX3 := Lib.hid (HX2.out.trans hx3)
  have HU3 := Lib.hid (HU.out.ext hx3)
  have HF3 := Lib.hid (HF2.out.ext hx3)
  clear hx3 HX2 HU HF2
  generalize hA : alikeB p L = A
  have HA := Lib.hid hA
  clear hA
  go_wp2_with fail
  refine (ralike_any p v L w3 (HV.out.ext HX3.out) hs hp2 hi).mono ?_
  rw [HA.out]
  rintro e w4 ⟨rfl, hx4⟩
  have HX4 := Lib.hid (HX3.out.trans hx4)
  have HU4 := Lib.hid (HU3.out.ext hx4)
  have HF4 := Lib.hid (HF3.out.ext hx4)
  clear hx4 HX3 HU3 HF3
  go_wp2_with fail
  refine (product_any HF4.out u L x y HU4.out hs).mono ?_
  rintro e w5 ⟨v5, rfl, hx5, l5, rfl, h5⟩
  have HX5 := Lib.hid (HX4.out.trans hx5)
  have HU5 := Lib.hid (HU4.out.ext hx5)
  have H5 := Lib.hid h5
  clear hx5 HX4 HU4 HF4 h5
  generalize hB : prodB p x y L = B
  have HB := Lib.hid hB
  clear hB
  go_wp2_with fail
  refine (rcol_any p x y v L w5 (HV.out.ext HX5.out) hs hp2 hi).mono ?_
  rintro e w6 ⟨v6, rfl, hx6, l6, rfl, h6⟩
  rw [HB.out]
  have HX6 := Lib.hid (HX5.out.trans hx6)
  have HU6 := Lib.hid (HU5.out.ext hx6)
  have C7 := sints_any l5 l6 _ _ w6 (H5.out.ext hx6) h6
  rw [decide_eq_true rfl] at C7
  clear hx6 HX5 HU5 h6 H5
  go_wp2_with fail
  refine C7.mono ?_
  rintro e w7 hrd
  obtain ⟨rfl, hx7⟩ := hrd.ext
  have C8 := srows_any u v L L w7 (HU6.out.ext hx7) (HV.out.ext (HX6.out.trans hx7))
  rw [decide_eq_true rfl] at C8
  have HX7 := Lib.hid (HX6.out.trans hx7)
  clear hrd hx7 HX6 HU6 C7
  go_wp2_with fail
  refine C8.mono ?_
  rintro e w8 hrd
  obtain ⟨rfl, hx8⟩ := hrd.ext
  have HX8 := Lib.hid (HX7.out.trans hx8)
  clear hrd hx8 HX7 C8
  cases A <;> cases B <;> (go_wp2_with fail; go_ret; exact ⟨rfl, HX8.out⟩)
end Go.Proofs.YthpgmjdepigihaaDoor
