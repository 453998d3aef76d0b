/- SourceAgain: the law's walk. -/
import Derived.Test.YtejkepihicphlaaGreatDoorSsz
import Derived.Test.YtejkepihicphlaaGreatDoorStb
import Derived.Test.YtejkepihicphlaaGreatDoorZx11
namespace Go.Proofs.YtejkepihicphlaaGreatDoor
open Go.RowKit Go.Att Go.Shelf
theorem errR_ext {w w' : World} (h : ErrR w) (hx : Ext w w') : ErrR w' := h.ext hx
theorem tab_ext {w w' : World} (h : Tab10 w) (hx : Ext w w') : Tab10 w' := h.ext hx
set_option maxRecDepth 100000 in
set_option maxHeartbeats 8000000 in
theorem sourceAgain_any {L : List UInt8} {w : World} (herr : ErrR w) (htab : Tab10 w) :
    Calls Tryz.prog 3 #[.string ⟨L.toArray⟩] w fun e w' => e = .returned (.bool true) ∧ Ext w w' := by
  obtain ⟨jA, hpA⟩ := txA_ok
  have hA := sparse_any (w := w) (L := txA) herr
  rw [hpA] at hA
  have HE := Lib.hid herr; have HT := Lib.hid htab
  clear herr htab
  go_enter Tryz.func3, Tryz.ntmps3
  go_wp2_with fail
  refine Calls.mono (show Calls Tryz.prog 7 #[.string { data := #[102, 110, 32, 109, 97, 105, 110, 40, 41, 61, 40, 49, 45, 40, 50, 45, 51, 41, 41, 42, 45, 40, 52, 43, 53, 41] }] w _ from hA) ?_
  clear hA
  rintro e w1 ⟨q1, fv1, rfl, hl1, hq1, hb1, hf1, hx1⟩
  have HB1 := Lib.hid hb1; have HF1 := Lib.hid hf1; have HX1 := Lib.hid hx1
  clear hl1 hq1 hb1 hf1 hx1
  go_wp2_with fail
  obtain ⟨hokA, hwtA⟩ := parse_ok hpA
  have hP1 := sprint_any HB1.out HF1.out (tab_ext HT.out HX1.out) hokA hwtA
  rw [txB_is] at hP1
  refine hP1.mono ?_
  clear hP1
  rintro e w2 ⟨rfl, hx2⟩
  have HX2 := Lib.hid (HX1.out.trans hx2)
  clear hx2 HB1 HF1 HX1
  have hs0 : ((⟨txB.toArray⟩ : ByteArray) == { data := #[102, 110, 32, 109, 97, 105, 110, 40, 41, 32, 61, 32, 40, 49, 32, 45, 32, 40, 50, 32, 45, 32, 51, 41, 41, 32, 42, 32, 45, 40, 52, 32, 43, 32, 53, 41, 10] }) = true := by decide
  go_wp2_with fail
  have hP := sparse_any (w := w2) (L := L) (errR_ext HE.out HX2.out)
  refine hP.mono ?_
  clear hP
  intro e w3 hG
  cases hpL : parseT L with
  | bad a k =>
    rw [hpL] at hG
    obtain ⟨rfl, hx3⟩ := hG
    have HX3 := Lib.hid (HX2.out.trans hx3)
    clear hx3
    go_wp2_with fail
    go_ret
    exact ⟨rfl, HX3.out⟩
  | ok fs j =>
    rw [hpL] at hG
    obtain ⟨q3, fv3, rfl, hl3, hq3, hb3, hf3, hx3⟩ := hG
    have HX3 := Lib.hid (HX2.out.trans hx3)
    have HB3 := Lib.hid hb3; have HF3 := Lib.hid hf3
    clear hl3 hq3 hb3 hf3 hx3
    go_wp2_with fail
    obtain ⟨hok, hwt⟩ := parse_ok hpL
    refine (sprint_any HB3.out HF3.out (tab_ext HT.out HX3.out) hok hwt).mono ?_
    rintro e w4 ⟨rfl, hx4⟩
    have HX4 := Lib.hid (HX3.out.trans hx4)
    have HB4 := Lib.hid (HB3.out.ext hx4); have HF4 := Lib.hid (HF3.out.ext hx4)
    have HS34 := Lib.hid hx4.size
    clear hx4 HB3 HF3 HX3
    have hlen := prP_len hok
    by_cases hbig : 4000 < (prP fs).length
    · go_wp2_with fail
      go_ret
      exact ⟨rfl, HX4.out⟩
    · obtain ⟨gs, m, hpg, hpe, hwe⟩ := again hpL (by omega)
      have hP := sparse_any (w := w4) (L := prP fs) (errR_ext HE.out HX4.out)
      rw [hpg] at hP
      go_wp2_with fail
      refine hP.mono ?_
      clear hP
      rintro e w5 ⟨q5, fv5, rfl, hl5, hq5, hb5, hf5, hx5⟩
      have HX5 := Lib.hid (HX4.out.trans hx5)
      have HB5 := Lib.hid hb5; have HF5 := Lib.hid hf5; have HB6 := Lib.hid (HB4.out.ext hx5); have HF6 := Lib.hid (HF4.out.ext hx5)
      have HS45 := Lib.hid hx5.size
      clear hl5 hq5 hb5 hf5 hx5 HB4 HF4 HX4
      obtain ⟨hok5, hwt5⟩ := parse_ok hpg
      go_wp2_with fail
      have hP5 := sprint_any HB5.out HF5.out (tab_ext HT.out HX5.out) hok5 hwt5
      rw [hpe] at hP5
      refine hP5.mono ?_
      clear hP5
      rintro e w6 ⟨rfl, hx6⟩
      have HS56 := Lib.hid hx6.size
      have HX6 := Lib.hid (HX5.out.trans hx6)
      have HB7 := Lib.hid (HB5.out.ext hx6); have HF7 := Lib.hid (HF5.out.ext hx6); have HB8 := Lib.hid (HB6.out.ext hx6); have HF8 := Lib.hid (HF6.out.ext hx6)
      clear hx6 HB5 HF5 HB6 HF6 HX5
      go_wp2_with fail
      refine (sweight_any HB8.out HF8.out (by have := HS34.out; have := HS45.out; have := HS56.out; omega) hwt).mono ?_
      rintro e w7 ⟨rfl, hx7⟩
      have HS67 := Lib.hid hx7.size
      have HX7 := Lib.hid (HX6.out.trans hx7)
      have HB9 := Lib.hid (HB7.out.ext hx7); have HF9 := Lib.hid (HF7.out.ext hx7)
      clear hx7 HB7 HF7 HB8 HF8 HX6
      go_wp2_with fail
      have hW := sweight_any HB9.out HF9.out (by have := HS56.out; have := HS67.out; omega) hwt5
      rw [hwe] at hW
      refine hW.mono ?_
      clear hW
      rintro e w8 ⟨rfl, hx8⟩
      have HX8 := Lib.hid (HX7.out.trans hx8)
      clear hx8 HB9 HF9 HX7
      go_wp2_with fail
      go_ret
      exact ⟨rfl, HX8.out⟩
end Go.Proofs.YtejkepihicphlaaGreatDoor
