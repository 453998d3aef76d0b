/- AsmPrints: the text of any code, or what is wrong: the law's walk: for every input it returns true and leaves all that was there as it was. -/
import Derived.Test.YtnkcldhjbhdejaaDoorPc
namespace Go.Proofs.YtnkcldhjbhdejaaDoor
open Go.RowKit Go.Att Go.Shelf
set_option maxRecDepth 100000 in
set_option maxHeartbeats 2000000 in
theorem asmPrints_any {w : World} {sz : Int} {lv : Value} {l : List In4} (hc : Inqs w lv l) (hzr : InR sz) (hw : ∀ i, i < l.length → Wid (nthI l i)) (hF : Forms w) (hT : Tab10 w) (hg : Hnd w) :
    Calls Tryd.prog 3 #[.agg #[.int .i64 sz, lv]] w fun e w' => e = .returned (.bool true) ∧ Ext w w' := by
  obtain ⟨ao, cap, rfl⟩ := hc.shape
  have hx := Ext.alloc w (Obj.cells #[.int .i64 sz, .slice ao l.length cap] 24)
  have HX0 := Lib.hid hx; have HC := Lib.hid (hc.ext hx)
  have HK := Lib.hid (BlkOf.new w [.int .i64 sz, .slice ao l.length cap] 24)
  have CP := Lib.hid (pprint_any (hc.ext hx) hzr hw (hF.ext hx) (Tab10.ext hT hx))
  have HG := Lib.hid (hg.ext hx)
  obtain ⟨k, hk⟩ : ∃ k, asmErr sz l = k := ⟨_, rfl⟩
  obtain ⟨T, hT'⟩ : ∃ T, PrtA sz l = T := ⟨_, rfl⟩
  have CD := Lib.hid (fun W (h : Inqs W (.slice ao l.length cap) l) => by have := aprint_any (sz := sz) h; rw [hk, hT'] at this; exact this)
  rw [hk, hT'] at CP
  have CE := Lib.hid (fun W h => by have := error_any k k W h; rw [beq_self_eq_true] at this; exact this)
  clear hx hc hzr hw hF hT hg hk hT'
  go_enter Tryd.func3, Tryd.ntmps3
  go_upto_region 1 with (fail)
  generalize w.alloc (Obj.cells #[.int .i64 sz, .slice ao l.length cap] 24) = W0 at *
  generalize w.heap.size = kb at *
  have e0 : W0.cell? ⟨kb, 0, none⟩ = some (.int .i64 sz) := HK.out.cell 0
  have e1 : W0.cell? ⟨kb, 1, none⟩ = some (.slice ao l.length cap) := HK.out.cell 1
  go_upto_region 2 with (go_at_call 4; refine CP.out.mono ?_; rintro e w1 ⟨rfl, hx1⟩; have HX1 := Lib.hid hx1; clear hx1)
  have e2 : w1.cell? ⟨kb, 0, none⟩ = some (.int .i64 sz) := HX1.out.cell e0
  have e3 : w1.cell? ⟨kb, 1, none⟩ = some (.slice ao l.length cap) := HX1.out.cell e1
  clear e0 e1
  go_upto_region 3 with (go_at_call 5; refine (CD.out _ (HC.out.ext HX1.out)).mono ?_; rintro e w2 ⟨rfl, hx2⟩; have HX2 := Lib.hid (HX1.out.trans hx2); clear hx2)
  go_wp2_with (go_at_call 6; refine (CE.out _ (HG.out.ext HX2.out)).mono ?_; rintro e w3 ⟨rfl, hx3⟩)
  go_ret
  exact ⟨rfl, HX0.out.trans (HX2.out.trans hx3)⟩
end Go.Proofs.YtnkcldhjbhdejaaDoor
