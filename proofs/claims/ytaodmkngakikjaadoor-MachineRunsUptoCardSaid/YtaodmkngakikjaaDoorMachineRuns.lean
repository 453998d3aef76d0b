/- MachineRuns: ANY CODE, run: the law's walk: for every input it returns true and leaves all that was there as it was. -/
import Derived.Test.YtaodmkngakikjaaDoorMp
import Derived.Test.YtaodmkngakikjaaDoorMk
import Derived.Test.YtaodmkngakikjaaDoorFc
import Derived.ProofKit
namespace Go.Proofs.YtaodmkngakikjaaDoor
open Go.RowKit Go.Att
/-- What the document's Run comes to. -/
def DGot (w : World) (r : Rw) (e : Ending) (w' : World) : Prop := ∃ o n v L k, e = .returned (.tuple #[.agg #[.int .i64 o, .int .i64 n, v], .int .i64 k]) ∧ RanIs r o n L k ∧ Prs w' v L ∧ Ext w w'
theorem drun_got {w : World} {p sz : Int} {lv : Value} {cd : List In4} {lim : Int} (hc : Inqs w lv cd) (hlo : 3 ≤ p) (hhi : p ≤ 2147483647) : Calls Tryd.prog 8 #[.int .i64 p, .agg #[.int .i64 sz, lv], .int .i64 lim] w (DGot w (walkM p sz cd lim)) := by
  refine (drun_any hc hlo hhi (fun k h => walkM_nz h)).mono ?_
  intro e w' h
  cases hR : walkM p sz cd lim with
  | no k =>
    rw [hR] at h
    obtain ⟨rfl, hx⟩ := h
    exact ⟨0, 0, _, [], k, rfl, ⟨rfl, rfl, rfl, rfl⟩, prs_nil _, hx⟩
  | done l out mem =>
    rw [hR] at h
    obtain ⟨v, L, rfl, hc, hv, hx⟩ := h
    exact ⟨_, _, v, L, 0, rfl, ⟨rfl, rfl, hc, rfl⟩, hv, hx⟩
set_option maxRecDepth 100000 in
set_option maxHeartbeats 4000000 in
theorem machineRuns_bad (p : Int) (cv : Value) (lim : Int) (w : World) (h : ¬ okP p) (hg : Hnd w) (sz : Int) (lv : Value) (hcv : cv = .agg #[.int .i64 sz, lv]) :
    Calls Tryd.prog 3 #[.int .i64 p, cv, .int .i64 lim] w fun e w' => e = .returned (.bool true) ∧ Ext w w' := by
  subst hcv
  have H := Lib.hid h; have HG := Lib.hid hg; clear h hg
  have HX0 := Lib.hid (Ext.alloc w (Obj.cells #[.int .i64 sz, lv] 24))
  go_enter Tryd.func3, Tryd.ntmps3
  go_wp2_with (go_at_call 5; refine (sfield_bad _ _ H.out (HG.out.ext HX0.out)).mono ?_; rintro e w' ⟨v, rfl, hx, rfl⟩)
  go_ret
  exact ⟨rfl, HX0.out.trans hx⟩
set_option maxRecDepth 100000 in
set_option maxHeartbeats 8000000 in
theorem machineRuns_ok (p sz : Int) (lv : Value) (cd : List In4) (lim : Int) (w : World) (h : okP p) (hg : Hnd w) (hc : Inqs w lv cd) (hlen : cd.length ≤ 4294967295) :
    Calls Tryd.prog 3 #[.int .i64 p, .agg #[.int .i64 sz, lv], .int .i64 lim] w fun e w' => e = .returned (.bool true) ∧ Ext w w' := by
  have H := Lib.hid h; have HG := Lib.hid hg
  obtain ⟨hp, lo, hi⟩ := h
  have HC := Lib.hid hc
  obtain ⟨al, cl, rfl⟩ := hc.shape
  have HB := Lib.hid (BlkOf.new w [.int .i64 sz, .slice al cd.length cl] 24)
  have HX0 := Lib.hid (Ext.alloc w (Obj.cells #[.int .i64 sz, .slice al cd.length cl] 24))
  clear hg hp hc
  go_enter Tryd.func3, Tryd.ntmps3
  go_wp2_with fail
  generalize hqb : w.heap.size = qb at *
  clear hqb
  generalize w.alloc (Obj.cells #[.int .i64 sz, .slice al cd.length cl] 24) = W at *
  refine (sfield_ok _ _ H.out (HG.out.ext HX0.out)).mono ?_
  rintro e w1 ⟨v1, rfl, hx, f, g, rfl, hf⟩
  obtain ⟨bf, rfl⟩ := hf.ptr
  obtain ⟨fs, hfl⟩ := hf.fld
  have HF := Lib.hid hfl
  have HX := Lib.hid (HX0.out.trans hx)
  have HB1 := Lib.hid (HB.out.ext hx)
  have e0 : w1.cell? ⟨qb, 0, none⟩ = some (.int .i64 sz) := HB1.out.cell 0
  have e1 : w1.cell? ⟨qb, 1, none⟩ = some (.slice al cd.length cl) := HB1.out.cell 1
  clear hf hfl hx HB HX0
  go_wp2_with fail
  refine (ccopied_any (HC.out.ext HX.out) hlen).mono ?_
  rintro e w2 ⟨u, rfl, hu, hx2⟩
  obtain ⟨au, cu, rfl⟩ := hu.shape
  clear e0 e1
  have hx3 := Ext.alloc w2 (Obj.cells #[.int .i64 sz, .slice au cd.length cu] 24)
  have HO := Lib.hid (BlkOf.new w2 [.int .i64 sz, .slice au cd.length cu] 24)
  have HX3 := Lib.hid (HX.out.trans (hx2.trans hx3)); have HB3 := Lib.hid (HB1.out.ext (hx2.trans hx3)); have HF3 := Lib.hid (HF.out.ext (hx2.trans hx3)); have HU3 := Lib.hid (hu.ext hx3)
  clear hx2 hx3 hu HX HB1 HF
  go_wp2_with fail
  generalize w2.alloc (Obj.cells #[.int .i64 sz, .slice au cd.length cu] 24) = W3 at *
  generalize w2.heap.size = ob at *
  refine (run_got (sz := sz) (lim := lim) HF3.out HU3.out).mono ?_
  rintro e w4 ⟨o, n, v, L, k, rfl, hr, hv, hx4⟩
  obtain ⟨av, cv, rfl⟩ := prs_shape hv
  have hx5 := Ext.alloc w4 (Obj.cells #[.int .i64 o, .int .i64 n, .slice av L.length cv] 31)
  have HA := Lib.hid (BlkOf.new w4 [.int .i64 o, .int .i64 n, .slice av L.length cv] 31)
  have HX5 := Lib.hid (HX3.out.trans (hx4.trans hx5)); have HB5 := Lib.hid (HB3.out.ext (hx4.trans hx5)); have HO5 := Lib.hid (HO.out.ext (hx4.trans hx5)); have HU5 := Lib.hid (HU3.out.ext (hx4.trans hx5)); have HV5 := Lib.hid (hv.ext hx5)
  have HR := Lib.hid hr
  clear hx4 hx5 hr hv HX3 HB3 HO HU3 HF3
  have e0 : (w4.alloc (Obj.cells #[.int .i64 o, .int .i64 n, .slice av L.length cv] 31)).cell? ⟨qb, 0, none⟩ = some (.int .i64 sz) := HB5.out.cell 0
  have e1 : (w4.alloc (Obj.cells #[.int .i64 o, .int .i64 n, .slice av L.length cv] 31)).cell? ⟨qb, 1, none⟩ = some (.slice al cd.length cl) := HB5.out.cell 1
  go_wp2_with fail
  clear e0 e1
  generalize w4.alloc (Obj.cells #[.int .i64 o, .int .i64 n, .slice av L.length cv] 31) = W5 at *
  generalize w4.heap.size = ab at *
  refine (drun_got (sz := sz) (lim := lim) (HC.out.ext HX5.out) lo hi).mono ?_
  rintro e w6 ⟨o', n', v', L', k', rfl, hr, hv, hx6⟩
  obtain ⟨rfl, rfl, rfl, rfl⟩ := HR.out.one hr
  obtain ⟨av', cv', rfl⟩ := prs_shape hv
  have hx7 := Ext.alloc w6 (Obj.cells #[.int .i64 o, .int .i64 n, .slice av' L.length cv'] 31)
  have HD := Lib.hid (BlkOf.new w6 [.int .i64 o, .int .i64 n, .slice av' L.length cv'] 31)
  have HX7 := Lib.hid (HX5.out.trans (hx6.trans hx7)); have HB7 := Lib.hid (HB5.out.ext (hx6.trans hx7)); have HO7 := Lib.hid (HO5.out.ext (hx6.trans hx7)); have HU7 := Lib.hid (HU5.out.ext (hx6.trans hx7)); have HV7 := Lib.hid (HV5.out.ext (hx6.trans hx7)); have HA7 := Lib.hid (HA.out.ext (hx6.trans hx7)); have HW7 := Lib.hid (hv.ext hx7)
  clear hx6 hx7 hr hv HX5 HB5 HO5 HU5 HV5 HA HR
  go_wp2_with fail
  generalize w6.alloc (Obj.cells #[.int .i64 o, .int .i64 n, .slice av' L.length cv'] 31) = W7 at *
  generalize w6.heap.size = db at *
  refine (error_any k k W7 (HG.out.ext HX7.out)).mono ?_
  rintro e w8 ⟨rfl, hx8⟩
  have HX8 := Lib.hid (HX7.out.trans hx8); have HB8 := Lib.hid (HB7.out.ext hx8); have HO8 := Lib.hid (HO7.out.ext hx8); have HU8 := Lib.hid (HU7.out.ext hx8); have HV8 := Lib.hid (HV7.out.ext hx8); have HA8 := Lib.hid (HA7.out.ext hx8); have HW8 := Lib.hid (HW7.out.ext hx8); have HD8 := Lib.hid (HD.out.ext hx8)
  clear hx8 HX7 HB7 HO7 HU7 HV7 HA7 HW7 HD
  have a0 : w8.cell? ⟨ab, 0, none⟩ = some (.int .i64 o) := HA8.out.cell 0
  have a1 : w8.cell? ⟨ab, 1, none⟩ = some (.int .i64 n) := HA8.out.cell 1
  have a2 : w8.cell? ⟨ab, 2, none⟩ = some (.slice av L.length cv) := HA8.out.cell 2
  have d0 : w8.cell? ⟨db, 0, none⟩ = some (.int .i64 o) := HD8.out.cell 0
  have d1 : w8.cell? ⟨db, 1, none⟩ = some (.int .i64 n) := HD8.out.cell 1
  have d2 : w8.cell? ⟨db, 2, none⟩ = some (.slice av' L.length cv') := HD8.out.cell 2
  go_wp2_with fail
  refine (rans_same HV8.out HW8.out).mono ?_
  rintro e w9 ⟨rfl, hx9⟩
  have HX9 := Lib.hid (HX8.out.trans hx9); have HB9 := Lib.hid (HB8.out.ext hx9); have HO9 := Lib.hid (HO8.out.ext hx9); have HU9 := Lib.hid (HU8.out.ext hx9)
  clear a0 a1 a2 d0 d1 d2 hx9 HX8 HB8 HO8 HU8 HV8 HW8 HA8 HD8
  have b0 : w9.cell? ⟨qb, 0, none⟩ = some (.int .i64 sz) := HB9.out.cell 0
  have b1 : w9.cell? ⟨qb, 1, none⟩ = some (.slice al cd.length cl) := HB9.out.cell 1
  have o0 : w9.cell? ⟨ob, 0, none⟩ = some (.int .i64 sz) := HO9.out.cell 0
  have o1 : w9.cell? ⟨ob, 1, none⟩ = some (.slice au cd.length cu) := HO9.out.cell 1
  go_wp2_with fail
  refine (alike_same HU9.out (HC.out.ext HX9.out)).mono ?_
  rintro e w10 ⟨rfl, hx10⟩
  have HX10 := Lib.hid (HX9.out.trans hx10)
  clear b0 b1 o0 o1 hx10
  go_wp2_with fail
  go_ret
  exact ⟨rfl, HX10.out⟩
end Go.Proofs.YtaodmkngakikjaaDoor
