/- MachineLonger: A RUN THAT ENDS, ENDS SO WITH EVERY GREATER LIMIT: the law's walk: for every input it returns true and leaves all that was there as it was. -/
import Derived.Test.YtaodmkngakikjaaDoorMp
import Derived.Test.YtaodmkngakikjaaDoorMo
import Derived.ProofKit
namespace Go.Proofs.YtaodmkngakikjaaDoor
open Go.RowKit Go.Att
set_option maxRecDepth 100000 in
set_option maxHeartbeats 4000000 in
theorem machineLonger_bad (p : Int) (cv : Value) (lim other : Int) (w : World) (h : ¬ okP p) (sz : Int) (lv : Value) (hcv : cv = .agg #[.int .i64 sz, lv]) :
    Calls Tryd.prog 4 #[.int .i64 p, cv, .int .i64 lim, .int .i64 other] w fun e w' => e = .returned (.bool true) ∧ Ext w w' := by
  subst hcv
  have H := Lib.hid h; clear h
  have HX0 := Lib.hid (Ext.alloc w (Obj.cells #[.int .i64 sz, lv] 24))
  go_enter Tryd.func4, Tryd.ntmps4
  go_wp2_with (first | (go_at_call 12; refine (lives6_any _).mono ?_; rintro e w1 ⟨rfl, hx1⟩) | (go_at_call 13; refine (plain_bad6 _ _ H.out).mono ?_; rintro e w2 ⟨rfl, rfl⟩))
  go_ret
  exact ⟨rfl, HX0.out.trans hx1⟩
set_option maxRecDepth 100000 in
set_option maxHeartbeats 8000000 in
theorem machineLonger_ok (p sz : Int) (lv : Value) (cd : List In4) (lim other : Int) (w : World) (h : okP p) (hg : Hnd w) (hc : Inqs w lv cd) :
    Calls Tryd.prog 4 #[.int .i64 p, .agg #[.int .i64 sz, lv], .int .i64 lim, .int .i64 other] w fun e w' => e = .returned (.bool true) ∧ Ext w w' := by
  have H := Lib.hid h; have HG := Lib.hid hg
  have HC := Lib.hid hc
  obtain ⟨al, cl, rfl⟩ := hc.shape
  have HB := Lib.hid (BlkOf.new w [.int .i64 sz, .slice al cd.length cl] 24)
  have HX0 := Lib.hid (Ext.alloc w (Obj.cells #[.int .i64 sz, .slice al cd.length cl] 24))
  clear hg h hc
  go_enter Tryd.func4, Tryd.ntmps4
  go_wp2_with fail
  generalize hqb : w.heap.size = qb at *
  clear hqb
  generalize w.alloc (Obj.cells #[.int .i64 sz, .slice al cd.length cl] 24) = W at *
  refine (lives6_any _).mono ?_
  rintro e w0 ⟨rfl, hx0⟩
  have HX0 := Lib.hid (HX0.out.trans hx0)
  have HB0 := Lib.hid (HB.out.ext hx0)
  clear hx0 HB
  go_wp2_with fail
  refine (plain_ok6 _ _ H.out).mono ?_
  rintro e w1 ⟨v1, rfl, hx, g, hf⟩
  obtain ⟨bf, rfl⟩ := hf.ptr
  obtain ⟨fs, hfl⟩ := hf.fld
  have HF := Lib.hid hfl
  have HX := Lib.hid (HX0.out.trans hx)
  have HB1 := Lib.hid (HB0.out.ext hx)
  have e0 : w1.cell? ⟨qb, 0, none⟩ = some (.int .i64 sz) := HB1.out.cell 0
  have e1 : w1.cell? ⟨qb, 1, none⟩ = some (.slice al cd.length cl) := HB1.out.cell 1
  clear hf hfl hx HB0 HX0
  go_wp2_with fail
  refine (run_got (sz := sz) (lim := lim) HF.out (HC.out.ext HX.out)).mono ?_
  rintro e w4 ⟨o, n, v, L, k, rfl, hr, hv, hx4⟩
  obtain ⟨av, cv, rfl⟩ := prs_shape hv
  clear e0 e1
  have hx5 := Ext.alloc w4 (Obj.cells #[.int .i64 o, .int .i64 n, .slice av L.length cv] 31)
  have HA := Lib.hid (BlkOf.new w4 [.int .i64 o, .int .i64 n, .slice av L.length cv] 31)
  have HX5 := Lib.hid (HX.out.trans (hx4.trans hx5)); have HB5 := Lib.hid (HB1.out.ext (hx4.trans hx5)); have HF5 := Lib.hid (HF.out.ext (hx4.trans hx5)); have HV5 := Lib.hid (hv.ext hx5)
  have HR := Lib.hid hr
  clear hx4 hx5 hr hv HX HB1 HF
  have e0 : (w4.alloc (Obj.cells #[.int .i64 o, .int .i64 n, .slice av L.length cv] 31)).cell? ⟨qb, 0, none⟩ = some (.int .i64 sz) := HB5.out.cell 0
  have e1 : (w4.alloc (Obj.cells #[.int .i64 o, .int .i64 n, .slice av L.length cv] 31)).cell? ⟨qb, 1, none⟩ = some (.slice al cd.length cl) := HB5.out.cell 1
  go_wp2_with fail
  clear e0 e1
  generalize w4.alloc (Obj.cells #[.int .i64 o, .int .i64 n, .slice av L.length cv] 31) = W5 at *
  generalize w4.heap.size = ab at *
  refine (run_got (sz := sz) (lim := other) HF5.out (HC.out.ext HX5.out)).mono ?_
  rintro e w6 ⟨o', n', v', L', k', rfl, hr, hv, hx6⟩
  obtain ⟨av', cv', rfl⟩ := prs_shape hv
  have HR' := Lib.hid hr
  have hx7 := Ext.alloc w6 (Obj.cells #[.int .i64 o', .int .i64 n', .slice av' L'.length cv'] 31)
  have HD := Lib.hid (BlkOf.new w6 [.int .i64 o', .int .i64 n', .slice av' L'.length cv'] 31)
  have HX7 := Lib.hid (HX5.out.trans (hx6.trans hx7)); have HV7 := Lib.hid (HV5.out.ext (hx6.trans hx7)); have HA7 := Lib.hid (HA.out.ext (hx6.trans hx7)); have HW7 := Lib.hid (hv.ext hx7)
  clear hx6 hx7 hr hv HX5 HV5 HA HF5 HB5
  cases hR : walkM p sz cd lim with
  | no j =>
    have hj := walkM_nz hR
    have HRR := HR.out
    rw [hR] at HRR
    obtain ⟨rfl, rfl, rfl, rfl⟩ := HRR
    rw [errv_pos hj]
    clear hj hR HR
    go_wp2_with fail
    go_ret
    exact ⟨rfl, HX7.out⟩
  | done l out mem =>
    have HRR := HR.out
    rw [hR] at HRR
    obtain ⟨rfl, hn, hcl, rfl⟩ := HRR
    rw [errv_zero]
    by_cases h0 : other < 0
    · clear hR hn hcl HR
      go_wp2_with fail
      go_ret
      exact ⟨rfl, HX7.out⟩
    by_cases h1 : 16384 < other
    · clear hR hn hcl HR
      go_wp2_with fail
      go_ret
      exact ⟨rfl, HX7.out⟩
    obtain ⟨g1, g2⟩ := walkM_limit hR (show 0 ≤ other by omega) (show other ≤ 16384 by omega)
    rw [← hn] at g1 g2
    have G1 := Lib.hid g1; have G2 := Lib.hid g2; have HCL := Lib.hid hcl; have HN := Lib.hid hn
    clear hR hn hcl HR g1 g2
    go_upto_region 11 with (fail)
    generalize w6.alloc (Obj.cells #[.int .i64 o', .int .i64 n', .slice av' L'.length cv'] 31) = W7 at *
    generalize w6.heap.size = db at *
    have a0 : W7.cell? ⟨ab, 0, none⟩ = some (.int .i64 o) := HA7.out.cell 0
    have a1 : W7.cell? ⟨ab, 1, none⟩ = some (.int .i64 n) := HA7.out.cell 1
    have a2 : W7.cell? ⟨ab, 2, none⟩ = some (.slice av L.length cv) := HA7.out.cell 2
    by_cases h2 : other < n
    · have e8 := G2.out h2
      have HRR := HR'.out
      rw [e8] at HRR
      obtain ⟨rfl, rfl, rfl, rfl⟩ := HRR
      have HCC := Lib.hid (error_any 8 8 W7 (HG.out.ext HX7.out))
      clear e8 HR'
      go_wp2_with fail
      refine HCC.out.mono ?_
      rintro e w8 ⟨rfl, hx8⟩
      have HX8 := Lib.hid (HX7.out.trans hx8)
      clear hx8
      go_wp2_with fail
      go_ret
      exact ⟨rfl, HX8.out⟩
    · have e8 := G1.out (by omega)
      have HRR := HR'.out
      rw [e8] at HRR
      obtain ⟨rfl, q2, hcl', rfl⟩ := HRR
      obtain rfl : n' = n := by rw [q2, HN.out]
      obtain rfl := HCL.out.one hcl'
      rw [errv_zero]
      have d0 := HD.out.cell 0
      have d1 := HD.out.cell 1
      have d2 := HD.out.cell 2
      simp at d0 d1 d2
      have HGE := Lib.hid h2
      clear e8 HR' hcl' G1 G2 q2
      go_wp2_with fail
      refine (rans_same HV7.out HW7.out).mono ?_
      rintro e w8 ⟨rfl, hx8⟩
      have HX8 := Lib.hid (HX7.out.trans hx8)
      clear hx8
      go_wp2_with fail
      go_ret
      exact ⟨rfl, HX8.out⟩
end Go.Proofs.YtaodmkngakikjaaDoor
