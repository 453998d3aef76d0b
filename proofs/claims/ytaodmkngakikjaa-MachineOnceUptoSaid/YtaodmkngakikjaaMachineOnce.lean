/- MachineOnce: WHAT IS TOLD IS TOLD FOR GOOD: the law's walk: for every input it returns true and leaves all that was there as it was. -/
import Derived.Test.YtaodmkngakikjaaMp
import Derived.Test.YtaodmkngakikjaaMo
import Derived.Test.YtaodmkngakikjaaMq
import Derived.Test.YtaodmkngakikjaaMr
import Derived.ProofKit
namespace Go.Proofs.Ytaodmkngakikjaa
open Go.RowKit Go.Att
set_option maxRecDepth 100000 in
set_option maxHeartbeats 4000000 in
theorem machineOnce_bad (p : Int) (cv : Value) (lim : Int) (w : World) (h : ¬ okP p) (sz : Int) (lv : Value) (hcv : cv = .agg #[.int .i64 sz, lv]) :
    Calls Try.prog 3 #[.int .i64 p, cv, .int .i64 lim] w fun e w' => e = .returned (.bool true) ∧ Ext w w' := by
  subst hcv
  have H := Lib.hid h; clear h
  have HX0 := Lib.hid (Ext.alloc w (Obj.cells #[.int .i64 sz, lv] 24))
  go_enter Try.func3, Try.ntmps3
  go_wp2_with (first | (go_at_call 5; refine (lives6_any _).mono ?_; rintro e w1 ⟨rfl, hx1⟩) | (go_at_call 6; refine (plain_bad6 _ _ H.out).mono ?_; rintro e w2 ⟨rfl, rfl⟩))
  go_ret
  exact ⟨rfl, HX0.out.trans hx1⟩
set_option maxRecDepth 100000 in
set_option maxHeartbeats 8000000 in
theorem machineOnce_ok (p sz : Int) (lv : Value) (cd : List In4) (lim : Int) (w : World) (h : okP p) (hc : Inqs w lv cd) :
    Calls Try.prog 3 #[.int .i64 p, .agg #[.int .i64 sz, lv], .int .i64 lim] w fun e w' => e = .returned (.bool true) ∧ Ext w w' := by
  have H := Lib.hid h
  have hp2 : 2 ≤ p := by have := h.2.1; omega
  have HC := Lib.hid hc
  obtain ⟨al, cl, rfl⟩ := hc.shape
  have HB := Lib.hid (BlkOf.new w [.int .i64 sz, .slice al cd.length cl] 24)
  have HX0 := Lib.hid (Ext.alloc w (Obj.cells #[.int .i64 sz, .slice al cd.length cl] 24))
  clear h hc
  go_enter Try.func3, Try.ntmps3
  go_wp2_with fail
  generalize hqb : w.heap.size = qb at *
  clear hqb
  generalize w.alloc (Obj.cells #[.int .i64 sz, .slice al cd.length cl] 24) = W at *
  refine (lives6_any _).mono ?_
  rintro e w0 ⟨rfl, hx0⟩
  replace HX0 := Lib.hid (HX0.out.trans hx0)
  have HB0 := Lib.hid (HB.out.ext hx0)
  clear hx0 HB
  go_wp2_with fail
  refine (plain_ok6 _ _ H.out).mono ?_
  rintro e w1 ⟨v1, rfl, hx, g, hf⟩
  obtain ⟨bf, rfl⟩ := hf.ptr
  obtain ⟨fs, hfl⟩ := hf.fld
  have HF := Lib.hid hfl
  have HX := Lib.hid (HX0.out.trans hx)
  have HB1 := Lib.hid (HB0.out.ext hx)
  have e0 : w1.cell? ⟨qb, 0, none⟩ = some (.int .i64 sz) := HB1.out.cell 0
  have e1 : w1.cell? ⟨qb, 1, none⟩ = some (.slice al cd.length cl) := HB1.out.cell 1
  clear hf hfl hx HB0 HX0
  go_wp2_with fail
  refine (run_got (sz := sz) (lim := lim) HF.out (HC.out.ext HX.out)).mono ?_
  rintro e w4 ⟨o, n, v, L, k, rfl, hr, hv, hx4⟩
  obtain ⟨av, cv, rfl⟩ := prs_shape hv
  clear e0 e1
  have hx5 := Ext.alloc w4 (Obj.cells #[.int .i64 o, .int .i64 n, .slice av L.length cv] 30)
  have HA := Lib.hid (BlkOf.new w4 [.int .i64 o, .int .i64 n, .slice av L.length cv] 30)
  have HX5 := Lib.hid (HX.out.trans (hx4.trans hx5)); have HB5 := Lib.hid (HB1.out.ext (hx4.trans hx5)); have HF5 := Lib.hid (HF.out.ext (hx4.trans hx5)); have HV5 := Lib.hid (hv.ext hx5)
  have HR := Lib.hid hr
  clear hx4 hx5 hr hv HX HB1 HF
  have e0 : (w4.alloc (Obj.cells #[.int .i64 o, .int .i64 n, .slice av L.length cv] 30)).cell? ⟨qb, 0, none⟩ = some (.int .i64 sz) := HB5.out.cell 0
  have e1 : (w4.alloc (Obj.cells #[.int .i64 o, .int .i64 n, .slice av L.length cv] 30)).cell? ⟨qb, 1, none⟩ = some (.slice al cd.length cl) := HB5.out.cell 1
  go_wp2_with fail
  clear e0 e1
  generalize w4.alloc (Obj.cells #[.int .i64 o, .int .i64 n, .slice av L.length cv] 30) = W5 at *
  generalize w4.heap.size = ab at *
  refine (mwalk_any (sz := sz) (lim := lim) HF5.out (HC.out.ext HX5.out)).mono ?_
  rintro e w6 hpw
  cases hR : walkM p sz cd lim with
  | no j =>
    have hj := walkM_nz hR
    have HRR := HR.out
    rw [hR] at HRR hpw
    obtain ⟨rfl, rfl, rfl, rfl⟩ := HRR
    obtain ⟨rfl, hx6⟩ := hpw
    have HX6 := Lib.hid (HX5.out.trans hx6)
    rw [errv_pos hj]
    clear hj hR HR hx6
    go_wp2_with fail
    go_ret
    exact ⟨rfl, HX6.out⟩
  | done l out mem =>
    have HRR := HR.out
    rw [hR] at HRR hpw
    obtain ⟨rfl, hn, hcl, rfl⟩ := HRR
    obtain ⟨sv, rfl, hsv, hl5, hx6⟩ := hpw
    have HTI := Lib.hid (told_is hp2 hR hcl)
    obtain ⟨hen, hl0, hl1⟩ := walkM_ended hp2 hR
    obtain ⟨-, -, -, l', t, hl', hout, -, hn1⟩ := hen
    obtain ⟨m, hm⟩ : ∃ m : Nat, m = l'.length := ⟨_, rfl⟩
    have hlm : l.length = m + 1 := by rw [hl', hm]; simp
    have hml : (m : Int) ≤ lim := by simp at hn1; omega
    have hnm : n = (m : Int) := by omega
    subst hnm
    have hls : ∀ w', (Builtin.len_ #[35] 3 #[sv]).run Try.prog w' = .ok (.int .i64 ((m : Int) + 1)) w' := fun w' => by
      have := Sl.run_len (P := Try.prog) hsv slStep 3 w'
      rw [show ((l.length : Nat) : Int) = (m : Int) + 1 by omega] at this; exact this
    have hix : ∀ w', (Instr.indexAt 35 sv (.int .i64 (m : Int))).run Try.prog w' = .ok (.pointer (some (elt sv m 10))) w' := fun w' => by
      have := Sl.run_index (P := Try.prog) hsv slStep (m : Int) (by omega) (by omega) w'
      rw [Int.toNat_natCast] at this; exact this
    have a7 : w6.cell? ⟨(elt sv m 10).block, (elt sv m 10).off + 7, none⟩ = some (.int .i64 o) := stp_c hsv m 7 (by omega) (by omega) (by omega) (by rw [hl', hm, flatS_fin, hout])
    have HX6 := Lib.hid (HX5.out.trans hx6); have HA6 := Lib.hid (HA.out.ext hx6); have HV6 := Lib.hid (HV5.out.ext hx6); have HS6 := Lib.hid hsv
    have HLM := Lib.hid hlm
    have hm2 : (m : Int) ≤ 16384 := by omega
    have a0 : w6.cell? ⟨ab, 0, none⟩ = some (.int .i64 o) := HA6.out.cell 0
    have a1 : w6.cell? ⟨ab, 1, none⟩ = some (.int .i64 (m : Int)) := HA6.out.cell 1
    clear hx6 hsv hR hcl hn hl' hout hn1 hm hlm HX5 HA HV5 HF5 HB5 HR hl5
    rw [errv_zero]
    have d2 : decide (lim + 1 < (m : Int) + 1) = false := by simpa using hml
    have hw1 : IntKind.i64.wrap ((m : Int) + 1) = (m : Int) + 1 := IntWalk.i64_in _ (by omega)
    have hw2 : IntKind.i64.wrap (lim + 1) = lim + 1 := IntWalk.i64_in _ (by omega)
    have hw3 : IntKind.i64.wrap ((m : Int) + 1 - 1) = (m : Int) := by rw [IntWalk.i64_in _ (by omega)]; omega
    have d1 : ((m : Int) + 1 != (m : Int) + 1) = false := by simp
    have d3 : decide (lim < (m : Int)) = false := by simpa using hml
    go_wp2_with fail
    go_quiet (fail)
    have hx7 := Ext.drewN w6 nq
    have HX7 := Lib.hid (HX6.out.trans hx7); have HA7 := Lib.hid (HA6.out.ext hx7); have HV7 := Lib.hid (HV6.out.ext hx7); have HS7 := Lib.hid (Sl.ext HS6.out hx7)
    clear hx7 HX6 HA6 HV6 HS6 a0 a1 a7 hix d1 d2 d3 hw1 hw2 hw3
    generalize w6.drewN nq = W7 at *
    go_wp2_with fail
    go_loopw [13] (fun x13 wr => ∃ i : Nat, x13 = .int .i64 i ∧ i ≤ m + 1 ∧ Hid (Ext W7 wr)) (fun x13 _ => m + 1 - (intOf x13).toNat)
    case atStart => exact ⟨0, rfl, Nat.zero_le _, Lib.hid (Ext.refl _)⟩
    case round =>
      obtain ⟨i, rfl, hi, HE⟩ := hrel
      generalize wr = W8 at *
      by_cases hlt : i < m + 1
      · have hil : i < l.length := by have := HLM.out; omega
        obtain ⟨A, I, HTJ, HAT⟩ : ∃ A I : Nat → Int, Hid (∀ j, ToldIs L (A j) (I j)) ∧ Hid (∀ W', Ext W7 W' → ∀ j, j < 3 → W'.cell? ⟨(elt sv i 10).block, (elt sv i 10).off + 4 + j, none⟩ = some (.int .i64 (A j)) ∧ W'.cell? ⟨(elt sv i 10).block, (elt sv i 10).off + 7 + j, none⟩ = some (.int .i64 (I j))) :=
          ⟨accA l[i].acc, accI l[i].acc, Lib.hid (HTI.out l[i] (List.getElem_mem hil)), Lib.hid (fun W' hx j hj => by rw [Nat.add_assoc, Nat.add_assoc]; exact stp_at (Sl.ext HS7.out hx) i j hil hj)⟩
        have hix : ∀ w', (Instr.indexAt 35 sv (.int .i64 (i : Int))).run Try.prog w' = .ok (.pointer (some (elt sv i 10))) w' := fun w' => by
          have := Sl.run_index (P := Try.prog) HS7.out slStep (i : Int) (by omega) (by omega) w'
          rw [Int.toNat_natCast] at this; exact this
        clear hil
        have hbt : decide ((i : Int) < (m : Int) + 1) = true := by simp; omega
        go_wp2_with fail
        go_loopw [14] (fun x14 wr => ∃ j : Nat, x14 = .int .i64 j ∧ j ≤ 3 ∧ Hid (Ext W7 wr)) (fun x14 _ => 3 - (intOf x14).toNat)
        case atStart => exact ⟨0, rfl, Nat.zero_le _, HE⟩
        case round =>
          clear HE
          obtain ⟨j, rfl, hj, HE⟩ := hrel
          generalize wr = W9 at *
          by_cases hj3 : j < 3
          · obtain ⟨ta, ti, HTM, HCC⟩ : ∃ ta ti : Int, Hid (ToldIs L ta ti) ∧ Hid (∀ W', Ext W7 W' → W'.cell? ⟨(elt sv i 10).block, (elt sv i 10).off + 4 + j, none⟩ = some (.int .i64 ta) ∧ W'.cell? ⟨(elt sv i 10).block, (elt sv i 10).off + 7 + j, none⟩ = some (.int .i64 ti)) :=
              ⟨A j, I j, Lib.hid (HTJ.out j), Lib.hid (fun W' hx => HAT.out W' hx j hj3)⟩
            obtain ⟨c4, c7⟩ := HCC.out W9 HE.out
            have HA9 := Lib.hid (HA7.out.ext HE.out)
            have a0 : W9.cell? ⟨ab, 0, none⟩ = some (.int .i64 o) := HA9.out.cell 0
            have a1 : W9.cell? ⟨ab, 1, none⟩ = some (.int .i64 (m : Int)) := HA9.out.cell 1
            have a2 : W9.cell? ⟨ab, 2, none⟩ = some (.slice av L.length cv) := HA9.out.cell 2
            go_wp2_with fail
            refine wp_region_quiet_tail 8 (by kernel_rfl) (by kernel_rfl) ?_
            simp only [List.take_succ_cons, List.take_zero, List.drop_succ_cons, List.drop_zero]
            repeat (go_big_quiet_step (fail))
            refine wpQuiet_nil ?_
            rintro _ ⟨nq2, rfl⟩
            have hx10 := Ext.drewN W9 nq2
            have HE10 := Lib.hid (HE.out.trans hx10)
            clear a0 a1 a2 c4 c7 HA9 hx10 HE
            generalize W9.drewN nq2 = W10 at *
            go_wp2_with (go_at_call 9; refine (told6_any (HV7.out.ext HE10.out) HTM.out).mono ?_; rintro e w11 ⟨rfl, hx11⟩; have HE11 := Lib.hid (HE10.out.trans hx11); clear hx11 HE10; obtain ⟨-, c7⟩ := HCC.out w11 HE11.out)
            go_roundw
            case rel => exact ⟨j + 1, by go_num, by omega, HE11⟩
            case measure => simp [intOf]; omega
          · obtain rfl : j = 3 := by omega
            go_wp2_with fail
            go_roundw
            case rel => exact ⟨i + 1, by go_num, by omega, HE⟩
            case measure => simp [intOf]; omega
      · obtain rfl : i = m + 1 := by omega
        go_wp2_with fail
        go_ret
        exact ⟨rfl, HX7.out.trans HE.out⟩
end Go.Proofs.Ytaodmkngakikjaa
