/- RulesBroken: the document's side: the first rule that does not hold. -/
import Derived.Test.YtionlicgaifblaaDoorKj
import Derived.Test.YtionlicgaifblaaDoorQt
import Derived.IntWalk
namespace Go.Att
open Go.RowKit
theorem badB_skip {p sz out : Int} {cd : List In4} {L : List (List Int)} {k i kd : Nat} (hk : kindB cd.length k = kd) (h : speakB L.length kd i = false) : badB p sz out cd L k i = false := by
  unfold badB; rw [hk, h]; rfl
theorem badB_say {p sz out : Int} {cd : List In4} {L : List (List Int)} {k i kd j : Nat} {y : Int} (hk : kindB cd.length k = kd) (h : speakB L.length kd i = true) (hj : (i + 1) % L.length = j) (hy : ruleD p sz out cd (nthL L i) (nthL L j) k = y) : badB p sz out cd L k i = (y != 0) := by
  unfold badB; rw [hk, h, hj, hy]; rfl
/-- Nothing bad is among the first. -/
def CleanB (bad : Nat → Nat → Bool) (N k i : Nat) : Prop := (∀ k' i', k' < k → i' < N → bad k' i' = false) ∧ ∀ i', i' < i → bad k i' = false
theorem CleanB.start {bad : Nat → Nat → Bool} {N : Nat} : CleanB bad N 0 0 := ⟨fun _ _ h => by omega, fun _ h => by omega⟩
theorem CleanB.next {bad : Nat → Nat → Bool} {N k i : Nat} (h : CleanB bad N k i) (hb : bad k i = false) : CleanB bad N k (i + 1) :=
  ⟨h.1, fun i' hi => by rcases Nat.lt_or_eq_of_le (show i' ≤ i by omega) with h2 | rfl; exact h.2 i' h2; exact hb⟩
theorem CleanB.row {bad : Nat → Nat → Bool} {N k : Nat} (h : CleanB bad N k N) : CleanB bad N (k + 1) 0 :=
  ⟨fun k' i' hk hi => by rcases Nat.lt_or_eq_of_le (show k' ≤ k by omega) with h2 | rfl; exact h.1 k' i' h2 hi; exact h.2 i' hi, fun _ h => by omega⟩
theorem CleanB.none {bad : Nat → Nat → Bool} {N M : Nat} (h : CleanB bad N M 0) : FstBad bad (fun k i => k < M ∧ i < N) none := fun k i hs => h.1 k i hs.1 hs.2
theorem CleanB.some {bad : Nat → Nat → Bool} {N M k i : Nat} (h : CleanB bad N k i) (hk : k < M) (hi : i < N) (hb : bad k i = true) : FstBad bad (fun k i => k < M ∧ i < N) (some (k, i)) :=
  ⟨⟨hk, hi⟩, hb, fun k' i' hs hk' => h.1 k' i' hk' hs.2, fun i' _ hi' => h.2 i' hi'⟩
theorem kindB_lit (l k : Nat) : kindB l k = 0 ∨ kindB l k = 1 ∨ kindB l k = 2 ∨ kindB l k = 3 := by unfold kindB; (repeat' split) <;> simp
/-- Whether a row is skipped, each way. -/
theorem speak_ways {N i kd : Nat} (hi : i < N) (hk : kd = 0 ∨ kd = 1 ∨ kd = 2 ∨ kd = 3) :
    (kd = 0 ∧ speakB N kd i = true) ∨ (kd = 1 ∧ i + 1 < N ∧ speakB N kd i = true) ∨ (kd = 2 ∧ i = 0 ∧ speakB N kd i = true) ∨ (kd = 3 ∧ i + 1 = N ∧ speakB N kd i = true) ∨
    (kd = 1 ∧ i + 1 = N ∧ speakB N kd i = false) ∨ (kd = 2 ∧ 0 < i ∧ speakB N kd i = false) ∨ (kd = 3 ∧ i + 1 < N ∧ speakB N kd i = false) := by
  rcases hk with rfl | rfl | rfl | rfl
  · exact .inl ⟨rfl, rfl⟩
  · by_cases h : i + 1 < N
    · exact .inr (.inl ⟨rfl, h, by simp [speakB, h]⟩)
    · exact .inr (.inr (.inr (.inr (.inl ⟨rfl, by omega, by simp [speakB, h]⟩))))
  · by_cases h : i = 0
    · exact .inr (.inr (.inl ⟨rfl, h, by simp [speakB, h]⟩))
    · exact .inr (.inr (.inr (.inr (.inr (.inl ⟨rfl, by omega, by simp [speakB, h]⟩)))))
  · by_cases h : i + 1 = N
    · exact .inr (.inr (.inr (.inl ⟨rfl, h, by simp [speakB, h]⟩)))
    · exact .inr (.inr (.inr (.inr (.inr (.inr ⟨rfl, by omega, by simp [speakB, h]⟩)))))
/-- The same of an Int, as the walk asks. -/
theorem kind_ways {N i kd : Nat} {ki : Int} (hi : i < N) (hk : kd = 0 ∨ kd = 1 ∨ kd = 2 ∨ kd = 3) (hki : (kd : Int) = ki) :
    ((ki == 1) = false ∧ (ki == 2) = false ∧ (ki == 3) = false ∧ speakB N kd i = true) ∨
    ((ki == 1) = true ∧ (ki == 2) = false ∧ (ki == 3) = false ∧ ((i : Int) == (N : Int) - 1) = false ∧ speakB N kd i = true) ∨
    ((ki == 1) = false ∧ (ki == 2) = true ∧ (ki == 3) = false ∧ i = 0 ∧ speakB N kd i = true) ∨
    ((ki == 1) = false ∧ (ki == 2) = false ∧ (ki == 3) = true ∧ (N : Int) - 1 ≤ (i : Int) ∧ speakB N kd i = true) ∨
    ((ki == 1) = true ∧ (ki == 2) = false ∧ (ki == 3) = false ∧ ((i : Int) == (N : Int) - 1) = true ∧ speakB N kd i = false) ∨
    ((ki == 1) = false ∧ (ki == 2) = true ∧ (ki == 3) = false ∧ 0 < (i : Int) ∧ speakB N kd i = false) ∨
    ((ki == 1) = false ∧ (ki == 2) = false ∧ (ki == 3) = true ∧ (i : Int) < (N : Int) - 1 ∧ speakB N kd i = false) := by
  subst hki
  simp only [beq_iff_eq, beq_eq_false_iff_ne]
  rcases speak_ways hi hk with ⟨h, hs⟩ | ⟨h, h2, hs⟩ | ⟨h, h2, hs⟩ | ⟨h, h2, hs⟩ | ⟨h, h2, hs⟩ | ⟨h, h2, hs⟩ | ⟨h, h2, hs⟩
  · exact .inl ⟨by omega, by omega, by omega, hs⟩
  · exact .inr (.inl ⟨by omega, by omega, by omega, by omega, hs⟩)
  · exact .inr (.inr (.inl ⟨by omega, by omega, by omega, by omega, hs⟩))
  · exact .inr (.inr (.inr (.inl ⟨by omega, by omega, by omega, by omega, hs⟩)))
  · exact .inr (.inr (.inr (.inr (.inl ⟨by omega, by omega, by omega, by omega, hs⟩))))
  · exact .inr (.inr (.inr (.inr (.inr (.inl ⟨by omega, by omega, by omega, by omega, hs⟩)))))
  · exact .inr (.inr (.inr (.inr (.inr (.inr ⟨by omega, by omega, by omega, by omega, hs⟩)))))
theorem tmod_next {i N : Nat} (_hi : i < N) : Int.tmod ((i : Int) + 1) (N : Int) = (((i + 1) % N : Nat) : Int) := by
  rw [show (i : Int) + 1 = ((i + 1 : Nat) : Int) by omega]; exact (Int.ofNat_tmod _ _)
end Go.Att
namespace Go.Proofs.YtionlicgaifblaaDoor
open Go.RowKit Go.Att
theorem wat_new {w : World} {p sz out : Int} {lv v : Value} {cd : List In4} {L : List (List Int)} {R : Nat → Value} (hp : 2 ≤ p) (hp2 : p ≤ 2147483647) (hc : Inqs w lv cd) (hv : RwsAt w v L R) (hL : ∀ i, i < L.length → (nthL L i).length = 20 + cd.length) {i j : Nat} (hi : i < L.length) (hj : j < L.length) (t : TypeId) :
    WAt (w.alloc (Obj.cells #[.int .i64 p, .int .i64 sz, lv, .int .i64 out, R i, R j] t)) w.heap.size p sz out cd lv (R i) (R j) (nthL L i) (nthL L j) :=
  ⟨by rw [cell_new]; rfl, by rw [cell_new]; rfl, by rw [cell_new]; rfl, by rw [cell_new]; rfl, by rw [cell_new]; rfl, by rw [cell_new]; rfl, hc.ext (Ext.alloc _ _), (hv.row i hi).ext (Ext.alloc _ _), (hv.row j hj).ext (Ext.alloc _ _), hL i hi, hL j hj, hp, hp2⟩
set_option maxRecDepth 100000 in
set_option maxHeartbeats 8000000 in
theorem dbroken_full (p sz out : Int) (lv v : Value) (cd : List In4) (L : List (List Int)) (w : World) (hp : 2 ≤ p) (hp2 : p ≤ 2147483647) (hc : Inqs w lv cd) (hv : Rws w v L) (hs : cd.length ≤ 1048576) (hN : L.length ≤ 1048576) (h0 : 0 < L.length) (h1 : 0 < cd.length) : Calls Tryd.prog 10 #[.int .i64 p, .agg #[.int .i64 sz, lv], .int .i64 out, v] w fun e w' => BrkGot p sz out cd L e ∧ Ext w w' := by
  obtain ⟨R, hv⟩ := hv
  have hll := hc.run_len (P := Tryd.prog) slIns
  have hlr := hv.run_len (P := Tryd.prog) slRowsK
  have HB := Lib.hid (bx_new w (.int .i64 sz) lv (.int .i64 0) (.int .i64 0) 24 31)
  have hz : ((L.length : Int) == 0) = false := beq_eq_false_iff_ne.2 (by omega)
  have hz2 : ((cd.length : Int) == 0) = false := beq_eq_false_iff_ne.2 (by omega)
  have HV0 := Lib.hid hv; have HC0 := Lib.hid hc
  clear hv hc
  go_enter Tryd.func10, Tryd.ntmps10
  go_wp2_with fail
  have HW := Lib.hid HB.out.2.2
  have HC2 := Lib.hid HB.out.1
  have HR := Lib.hid HB.out.2.1
  generalize (w.alloc (Obj.cells #[.int .i64 sz, lv] 24)).alloc (Obj.cells #[.int .i64 0, .int .i64 0] 31) = W at *
  have HV := Lib.hid (HV0.out.ext HW.out); have HC := Lib.hid (HC0.out.ext HW.out)
  clear HB hz hz2 HV0 HC0
  go_loopw [9, 10] (fun x9 x10 wr => ∃ (i : Nat) (b : Bool), i ≤ L.length ∧ x10 = .int .i64 i ∧ x9 = .bool b ∧ Hid (Ext W wr) ∧ Hid (if b then shapeB cd L = true else ∀ k, k < i → (nthL L k).length = 20 + cd.length)) (fun _ x10 _ => L.length - (intOf x10).toNat)
  case atStart => exact ⟨0, false, by omega, rfl, rfl, Lib.hid (Ext.refl _), Lib.hid (fun k hk => by omega)⟩
  case round =>
    obtain ⟨i, b, hi, rfl, rfl, HX, HS⟩ := hrel
    by_cases hil : i < L.length
    · cases b
      · have hix := HV.out.run_index (P := Tryd.prog) slRowsK i hil
        have hc := HX.out.cell (HV.out.cell i hil)
        have hrl := (HV.out.row i hil).run_len (P := Tryd.prog) slInts
        have c1 := HX.out.cell HC2.out.c1
        by_cases hm : (nthL L i).length = 20 + cd.length
        · have HM := Lib.hid hm
          have hq : (((nthL L i).length : Int) != 20 + (cd.length : Int)) = false := by rw [bne_eq_false_iff_eq]; omega
          clear hm
          generalize hmm : (nthL L i).length = m at *
          have HMM := Lib.hid hmm; clear hmm
          go_wp2_with fail
          go_quiet (fail)
          go_wp2_with fail
          go_roundw
          case rel => exact ⟨i + 1, false, by omega, by go_num, rfl, Lib.hid (HX.out.trans (Ext.drewN _ _)), Lib.hid (fun k hk => by
            rcases Nat.lt_or_eq_of_le (show k ≤ i by omega) with h | rfl
            · exact HS.out k h
            · rw [HMM.out]; exact HM.out)⟩
          case measure => simp [intOf]; omega
        · have HM := Lib.hid (shapeB_row hil hm)
          have hq : (((nthL L i).length : Int) != 20 + (cd.length : Int)) = true := by rw [bne_iff_ne]; omega
          clear hm
          generalize (nthL L i).length = m at *
          go_wp2_with fail
          go_quiet (fail)
          go_wp2_with fail
          go_roundw
          case rel => exact ⟨i + 1, true, by omega, by go_num, rfl, Lib.hid (HX.out.trans (Ext.drewN _ _)), Lib.hid HM.out⟩
          case measure => simp [intOf]; omega
      · go_wp2_with fail
        go_quiet (fail)
        go_wp2_with fail
        go_roundw
        case rel => exact ⟨i + 1, true, by omega, by go_num, rfl, Lib.hid (HX.out.trans (Ext.drewN _ _)), Lib.hid HS.out⟩
        case measure => simp [intOf]; omega
    · obtain rfl : i = L.length := by omega
      cases b
      · have HSH := Lib.hid (shapeB_full h0 h1 HS.out)
        have HL := Lib.hid (show ∀ i, i < L.length → (nthL L i).length = 20 + cd.length from HS.out)
        have HV := Lib.hid (HV.out.ext HX.out); have HC := Lib.hid (HC.out.ext HX.out)
        have HR := Lib.hid (HR.out.ext HX.out); have HC2 := Lib.hid (HC2.out.ext HX.out)
        have HW := Lib.hid (HW.out.trans HX.out)
        have c1 := HC2.out.c1
        clear HS HX
        go_wp2_with fail
        generalize wr = Wa at *
        go_loopw [13] (fun x13 w1 => ∃ k : Nat, k ≤ cd.length + 26 ∧ x13 = .int .i64 k ∧ Hid (Ext Wa w1) ∧ Hid (CleanB (badB p sz out cd L) L.length k 0)) (fun x13 _ => cd.length + 26 - (intOf x13).toNat)
        case atStart => exact ⟨0, by omega, rfl, Lib.hid (Ext.refl _), Lib.hid CleanB.start⟩
        case round =>
          obtain ⟨k, hk, rfl, HX, HCL⟩ := hrel
          by_cases hkl : k < cd.length + 26
          · go_wp2_with (go_at_call 30; refine (dof_any _ _ _ hs hkl).mono ?_; rintro e w' ⟨rfl, rfl⟩)
            generalize hkd : kindB cd.length k = kd at *
            have HKD := Lib.hid hkd
            have HK4 := Lib.hid (show kd = 0 ∨ kd = 1 ∨ kd = 2 ∨ kd = 3 from by rw [← hkd]; exact kindB_lit _ _)
            clear hkd
            obtain ⟨ki, hki⟩ : ∃ ki : Int, (kd : Int) = ki := ⟨_, rfl⟩
            rw [hki]
            have HKI := Lib.hid hki
            clear hki
            generalize wr = Wb at *
            go_loopw [15] (fun x15 w2 => ∃ i : Nat, i ≤ L.length ∧ x15 = .int .i64 i ∧ Hid (Ext Wa w2) ∧ Hid (CleanB (badB p sz out cd L) L.length k i)) (fun x15 _ => L.length - (intOf x15).toNat)
            case atStart => exact ⟨0, by omega, rfl, HX, HCL⟩
            case round =>
              clear HX HCL
              obtain ⟨i, hi, rfl, HX, HCL⟩ := hrel
              by_cases hil : i < L.length
              · rcases kind_ways hil HK4.out HKI.out with ⟨q1, q2, q3, hsp⟩ | ⟨q1, q2, q3, q4, hsp⟩ | ⟨q1, q2, q3, q4, hsp⟩ | ⟨q1, q2, q3, q4, hsp⟩ | ⟨q1, q2, q3, q4, hsp⟩ | ⟨q1, q2, q3, q4, hsp⟩ | ⟨q1, q2, q3, q4, hsp⟩
                · have HSP := Lib.hid hsp
                  clear hsp HK4
                  obtain ⟨j, hj, hjl⟩ : ∃ j, (i + 1) % L.length = j ∧ j < L.length := ⟨_, rfl, Nat.mod_lt _ h0⟩
                  have HTM := Lib.hid (show Int.tmod ((i : Int) + 1) (L.length : Int) = (j : Int) from by rw [← hj]; exact tmod_next hil)
                  have HJ := Lib.hid hj
                  clear hj
                  obtain ⟨ai, ci, hRi⟩ := (HV.out.row i hil).shape
                  obtain ⟨aj, cj, hRj⟩ := (HV.out.row j hjl).shape
                  have hix : ∀ w', (Instr.indexAt 25 v (.int .i64 (i : Int))).run Tryd.prog w' = .ok (.pointer (some (elt v i 1))) w' := HV.out.run_index (P := Tryd.prog) slRowsK i hil
                  have hjx := HV.out.run_index (P := Tryd.prog) slRowsK j hjl
                  have hci := HX.out.cell (HV.out.cell i hil)
                  have hcj := HX.out.cell (HV.out.cell j hjl)
                  rw [hRi] at hci
                  rw [hRj] at hcj
                  have HRI := Lib.hid hRi; have HRJ := Lib.hid hRj
                  clear hRi hRj
                  generalize hli : (nthL L i).length = li at hci HRI
                  generalize hlj : (nthL L j).length = lj at hcj HRJ
                  clear hli hlj
                  have HC2r := Lib.hid (HC2.out.ext HX.out)
                  have e0 := HC2r.out.c0
                  have e1 := HC2r.out.c1
                  obtain ⟨ys, hys⟩ : ∃ y, ruleD p sz out cd (nthL L i) (nthL L j) k = y := ⟨_, rfl⟩
                  have HY := Lib.hid hys
                  have HBD := Lib.hid (badB_say HKD.out HSP.out HJ.out HY.out)
                  clear hys
                  go_wp2_with fail
                  have hwr : IntKind.i64.wrap ((i : Int) + 1) = (i : Int) + 1 := IntWalk.i64_in _ (by omega)
                  have htm := HTM.out
                  refine wp_region_quiet_tail 14 (by kernel_rfl) (by kernel_rfl) ?_
                  simp only [List.take_succ_cons, List.take_zero, List.drop_succ_cons, List.drop_zero]
                  repeat (go_big_quiet_step (fail))
                  refine wpQuiet_nil ?_
                  rintro _ ⟨nq, rfl⟩
                  clear hwr htm
                  have HXd := Lib.hid (HX.out.trans (Ext.drewN wr nq))
                  have HWAT := wat_new (sz := sz) (out := out) hp hp2 (HC.out.ext HXd.out) (HV.out.ext HXd.out) HL.out hil hjl 76
                  rw [HRI.out, HRJ.out] at HWAT
                  have C := wrule_any HWAT hs (by omega) k hkl
                  rw [HY.out] at C
                  have HXb := Lib.hid (HXd.out.trans (Ext.alloc _ (Obj.cells #[.int .i64 p, .int .i64 sz, lv, .int .i64 out, .slice ai li ci, .slice aj lj cj] 76)))
                  clear HWAT hix hjx hci hcj e0 e1
                  go_wp2_with fail
                  refine C.mono ?_
                  rintro e w3 ⟨rfl, hx3⟩
                  have HX3 := Lib.hid (HXb.out.trans hx3)
                  clear C hx3 HXb HXd
                  by_cases hy0 : ys = 0
                  · have HBF := Lib.hid (show badB p sz out cd L k i = false by rw [HBD.out, hy0]; rfl)
                    subst hy0
                    go_wp2_with fail
                    go_roundw
                    case rel => exact ⟨i + 1, by omega, by go_num, HX3, Lib.hid (HCL.out.next HBF.out)⟩
                    case measure => simp [intOf]; omega
                  · have HBT := Lib.hid (show badB p sz out cd L k i = true by rw [HBD.out]; simpa using hy0)
                    have hyb : (ys != 0) = true := by simpa using hy0
                    have hyc : (ys == 0) = false := by simpa using hy0
                    clear hy0
                    have HRR := Lib.hid (HR.out.ext HX3.out)
                    have HWX := Lib.hid (HW.out.trans HX3.out)
                    obtain ⟨g0, g1, f0, f1⟩ := HRR.out
                    go_wp2_with fail
                    have HF := Lib.hid (HRR.out.both HWX.out (show w.heap.size ≤ w.heap.size + 1 by omega) (.int .i64 k) (.int .i64 (i : Int)))
                    generalize ((w3.setCell ⟨w.heap.size + 1, 0, none⟩ (.int .i64 k)).setCell ⟨w.heap.size + 1, 1, none⟩ (.int .i64 (i : Int))) = W2 at *
                    have k0 := HF.out.1.c0
                    have k1 := HF.out.1.c1
                    clear g0 g1 f0 f1
                    refine bodyPost_ret (v := .agg #[.int .i64 k, .int .i64 (i : Int)]) ?_ rfl ⟨.inr ⟨HSH.out, some (k, i), HCL.out.some hkl hil HBT.out, rfl⟩, HF.out.2⟩
                    simp [results, Tryd.results10, go_sem, k0, k1]
                · have HSP := Lib.hid hsp
                  clear hsp HK4
                  obtain ⟨j, hj, hjl⟩ : ∃ j, (i + 1) % L.length = j ∧ j < L.length := ⟨_, rfl, Nat.mod_lt _ h0⟩
                  have HTM := Lib.hid (show Int.tmod ((i : Int) + 1) (L.length : Int) = (j : Int) from by rw [← hj]; exact tmod_next hil)
                  have HJ := Lib.hid hj
                  clear hj
                  obtain ⟨ai, ci, hRi⟩ := (HV.out.row i hil).shape
                  obtain ⟨aj, cj, hRj⟩ := (HV.out.row j hjl).shape
                  have hix : ∀ w', (Instr.indexAt 25 v (.int .i64 (i : Int))).run Tryd.prog w' = .ok (.pointer (some (elt v i 1))) w' := HV.out.run_index (P := Tryd.prog) slRowsK i hil
                  have hjx := HV.out.run_index (P := Tryd.prog) slRowsK j hjl
                  have hci := HX.out.cell (HV.out.cell i hil)
                  have hcj := HX.out.cell (HV.out.cell j hjl)
                  rw [hRi] at hci
                  rw [hRj] at hcj
                  have HRI := Lib.hid hRi; have HRJ := Lib.hid hRj
                  clear hRi hRj
                  generalize hli : (nthL L i).length = li at hci HRI
                  generalize hlj : (nthL L j).length = lj at hcj HRJ
                  clear hli hlj
                  have HC2r := Lib.hid (HC2.out.ext HX.out)
                  have e0 := HC2r.out.c0
                  have e1 := HC2r.out.c1
                  obtain ⟨ys, hys⟩ : ∃ y, ruleD p sz out cd (nthL L i) (nthL L j) k = y := ⟨_, rfl⟩
                  have HY := Lib.hid hys
                  have HBD := Lib.hid (badB_say HKD.out HSP.out HJ.out HY.out)
                  clear hys
                  go_wp2_with fail
                  have hwr : IntKind.i64.wrap ((i : Int) + 1) = (i : Int) + 1 := IntWalk.i64_in _ (by omega)
                  have htm := HTM.out
                  refine wp_region_quiet_tail 14 (by kernel_rfl) (by kernel_rfl) ?_
                  simp only [List.take_succ_cons, List.take_zero, List.drop_succ_cons, List.drop_zero]
                  repeat (go_big_quiet_step (fail))
                  refine wpQuiet_nil ?_
                  rintro _ ⟨nq, rfl⟩
                  clear hwr htm
                  have HXd := Lib.hid (HX.out.trans (Ext.drewN wr nq))
                  have HWAT := wat_new (sz := sz) (out := out) hp hp2 (HC.out.ext HXd.out) (HV.out.ext HXd.out) HL.out hil hjl 76
                  rw [HRI.out, HRJ.out] at HWAT
                  have C := wrule_any HWAT hs (by omega) k hkl
                  rw [HY.out] at C
                  have HXb := Lib.hid (HXd.out.trans (Ext.alloc _ (Obj.cells #[.int .i64 p, .int .i64 sz, lv, .int .i64 out, .slice ai li ci, .slice aj lj cj] 76)))
                  clear HWAT hix hjx hci hcj e0 e1
                  go_wp2_with fail
                  refine C.mono ?_
                  rintro e w3 ⟨rfl, hx3⟩
                  have HX3 := Lib.hid (HXb.out.trans hx3)
                  clear C hx3 HXb HXd
                  by_cases hy0 : ys = 0
                  · have HBF := Lib.hid (show badB p sz out cd L k i = false by rw [HBD.out, hy0]; rfl)
                    subst hy0
                    go_wp2_with fail
                    go_roundw
                    case rel => exact ⟨i + 1, by omega, by go_num, HX3, Lib.hid (HCL.out.next HBF.out)⟩
                    case measure => simp [intOf]; omega
                  · have HBT := Lib.hid (show badB p sz out cd L k i = true by rw [HBD.out]; simpa using hy0)
                    have hyb : (ys != 0) = true := by simpa using hy0
                    have hyc : (ys == 0) = false := by simpa using hy0
                    clear hy0
                    have HRR := Lib.hid (HR.out.ext HX3.out)
                    have HWX := Lib.hid (HW.out.trans HX3.out)
                    obtain ⟨g0, g1, f0, f1⟩ := HRR.out
                    go_wp2_with fail
                    have HF := Lib.hid (HRR.out.both HWX.out (show w.heap.size ≤ w.heap.size + 1 by omega) (.int .i64 k) (.int .i64 (i : Int)))
                    generalize ((w3.setCell ⟨w.heap.size + 1, 0, none⟩ (.int .i64 k)).setCell ⟨w.heap.size + 1, 1, none⟩ (.int .i64 (i : Int))) = W2 at *
                    have k0 := HF.out.1.c0
                    have k1 := HF.out.1.c1
                    clear g0 g1 f0 f1
                    refine bodyPost_ret (v := .agg #[.int .i64 k, .int .i64 (i : Int)]) ?_ rfl ⟨.inr ⟨HSH.out, some (k, i), HCL.out.some hkl hil HBT.out, rfl⟩, HF.out.2⟩
                    simp [results, Tryd.results10, go_sem, k0, k1]
                · obtain rfl : i = 0 := q4
                  have HSP := Lib.hid hsp
                  clear hsp HK4
                  obtain ⟨j, hj, hjl⟩ : ∃ j, (0 + 1) % L.length = j ∧ j < L.length := ⟨_, rfl, Nat.mod_lt _ h0⟩
                  have HTM := Lib.hid (show Int.tmod (((0 : Nat) : Int) + 1) (L.length : Int) = (j : Int) from by rw [← hj]; exact tmod_next hil)
                  have HJ := Lib.hid hj
                  clear hj
                  obtain ⟨ai, ci, hRi⟩ := (HV.out.row 0 hil).shape
                  obtain ⟨aj, cj, hRj⟩ := (HV.out.row j hjl).shape
                  have hix : ∀ w', (Instr.indexAt 25 v (.int .i64 0)).run Tryd.prog w' = .ok (.pointer (some (elt v 0 1))) w' := HV.out.run_index (P := Tryd.prog) slRowsK 0 hil
                  have hjx := HV.out.run_index (P := Tryd.prog) slRowsK j hjl
                  have hci := HX.out.cell (HV.out.cell 0 hil)
                  have hcj := HX.out.cell (HV.out.cell j hjl)
                  rw [hRi] at hci
                  rw [hRj] at hcj
                  have HRI := Lib.hid hRi; have HRJ := Lib.hid hRj
                  clear hRi hRj
                  generalize hli : (nthL L 0).length = li at hci HRI
                  generalize hlj : (nthL L j).length = lj at hcj HRJ
                  clear hli hlj
                  have HC2r := Lib.hid (HC2.out.ext HX.out)
                  have e0 := HC2r.out.c0
                  have e1 := HC2r.out.c1
                  obtain ⟨ys, hys⟩ : ∃ y, ruleD p sz out cd (nthL L 0) (nthL L j) k = y := ⟨_, rfl⟩
                  have HY := Lib.hid hys
                  have HBD := Lib.hid (badB_say HKD.out HSP.out HJ.out HY.out)
                  clear hys
                  go_wp2_with fail
                  have htm0 : Int.tmod 1 (L.length : Int) = (j : Int) := by have := HTM.out; simpa using this
                  refine wp_region_quiet_tail 14 (by kernel_rfl) (by kernel_rfl) ?_
                  simp only [List.take_succ_cons, List.take_zero, List.drop_succ_cons, List.drop_zero]
                  repeat (go_big_quiet_step (fail))
                  refine wpQuiet_nil ?_
                  rintro _ ⟨nq, rfl⟩
                  clear htm0
                  have HXd := Lib.hid (HX.out.trans (Ext.drewN wr nq))
                  have HWAT := wat_new (sz := sz) (out := out) hp hp2 (HC.out.ext HXd.out) (HV.out.ext HXd.out) HL.out hil hjl 76
                  rw [HRI.out, HRJ.out] at HWAT
                  have C := wrule_any HWAT hs (by omega) k hkl
                  rw [HY.out] at C
                  have HXb := Lib.hid (HXd.out.trans (Ext.alloc _ (Obj.cells #[.int .i64 p, .int .i64 sz, lv, .int .i64 out, .slice ai li ci, .slice aj lj cj] 76)))
                  clear HWAT hix hjx hci hcj e0 e1
                  go_wp2_with fail
                  refine C.mono ?_
                  rintro e w3 ⟨rfl, hx3⟩
                  have HX3 := Lib.hid (HXb.out.trans hx3)
                  clear C hx3 HXb HXd
                  by_cases hy0 : ys = 0
                  · have HBF := Lib.hid (show badB p sz out cd L k 0 = false by rw [HBD.out, hy0]; rfl)
                    subst hy0
                    go_wp2_with fail
                    go_roundw
                    case rel => exact ⟨0 + 1, by omega, by go_num, HX3, Lib.hid (HCL.out.next HBF.out)⟩
                    case measure => simp [intOf]; omega
                  · have HBT := Lib.hid (show badB p sz out cd L k 0 = true by rw [HBD.out]; simpa using hy0)
                    have hyb : (ys != 0) = true := by simpa using hy0
                    have hyc : (ys == 0) = false := by simpa using hy0
                    clear hy0
                    have HRR := Lib.hid (HR.out.ext HX3.out)
                    have HWX := Lib.hid (HW.out.trans HX3.out)
                    obtain ⟨g0, g1, f0, f1⟩ := HRR.out
                    go_wp2_with fail
                    have HF := Lib.hid (HRR.out.both HWX.out (show w.heap.size ≤ w.heap.size + 1 by omega) (.int .i64 k) (.int .i64 0))
                    generalize ((w3.setCell ⟨w.heap.size + 1, 0, none⟩ (.int .i64 k)).setCell ⟨w.heap.size + 1, 1, none⟩ (.int .i64 0)) = W2 at *
                    have k0 := HF.out.1.c0
                    have k1 := HF.out.1.c1
                    clear g0 g1 f0 f1
                    refine bodyPost_ret (v := .agg #[.int .i64 k, .int .i64 0]) ?_ rfl ⟨.inr ⟨HSH.out, some (k, 0), HCL.out.some hkl hil HBT.out, rfl⟩, HF.out.2⟩
                    simp [results, Tryd.results10, go_sem, k0, k1]
                · have HSP := Lib.hid hsp
                  clear hsp HK4
                  obtain ⟨j, hj, hjl⟩ : ∃ j, (i + 1) % L.length = j ∧ j < L.length := ⟨_, rfl, Nat.mod_lt _ h0⟩
                  have HTM := Lib.hid (show Int.tmod ((i : Int) + 1) (L.length : Int) = (j : Int) from by rw [← hj]; exact tmod_next hil)
                  have HJ := Lib.hid hj
                  clear hj
                  obtain ⟨ai, ci, hRi⟩ := (HV.out.row i hil).shape
                  obtain ⟨aj, cj, hRj⟩ := (HV.out.row j hjl).shape
                  have hix : ∀ w', (Instr.indexAt 25 v (.int .i64 (i : Int))).run Tryd.prog w' = .ok (.pointer (some (elt v i 1))) w' := HV.out.run_index (P := Tryd.prog) slRowsK i hil
                  have hjx := HV.out.run_index (P := Tryd.prog) slRowsK j hjl
                  have hci := HX.out.cell (HV.out.cell i hil)
                  have hcj := HX.out.cell (HV.out.cell j hjl)
                  rw [hRi] at hci
                  rw [hRj] at hcj
                  have HRI := Lib.hid hRi; have HRJ := Lib.hid hRj
                  clear hRi hRj
                  generalize hli : (nthL L i).length = li at hci HRI
                  generalize hlj : (nthL L j).length = lj at hcj HRJ
                  clear hli hlj
                  have HC2r := Lib.hid (HC2.out.ext HX.out)
                  have e0 := HC2r.out.c0
                  have e1 := HC2r.out.c1
                  obtain ⟨ys, hys⟩ : ∃ y, ruleD p sz out cd (nthL L i) (nthL L j) k = y := ⟨_, rfl⟩
                  have HY := Lib.hid hys
                  have HBD := Lib.hid (badB_say HKD.out HSP.out HJ.out HY.out)
                  clear hys
                  go_wp2_with fail
                  have hwr : IntKind.i64.wrap ((i : Int) + 1) = (i : Int) + 1 := IntWalk.i64_in _ (by omega)
                  have htm := HTM.out
                  refine wp_region_quiet_tail 14 (by kernel_rfl) (by kernel_rfl) ?_
                  simp only [List.take_succ_cons, List.take_zero, List.drop_succ_cons, List.drop_zero]
                  repeat (go_big_quiet_step (fail))
                  refine wpQuiet_nil ?_
                  rintro _ ⟨nq, rfl⟩
                  clear hwr htm
                  have HXd := Lib.hid (HX.out.trans (Ext.drewN wr nq))
                  have HWAT := wat_new (sz := sz) (out := out) hp hp2 (HC.out.ext HXd.out) (HV.out.ext HXd.out) HL.out hil hjl 76
                  rw [HRI.out, HRJ.out] at HWAT
                  have C := wrule_any HWAT hs (by omega) k hkl
                  rw [HY.out] at C
                  have HXb := Lib.hid (HXd.out.trans (Ext.alloc _ (Obj.cells #[.int .i64 p, .int .i64 sz, lv, .int .i64 out, .slice ai li ci, .slice aj lj cj] 76)))
                  clear HWAT hix hjx hci hcj e0 e1
                  go_wp2_with fail
                  refine C.mono ?_
                  rintro e w3 ⟨rfl, hx3⟩
                  have HX3 := Lib.hid (HXb.out.trans hx3)
                  clear C hx3 HXb HXd
                  by_cases hy0 : ys = 0
                  · have HBF := Lib.hid (show badB p sz out cd L k i = false by rw [HBD.out, hy0]; rfl)
                    subst hy0
                    go_wp2_with fail
                    go_roundw
                    case rel => exact ⟨i + 1, by omega, by go_num, HX3, Lib.hid (HCL.out.next HBF.out)⟩
                    case measure => simp [intOf]; omega
                  · have HBT := Lib.hid (show badB p sz out cd L k i = true by rw [HBD.out]; simpa using hy0)
                    have hyb : (ys != 0) = true := by simpa using hy0
                    have hyc : (ys == 0) = false := by simpa using hy0
                    clear hy0
                    have HRR := Lib.hid (HR.out.ext HX3.out)
                    have HWX := Lib.hid (HW.out.trans HX3.out)
                    obtain ⟨g0, g1, f0, f1⟩ := HRR.out
                    go_wp2_with fail
                    have HF := Lib.hid (HRR.out.both HWX.out (show w.heap.size ≤ w.heap.size + 1 by omega) (.int .i64 k) (.int .i64 (i : Int)))
                    generalize ((w3.setCell ⟨w.heap.size + 1, 0, none⟩ (.int .i64 k)).setCell ⟨w.heap.size + 1, 1, none⟩ (.int .i64 (i : Int))) = W2 at *
                    have k0 := HF.out.1.c0
                    have k1 := HF.out.1.c1
                    clear g0 g1 f0 f1
                    refine bodyPost_ret (v := .agg #[.int .i64 k, .int .i64 (i : Int)]) ?_ rfl ⟨.inr ⟨HSH.out, some (k, i), HCL.out.some hkl hil HBT.out, rfl⟩, HF.out.2⟩
                    simp [results, Tryd.results10, go_sem, k0, k1]
                · have HBS := Lib.hid (badB_skip (p := p) (sz := sz) (out := out) (L := L) HKD.out hsp)
                  clear hsp HK4
                  go_wp2_with fail
                  go_roundw
                  case rel => exact ⟨i + 1, by omega, by go_num, HX, Lib.hid (HCL.out.next HBS.out)⟩
                  case measure => simp [intOf]; omega
                · have HBS := Lib.hid (badB_skip (p := p) (sz := sz) (out := out) (L := L) HKD.out hsp)
                  clear hsp HK4
                  go_wp2_with fail
                  go_roundw
                  case rel => exact ⟨i + 1, by omega, by go_num, HX, Lib.hid (HCL.out.next HBS.out)⟩
                  case measure => simp [intOf]; omega
                · have HBS := Lib.hid (badB_skip (p := p) (sz := sz) (out := out) (L := L) HKD.out hsp)
                  clear hsp HK4
                  go_wp2_with fail
                  go_roundw
                  case rel => exact ⟨i + 1, by omega, by go_num, HX, Lib.hid (HCL.out.next HBS.out)⟩
                  case measure => simp [intOf]; omega
              · obtain rfl : i = L.length := by omega
                go_wp2_with fail
                go_roundw
                case rel => exact ⟨k + 1, by omega, by go_num, HX, Lib.hid HCL.out.row⟩
                case measure => simp [intOf]; omega
          · obtain rfl : k = cd.length + 26 := by omega
            have HRR := Lib.hid (HR.out.ext HX.out)
            have HWX := Lib.hid (HW.out.trans HX.out)
            obtain ⟨c0, c1, f0, f1⟩ := HRR.out
            clear HX HR HW HC2 HV HC
            go_wp2_with fail
            have HF := Lib.hid (HRR.out.both HWX.out (show w.heap.size ≤ w.heap.size + 1 by omega) (.int .i64 (-1)) (.int .i64 0))
            generalize ((wr.setCell ⟨w.heap.size + 1, 0, none⟩ (.int .i64 (-1))).setCell ⟨w.heap.size + 1, 1, none⟩ (.int .i64 0)) = W2 at *
            have k0 := HF.out.1.c0
            have k1 := HF.out.1.c1
            refine bodyPost_ret (v := .agg #[.int .i64 (-1), .int .i64 0]) ?_ rfl ⟨.inr ⟨HSH.out, none, HCL.out.none, rfl⟩, HF.out.2⟩
            simp [results, Tryd.results10, go_sem, k0, k1]
      · have HRR := Lib.hid (HR.out.ext HX.out)
        have HWX := Lib.hid (HW.out.trans HX.out)
        obtain ⟨c0, c1, f0, f1⟩ := HRR.out
        clear HX HR HW HC2 HV HC
        go_wp2_with fail
        have HF := Lib.hid (HRR.out.both HWX.out (show w.heap.size ≤ w.heap.size + 1 by omega) (.int .i64 (-2)) (.int .i64 0))
        generalize ((wr.setCell ⟨w.heap.size + 1, 0, none⟩ (.int .i64 (-2))).setCell ⟨w.heap.size + 1, 1, none⟩ (.int .i64 0)) = W2 at *
        have k0 := HF.out.1.c0
        have k1 := HF.out.1.c1
        refine bodyPost_ret (v := .agg #[.int .i64 (-2), .int .i64 0]) ?_ rfl ⟨.inl ⟨HS.out, rfl⟩, HF.out.2⟩
        simp [results, Tryd.results10, go_sem, k0, k1]
end Go.Proofs.YtionlicgaifblaaDoor
