/- Sums of rows, each times a power: the document's side: Powers, Sum: contracts. -/
import Derived.Test.YtcpnidomdkaefaaGreatDoorJa
import Derived.Test.YtcpnidomdkaefaaGreatDoorZx3
namespace Go.Att
open Go.RowKit
def powsL (p r : Int) (n : Nat) : List Int := (List.range n).map fun i => fpow p r i
theorem powsL_length (p r : Int) (n : Nat) : (powsL p r n).length = n := by simp [powsL]
theorem powsL_snoc (p r : Int) (n : Nat) : powsL p r (n + 1) = powsL p r n ++ [fpow p r n] := by simp [powsL, List.range_succ]
theorem powsL_nth (p r : Int) (n i : Nat) (h : i < n) : nth (powsL p r n) i = fpow p r i := nth_map_range _ _ _ h
end Go.Att
namespace Go.Proofs.YtcpnidomdkaefaaGreatDoor
open Go.RowKit Go.Att
section
variable {w : World} {p : Int}
set_option maxRecDepth 100000 in
set_option maxHeartbeats 4000000 in
theorem rpowers_any (hp : 2 ≤ p) (hp2 : p ≤ 2147483647) (r : Int) (n : Nat) (hn : n ≤ 4294967290) :
    Calls Tryz.prog 53 #[.int .i64 p, .int .i64 r, .int .i64 n] w (Gives w fun u w' => Ints w' u (powsL p r n)) := by
  go_enter Tryz.func53, Tryz.ntmps53
  go_wp2_with fail
  go_loopw [7, 8, 9] (fun x7 x8 _ wr => ∃ i : Nat, i ≤ n ∧ x8 = .int .i64 i ∧ Hid (wr.ownsRow w.heap.size 3 1 x7 i ((powsL p r i).map (Value.int .i64))) ∧ Hid (Ext w wr)) (fun _ x8 _ _ => n - (intOf x8).toNat)
  case atStart => exact ⟨0, Nat.zero_le _, rfl, Lib.hid (World.ownsRow_nil _ _ _ _), Lib.hid (Ext.refl _)⟩
  case round =>
    obtain ⟨i, hi, rfl, HO, HX⟩ := hrel
    by_cases hlt : i < n
    · have S := Lib.hid (powsL_snoc p r i)
      go_wp2_with (first | (go_at_call 101; refine (rpow_any p r i _ hp hp2 (by omega)).mono ?_; rintro e w' ⟨rfl, rfl⟩) | (at_builtin; refine wpList_app1 rfl _ _ 22 rfl slInts rfl HX.out HO.out rfl _ rfl rfl (by omega) (by omega) ?_; intro v' w2 HO' HX' _))
      go_roundw
      case rel => exact ⟨i + 1, by omega, by go_num, Lib.hid (by rw [S.out, List.map_append]; exact HO'), Lib.hid HX'⟩
      case measure => simp [intOf]; omega
    · obtain rfl : n = i := by omega
      go_wp2_with fail
      go_ret
      exact .mk _ rfl HX.out (Ints.of_own HO.out)
set_option maxRecDepth 100000 in
set_option maxHeartbeats 8000000 in
theorem rsum_any (hp : 2 ≤ p) (hp2 : p ≤ 2147483647) (vr vb : Value) (rows : List (List Int)) (by_ : List Int) (R : Nat → Value) (hr : RwsAt w vr rows R) (hb : Ints w vb by_) (m : Nat) (h0 : 0 < rows.length) (hm : ∀ i, i < rows.length → (nthL rows i).length = m) (hm2 : m ≤ 4294967290) (hbl : rows.length ≤ by_.length) :
    Calls Tryz.prog 79 #[.int .i64 p, vr, vb] w (Gives w fun u w' => Ints w' u (mxU p (nth by_) rows m rows.length)) := by
  have hlr := hr.run_len (P := Tryz.prog) slRows
  have hrl := hr.len
  have hi0 := hr.run_index (P := Tryz.prog) slRows 0 h0
  have hc0 := hr.cell 0 h0
  have hl0 := (hr.row 0 h0).run_len (P := Tryz.prog) slInts
  rw [hm 0 h0] at hl0
  rw [show ((0 : Nat) : Int) = 0 from rfl] at hi0
  have HR := Lib.hid hr; have HM := Lib.hid hm; have HB := Lib.hid hb; have HBL := Lib.hid hbl
  have HML := Lib.hid (fun i (hi : i ≤ rows.length) => mxU_length p (nth by_) rows m hm i hi)
  clear hr hm hb hbl
  go_enter Tryz.func79, Tryz.ntmps79
  go_wp2_with (refine wpList_mkn rfl _ _ 22 rfl slInts (Ext.refl _) rfl rfl (by omega) (by omega) (by omega) ?_; intro v7 w7 HN1 HX1 HG1)
  have HO0 := Lib.hid (show w7.ownsRow w.heap.size 3 1 v7 m ((mxU p (nth by_) rows m 0).map (Value.int .i64)) from by
    rw [Int.toNat_natCast, zeros_made, List.append_nil] at HN1
    exact HN1)
  have HX7 := Lib.hid HX1
  have HVB := Lib.hid (show ∀ q, v7.ownBlock = some q → w.heap.size ≤ q from fun q hq => (HN1.lt q hq).1)
  have hl7 := (Sl.of_own HN1 (by omega)).run_len (P := Tryz.prog) slInts
  rw [Int.toNat_natCast] at hl7
  clear HN1 HX1 HG1 hi0 hc0 hl0
  go_loopw [8, 9, 10] (fun x8 _ _ wr => ∃ i : Nat, i ≤ rows.length ∧ x8 = .int .i64 i ∧ Hid (wr.ownsRow w.heap.size 3 1 v7 m ((mxU p (nth by_) rows m i).map (Value.int .i64))) ∧ Hid (w7.grownBy wr v7.ownBlock)) (fun x8 _ _ _ => rows.length - (intOf x8).toNat)
  case atStart => exact ⟨0, Nat.zero_le _, rfl, HO0, Lib.hid (World.grownBy.refl _ _)⟩
  case round =>
    obtain ⟨i, hi, rfl, HOW, HXQ⟩ := hrel
    have HXR := Lib.hid (Ext.own_grown HX7.out HO0.out HXQ.out)
    by_cases hin : i < rows.length
    · have hix := HR.out.run_index (P := Tryz.prog) slRows i hin
      have HCX := Lib.hid (HR.out.cell i hin)
      have HROW := Lib.hid (HR.out.row i hin)
      have HRL := Lib.hid (HM.out i hin)
      have hib := HB.out.run_index (P := Tryz.prog) slInts i (Nat.lt_of_lt_of_le hin HBL.out)
      have HCB := Lib.hid (HB.out.cell i (Nat.lt_of_lt_of_le hin HBL.out))
      have HUL := Lib.hid (HML.out i hi)
      have HUN := Lib.hid (show mxU p (nth by_) rows m (i + 1) = addc p (nth by_ i) (mxU p (nth by_) rows m i) (nthL rows i) from rfl)
      generalize mxU p (nth by_) rows m i = sm at *
      generalize nthL rows i = pt at *
      generalize R i = ri at *
      generalize nth by_ i = c at *
      have HA0 := Lib.hid (show wr.ownsRow w.heap.size 3 1 v7 m ((adRow p c sm pt 0).map (Value.int .i64)) from by rw [adRow_zero]; exact HOW.out)
      have HX8 := Lib.hid HXR.out
      clear HOW HXR
      generalize wr = w9 at *
      go_wp2_with fail
      go_loopw [9, 10] (fun x9 _ wq => ∃ t : Nat, t ≤ m ∧ x9 = .int .i64 t ∧ Hid (wq.ownsRow w.heap.size 3 1 v7 m ((adRow p c sm pt t).map (Value.int .i64))) ∧ Hid (w9.grownBy wq v7.ownBlock)) (fun x9 _ _ => m - (intOf x9).toNat)
      case atStart => exact ⟨0, Nat.zero_le _, rfl, HA0, Lib.hid (World.grownBy.refl _ _)⟩
      case round =>
        obtain ⟨t, ht, rfl, HOT, HXT⟩ := hrel
        have HXTW := Lib.hid (show Ext w wr from Below.grown HX8.out.below HXT.out HX8.out.size (fun q e => HVB.out q e))
        by_cases htn : t < m
        · have HPW := Lib.hid (HROW.out.ext HXTW.out)
          have hip := HPW.out.run_index (P := Tryz.prog) slInts t (by rw [HRL.out]; exact htn)
          have hcp := HPW.out.cell t (by rw [HRL.out]; exact htn)
          have hcx := HXTW.out.cell HCX.out
          have hcb := HXTW.out.cell HCB.out
          have hlr2 : (adRow p c sm pt t).length = m := by rw [adRow_length]; exact HUL.out
          have HIT := Lib.hid (Ints.of_own HOT.out)
          have his := HIT.out.run_index (P := Tryz.prog) slInts t (by rw [hlr2]; exact htn)
          have hcs := HIT.out.cell t (by rw [hlr2]; exact htn)
          rw [adRow_nth _ _ _ _ _ (by rw [HUL.out]; exact htn)] at hcs
          have HST := Lib.hid (adRow_step p c sm pt t (by rw [HUL.out]; exact htn))
          have HLR := Lib.hid hlr2
          clear hlr2
          generalize nth pt t = y at *
          generalize nth sm t = sy at *
          go_wp2_with fail
          go_quiet ((go_at_call 109; exact rmul_q _ _ _ _ _ hp hp2))
          have HO4 := Lib.hid (own_ext HOT.out (Ext.drewN wr nq))
          have HXT4 := Lib.hid (HXT.out.trans ((Ext.drewN wr nq).grownBy _))
          replace hcs := (Ext.drewN wr nq).cell hcs
          clear hip hcp hcx hcb HPW HXTW HIT HOT HXT
          generalize wr.drewN nq = w6 at *
          go_wp2_with (first | (go_at_call 110; refine (radd_any _ _ _ _ hp hp2).mono ?_; rintro e w' ⟨rfl, rfl⟩) | (refine wpList_set rfl rfl _ _ 3 rfl slInts HO4.out t htn rfl (.int .i64 (fadd p sy (fmul p c y))) rfl rfl (by intro u hu; simp [Value.cells] at hu; subst hu; rfl) ?_; intro w5 HO5 HG5))
          rw [ints_setC _ _ (by rw [HLR.out]; exact htn), HST.out] at HO5
          have HO5H := Lib.hid HO5
          clear HO5
          go_roundw
          case rel => exact ⟨t + 1, by omega, by go_num, HO5H, Lib.hid (HXT4.out.trans HG5)⟩
          case measure => simp [intOf]; omega
        · obtain rfl : m = t := by omega
          have HSF := Lib.hid (show wr.ownsRow w.heap.size 3 1 v7 m ((mxU p (nth by_) rows m (i + 1)).map (Value.int .i64)) from by
            have h5 := HOT.out
            have h6 := adRow_last p c sm pt (by rw [HUL.out, HRL.out])
            rw [HUL.out] at h6
            rw [HUN.out, ← h6]; exact h5)
          clear HOT
          go_wp2_with fail
          go_roundw
          case rel => exact ⟨i + 1, by omega, by go_num, HSF, Lib.hid (HXQ.out.trans HXT.out)⟩
          case measure => simp [intOf]; omega
    · obtain rfl : i = rows.length := by omega
      go_wp2_with fail
      go_ret
      exact .mk _ rfl HXR.out (Ints.of_own HOW.out)
end
end Go.Proofs.YtcpnidomdkaefaaGreatDoor
