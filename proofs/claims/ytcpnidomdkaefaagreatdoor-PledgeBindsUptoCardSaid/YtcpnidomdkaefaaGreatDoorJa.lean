/- Sums of rows, each times a weight: the program's side: pledge.weighed, pledge.Mix: contracts. -/
import Derived.Test.YtcpnidomdkaefaaGreatDoorZx22
import Derived.Test.YtcpnidomdkaefaaGreatDoorZx11
namespace Go.Att
open Go.RowKit
/-- The first rows' sum, each times its weight. -/
def mxU (p : Int) (f : Nat → Int) (rows : List (List Int)) (m : Nat) : Nat → List Int
  | 0 => List.replicate m 0
  | i + 1 => addc p (f i) (mxU p f rows m i) (nthL rows i)
theorem mxU_length (p : Int) (f : Nat → Int) (rows : List (List Int)) (m : Nat) (h : ∀ i, i < rows.length → (nthL rows i).length = m) : ∀ i, i ≤ rows.length → (mxU p f rows m i).length = m
  | 0, _ => by simp [mxU]
  | i + 1, hi => by
    have h1 := mxU_length p f rows m h i (by omega)
    rw [mxU, addc_length _ _ _ _ (by rw [h1, h i (by omega)]), h1]
end Go.Att
namespace Go.Proofs.YtcpnidomdkaefaaGreatDoor
open Go.RowKit Go.Att
section
variable {w : World} {bf : Nat} {p g : Int} {fs : List Int}
set_option maxRecDepth 100000 in
set_option maxHeartbeats 8000000 in
theorem weighed_any (hf : Fld w (.pointer (some ⟨bf, 0, none⟩)) p g fs) (vr : Value) (rows : List (List Int)) (R : Nat → Value) (hr : RwsAt w vr rows R) (m : Nat) (h0 : 0 < rows.length) (hm : ∀ i, i < rows.length → (nthL rows i).length = m) (hm2 : m ≤ 4294967290) (fid : FuncId) (c1 c2 : Value) (f : Nat → Int) (hfid : ∀ (xs : Array Value) (W : World), (callFunc fid xs).run Tryz.prog W = .ok (.enter fid xs) W)
    (hc : ∀ (W : World) (i : Nat), Ext w W → i < rows.length → Calls Tryz.prog fid #[.int .i64 i, c1, c2] W (Rd W (.int .i64 (f i)))) :
    Calls Tryz.prog 58 #[.pointer (some ⟨bf, 0, none⟩), vr, .func (.func fid) #[] #[c1, c2]] w (Gives w fun u w' => w'.ownsRow w.heap.size 3 1 u m ((mxU p f rows m rows.length).map (Value.int .i64))) := by
  have hlr := hr.run_len (P := Tryz.prog) slRows
  have hrl := hr.len
  have hi0 := hr.run_index (P := Tryz.prog) slRows 0 h0
  have hc0 := hr.cell 0 h0
  have hl0 := (hr.row 0 h0).run_len (P := Tryz.prog) slInts
  rw [hm 0 h0] at hl0
  rw [show ((0 : Nat) : Int) = 0 from rfl] at hi0
  have HF := Lib.hid hf; have HR := Lib.hid hr; have HM := Lib.hid hm; have HC := Lib.hid hc
  have HML := Lib.hid (fun i (hi : i ≤ rows.length) => mxU_length p f rows m hm i hi)
  clear hf hr hm hc
  go_enter Tryz.func58, Tryz.ntmps58
  go_wp2_with (refine wpList_mkn rfl _ _ 22 rfl slInts (Ext.refl _) rfl rfl (by omega) (by omega) (by omega) ?_; intro v7 w7 HN1 HX1 HG1)
  have HO0 := Lib.hid (show w7.ownsRow w.heap.size 3 1 v7 m ((mxU p f rows m 0).map (Value.int .i64)) from by
    rw [Int.toNat_natCast, zeros_made, List.append_nil] at HN1
    exact HN1)
  have HX7 := Lib.hid HX1
  have HVB := Lib.hid (show ∀ q, v7.ownBlock = some q → w.heap.size ≤ q from fun q hq => (HN1.lt q hq).1)
  clear HN1 HX1 HG1 hi0 hc0 hl0
  go_loopw [8, 9, 10, 11, 12, 20] (fun _ _ _ _ _ x20 wr => ∃ i : Nat, i ≤ rows.length ∧ x20 = .int .i64 i ∧ Hid (wr.ownsRow w.heap.size 3 1 v7 m ((mxU p f rows m i).map (Value.int .i64))) ∧ Hid (w7.grownBy wr v7.ownBlock)) (fun _ _ _ _ _ x20 _ => rows.length - (intOf x20).toNat)
  case atStart => exact ⟨0, Nat.zero_le _, rfl, HO0, Lib.hid (World.grownBy.refl _ _)⟩
  case round =>
    obtain ⟨i, hi, rfl, HOW, HXQ⟩ := hrel
    have HXR := Lib.hid (Ext.own_grown HX7.out HO0.out HXQ.out)
    by_cases hin : i < rows.length
    · have hix := HR.out.run_index (P := Tryz.prog) slRows i hin
      have hcx := HXR.out.cell (HR.out.cell i hin)
      have HROW := Lib.hid (HR.out.row i hin)
      have HRL := Lib.hid (HM.out i hin)
      have hln := (HR.out.row i hin).run_len (P := Tryz.prog) slInts
      rw [HRL.out] at hln
      have HUL := Lib.hid (HML.out i hi)
      have HUN := Lib.hid (show mxU p f rows m (i + 1) = addc p (f i) (mxU p f rows m i) (nthL rows i) from rfl)
      have HCI := Lib.hid (HC.out wr i HXR.out hin)
      generalize mxU p f rows m i = sm at *
      generalize nthL rows i = pt at *
      generalize R i = ri at *
      generalize f i = c at *
      go_wp2_with fail
      refine HCI.out.mono ?_
      rintro e w8 ⟨rfl, n8, rfl⟩
      have HX8 := Lib.hid (HXR.out.trans (Ext.drewN wr n8))
      have HO8 := Lib.hid (own_ext HOW.out (Ext.drewN wr n8))
      have HXQ8 := Lib.hid (HXQ.out.trans ((Ext.drewN wr n8).grownBy _))
      have HNE := Lib.hid (show m = 0 ∨ ∀ q, ri.ownBlock = some q → some q ≠ v7.ownBlock from by
        by_cases hm0 : m = 0
        · exact .inl hm0
        · refine .inr fun q hq e => ?_
          have h5 := ints_lt9 HROW.out (by rw [HRL.out]; omega) q hq
          have h6 := HVB.out q e.symm
          omega)
      clear hix hcx HOW HXQ HXR HCI
      generalize wr.drewN n8 = w9 at *
      have HA0 := Lib.hid (show w9.ownsRow w.heap.size 3 1 v7 m ((adRow p c sm pt 0).map (Value.int .i64)) from by rw [adRow_zero]; exact HO8.out)
      go_wp2_with fail
      go_loopw [11, 12, 30] (fun _ _ x30 wq => ∃ t : Nat, t ≤ m ∧ x30 = .int .i64 t ∧ Hid (wq.ownsRow w.heap.size 3 1 v7 m ((adRow p c sm pt t).map (Value.int .i64))) ∧ Hid (w9.grownBy wq v7.ownBlock)) (fun _ _ x30 _ => m - (intOf x30).toNat)
      case atStart => exact ⟨0, Nat.zero_le _, rfl, HA0, Lib.hid (World.grownBy.refl _ _)⟩
      case round =>
        obtain ⟨t, ht, rfl, HOT, HXT⟩ := hrel
        have HXTW := Lib.hid (show Ext w wr from Below.grown HX8.out.below HXT.out HX8.out.size (fun q e => HVB.out q e))
        by_cases htn : t < m
        · have HPW := Lib.hid (HROW.out.ext HXTW.out)
          have hip := HPW.out.run_index (P := Tryz.prog) slInts t (by rw [HRL.out]; exact htn)
          have hcp := HPW.out.cell t (by rw [HRL.out]; exact htn)
          have hlr2 : (adRow p c sm pt t).length = m := by rw [adRow_length]; exact HUL.out
          have HIT := Lib.hid (Ints.of_own HOT.out)
          have his := HIT.out.run_index (P := Tryz.prog) slInts t (by rw [hlr2]; exact htn)
          have hcs := HIT.out.cell t (by rw [hlr2]; exact htn)
          rw [adRow_nth _ _ _ _ _ (by rw [HUL.out]; exact htn)] at hcs
          have HST := Lib.hid (adRow_step p c sm pt t (by rw [HUL.out]; exact htn))
          have HLR := Lib.hid hlr2
          have HFW := Lib.hid (HF.out.ext HXTW.out)
          clear hlr2
          generalize nth pt t = y at *
          generalize nth sm t = sy at *
          go_upto_region 9 with (fail)
          refine wp_region_quiet_tail 13 (by kernel_rfl) (by kernel_rfl) ?_
          simp only [List.take_succ_cons, List.take_zero, List.drop_succ_cons, List.drop_zero]
          repeat (go_big_quiet_step (first | (go_at_call 94; exact mul_q HFW.out _ _ _) | (go_at_call 65; exact add_q HFW.out _ _ _)))
          refine wpQuiet_nil ?_
          rintro _ ⟨nq, rfl⟩
          have HO4 := Lib.hid (own_ext HOT.out (Ext.drewN wr nq))
          have HXT4 := Lib.hid (HXT.out.trans ((Ext.drewN wr nq).grownBy _))
          go_wp2_with (refine wpList_set rfl rfl _ _ 3 rfl slInts HO4.out t htn rfl (.int .i64 (fadd p sy (fmul p c y))) rfl rfl (by intro u hu; simp [Value.cells] at hu; subst hu; rfl) ?_; intro w5 HO5 HG5)
          rw [ints_setC _ _ (by rw [HLR.out]; exact htn), HST.out] at HO5
          have HO5H := Lib.hid HO5
          clear HO5
          go_roundw
          case rel => exact ⟨t + 1, by omega, by go_num, HO5H, Lib.hid (HXT4.out.trans HG5)⟩
          case measure => simp [intOf]; omega
        · obtain rfl : m = t := by omega
          have HSF := Lib.hid (show wr.ownsRow w.heap.size 3 1 v7 m ((mxU p f rows m (i + 1)).map (Value.int .i64)) from by
            have h5 := HOT.out
            have h6 := adRow_last p c sm pt (by rw [HUL.out, HRL.out])
            rw [HUL.out] at h6
            rw [HUN.out, ← h6]; exact h5)
          clear HOT
          go_wp2_with fail
          go_roundw
          case rel => exact ⟨i + 1, by omega, by go_num, HSF, Lib.hid (HXQ8.out.trans HXT.out)⟩
          case measure => simp [intOf]; omega
    · obtain rfl : i = rows.length := by omega
      go_wp2_with fail
      go_ret
      exact .mk _ rfl HXR.out HOW.out
end
end Go.Proofs.YtcpnidomdkaefaaGreatDoor
