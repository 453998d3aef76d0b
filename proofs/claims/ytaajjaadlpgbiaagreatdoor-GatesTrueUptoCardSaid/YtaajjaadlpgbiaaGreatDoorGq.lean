/- poly.Vanish: contract. -/
import Derived.Test.YtaajjaadlpgbiaaGreatDoorZx16
import Derived.Test.YtaajjaadlpgbiaaGreatDoorGb
namespace Go.Proofs.YtaajjaadlpgbiaaGreatDoor
open Go.RowKit Go.Att
section
variable {w : World} {f vx : Value} {p g : Int} {fs : List Int} {xs : List Int}
theorem ints_setC (l : List Int) (i : Nat) (h : i < l.length) (v : Int) : (l.map (Value.int .i64)).take (i * 1) ++ (Value.int .i64 v).cells.toList ++ (l.map (Value.int .i64)).drop (i * 1 + 1) = (l.set i v).map (Value.int .i64) := by
  rw [Nat.mul_one, List.set_eq_take_append_cons_drop, if_pos h]
  simp [Value.cells, List.map_take, List.map_drop]
set_option maxRecDepth 100000 in
set_option maxHeartbeats 4000000 in
theorem vanish_any (hf : Fld w f p g fs) (hx : Ints w vx xs) (hs : xs.length ≤ 60) :
    Calls Tryz.prog 152 #[f, vx] w (Gives w fun u w' => Ints w' u (vanQ p xs xs.length)) := by
  have hlx := hx.run_len (P := Tryz.prog) slInts
  have HF := Lib.hid hf; have HX := Lib.hid hx
  clear hf hx
  have HS0 := Lib.hid (show Ints (w.alloc (Obj.cells #[.int .i64 1] 3)) (.slice (some ⟨w.heap.size, 0, none⟩) 1 1) (vanQ p xs 0) from sl_lit w [.int .i64 1] 3 (by simp))
  have HX0 := Lib.hid (Ext.alloc w (Obj.cells #[.int .i64 1] 3))
  go_enter Tryz.func152, Tryz.ntmps152
  go_wp2_with fail
  go_loopw [5, 7, 8, 9, 10, 14, 24] (fun x5 _ _ _ _ x14 _ wr => ∃ m : Nat, m ≤ xs.length ∧ x14 = .int .i64 m ∧ Hid (Ints wr x5 (vanQ p xs m)) ∧ Hid (Ext w wr)) (fun _ _ _ _ _ x14 _ _ => xs.length - (intOf x14).toNat)
  case atStart => exact ⟨0, Nat.zero_le _, rfl, HS0, HX0⟩
  case round =>
    clear HS0 HX0
    obtain ⟨m, hm, rfl, HO, HXW⟩ := hrel
    by_cases hml : m < xs.length
    · have hix := HX.out.run_index (P := Tryz.prog) slInts m hml
      have hcx := (HX.out.ext HXW.out).cell m hml
      have hlo := HO.out.run_len (P := Tryz.prog) slInts
      have HVL := Lib.hid (vanQ_length p xs m)
      have HVS := Lib.hid (show vanQ p xs (m + 1) = vstep p (nth xs m) 0 (vanQ p xs m) from rfl)
      rw [HVL.out] at hlo
      generalize vanQ p xs m = out at *
      generalize nth xs m = x at *
      go_wp2_with (refine wpList_mkn rfl _ _ 23 rfl slInts (Ext.refl _) rfl rfl (by omega) (by omega) (by omega) ?_; intro v1 w1 HN1 HX1 HG1)
      have HVB := Lib.hid (show ∀ q, v1.ownBlock = some q → wr.heap.size ≤ q from fun q hq => (HN1.lt q hq).1)
      have HR0 := Lib.hid (show w1.ownsRow w.heap.size 3 1 v1 (m + 2) ((vRow p x out 0).map (Value.int .i64)) from by
        rw [show ((m : Int) + 1 + 1).toNat = m + 2 by omega, zeros_made, List.append_nil] at HN1
        rw [vRow_zero, HVL.out]; exact own_base HN1 HXW.out.size)
      have HX1H := Lib.hid (HXW.out.trans HX1)
      have HO1 := Lib.hid (HO.out.ext HX1)
      have HOB := Lib.hid (show ∀ q, u5.ownBlock = some q → some q ≠ v1.ownBlock from fun q hq e => by
        have h5 := ints_lt9 HO.out (by rw [HVL.out]; omega) q hq
        have h6 := HVB.out q e.symm
        omega)
      clear HN1 HX1 HG1 HVB HO
      generalize wr = WR at *
      go_loopw [9, 10, 24] (fun _ _ x24 wq => ∃ i : Nat, i ≤ m + 1 ∧ x24 = .int .i64 i ∧ Hid (wq.ownsRow w.heap.size 3 1 v1 (m + 2) ((vRow p x out i).map (Value.int .i64))) ∧ Hid (w1.grownBy wq v1.ownBlock)) (fun _ _ x24 _ => m + 1 - (intOf x24).toNat)
      case atStart => exact ⟨0, Nat.zero_le _, rfl, HR0, Lib.hid (World.grownBy.refl _ _)⟩
      case round =>
        obtain ⟨i, hi, rfl, HOW, HXQ⟩ := hrel
        have HXA := Lib.hid (Ext.own_grown HX1H.out HR0.out HXQ.out)
        by_cases him : i < m + 1
        · have HIW := Lib.hid (Ints.of_own HOW.out)
          have hlr : (vRow p x out i).length = m + 2 := by rw [vRow_length, HVL.out]
          have hin1 := HIW.out.run_index (P := Tryz.prog) slInts (i + 1) (by rw [hlr]; omega)
          have hcn1 := HIW.out.cell (i + 1) (by rw [hlr]; omega)
          rw [vRow_nth _ _ _ _ _ (by rw [HVL.out]; omega)] at hcn1
          have hz : vW p x out i (i + 1) = 0 := by unfold vW; rw [if_neg (by omega), if_neg (by omega)]
          rw [hz] at hcn1
          rw [show ((i + 1 : Nat) : Int) = (i : Int) + 1 by omega] at hin1
          have HOQ := Lib.hid (HO1.out.grown HXQ.out HOB.out)
          have hix2 := HOQ.out.run_index (P := Tryz.prog) slInts i (by rw [HVL.out]; exact him)
          have hcy := HOQ.out.cell i (by rw [HVL.out]; exact him)
          have hst := vRow_step p x out i (by rw [HVL.out]; exact him)
          have HST := Lib.hid hst
          have HFW := Lib.hid (HF.out.ext HXA.out)
          have hAi : nth (vRow p x out i) i = vA p out i := by rw [vRow_nth _ _ _ _ _ (by rw [HVL.out]; omega)]; unfold vW; rw [if_neg (by omega), if_pos rfl]
          have HAI := Lib.hid hAi
          clear hst hAi hz
          generalize hy : nth out i = y at *
          have HYY := Lib.hid hy
          clear hy
          go_upto_region 10 with (first
            | (go_at_call 70; refine (add_any HFW.out _ _).mono ?_; rintro e w2 ⟨rfl, n2, rfl⟩; have HOD := Lib.hid (own_ext HOW.out (Ext.drewN wr n2)))
            | (refine wpList_set rfl rfl _ _ 3 rfl slInts HOD.out (i + 1) (by omega) rfl (.int .i64 (fadd p 0 y)) rfl rfl (by intro u hu; simp [Value.cells] at hu; subst hu; rfl) ?_; intro w3 HO3 HG3))
          have hlr3 : i + 1 < (vRow p x out i).length := by omega
          rw [ints_setC _ _ hlr3] at HO3
          have HX3 := Lib.hid (Ext.own_grown (HXA.out.trans (Ext.drewN wr n2)) HOD.out HG3)
          have HXQ3 := Lib.hid (show w1.grownBy w3 v1.ownBlock from (HXQ.out.trans ((Ext.drewN wr n2).grownBy _)).trans HG3)
          have HI3 := Lib.hid (Ints.of_own HO3)
          have hl3 : ((vRow p x out i).set (i + 1) (fadd p 0 y)).length = m + 2 := by rw [List.length_set, hlr]
          have hin := HI3.out.run_index (P := Tryz.prog) slInts i (by omega)
          have hcn := HI3.out.cell i (by omega)
          rw [show nth ((vRow p x out i).set (i + 1) (fadd p 0 y)) i = vA p out i from by rw [← HAI.out]; unfold nth; rw [List.getD_eq_getElem?_getD, List.getElem?_set_ne (by omega), ← List.getD_eq_getElem?_getD]] at hcn
          have HF3 := Lib.hid (HF.out.ext HX3.out)
          clear HOD HG3 hin1 hcn1 hcy
          have HO3H := Lib.hid HO3
          clear HO3
          refine wp_region_quiet_tail 13 (by kernel_rfl) (by kernel_rfl) ?_
          simp only [List.take_succ_cons, List.take_zero, List.drop_succ_cons, List.drop_zero]
          repeat (go_big_quiet_step (first | (go_at_call 71; exact mul_q HF3.out _ _ _) | (go_at_call 116; exact sub_q HF3.out _ _ _)))
          refine wpQuiet_nil ?_
          rintro _ ⟨nq, rfl⟩
          have HO4 := Lib.hid (own_ext HO3H.out (Ext.drewN w3 nq))
          have HXQ4 := Lib.hid (HXQ3.out.trans ((Ext.drewN w3 nq).grownBy _))
          go_wp2_with (refine wpList_set rfl rfl _ _ 3 rfl slInts HO4.out i (by omega) rfl (.int .i64 (fsub p (vA p out i) (fmul p x y))) rfl rfl (by intro u hu; simp [Value.cells] at hu; subst hu; rfl) ?_; intro w5 HO5 HG5)
          rw [ints_setC _ _ (by omega), HST.out] at HO5
          go_roundw
          case rel => exact ⟨i + 1, by omega, by go_num, Lib.hid HO5, Lib.hid (HXQ4.out.trans HG5)⟩
          case measure => simp [intOf]; omega
        · obtain rfl : i = m + 1 := by omega
          have HRL := Lib.hid (show Ints wr v1 (vstep p x 0 out) from by
            have := Ints.of_own HOW.out
            rw [show m + 1 = out.length from HVL.out.symm, vRow_last] at this
            exact this)
          go_wp2_with fail
          go_roundw
          case rel => exact ⟨m + 1, by omega, by go_num, Lib.hid (by rw [HVS.out]; exact HRL.out), HXA⟩
          case measure => simp [intOf]; omega
    · obtain rfl : m = xs.length := by omega
      go_wp2_with fail
      go_ret
      exact .mk _ rfl HXW.out HO.out
end
end Go.Proofs.YtaajjaadlpgbiaaGreatDoor
