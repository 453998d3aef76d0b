/- The document's digest: powers, constants, stirring, what stands behind a list: contracts. The sponge, the program's side: a state is stirred: contract. The document's digest: a state is stirred; what stands behind a list; the digest: contracts. -/
import Derived.Test.YtcpnidomdkaefaaGreatDoorZx8
import Derived.Test.YtcpnidomdkaefaaGreatDoorWw
section
namespace Go.Att
open Go.RowKit
/-- The powers so far. -/
def powU (p : Int) (k r : Nat) (x : List Int) (i : Nat) : List Int := (List.range 8).map fun j => if j < i then fpow p (fadd p (nth x j) (cstP p r j)) k else nth x j
theorem powU_length (p : Int) (k r : Nat) (x : List Int) (i : Nat) : (powU p k r x i).length = 8 := by simp [powU]
theorem powU_nth (p : Int) (k r : Nat) (x : List Int) (i : Nat) {j : Nat} (h : j < 8) : nth (powU p k r x i) j = if j < i then fpow p (fadd p (nth x j) (cstP p r j)) k else nth x j := by
  rw [nth_eq (by rw [powU_length]; exact h)]; simp [powU]
theorem powU_zero (p : Int) (k r : Nat) (x : List Int) (hl : x.length = 8) : powU p k r x 0 = x := by
  apply List.ext_getElem (by rw [powU_length, hl])
  intro i h1 h2
  simp [powU, nth_eq h2]
theorem powU_all (p : Int) (k r : Nat) (x : List Int) : powU p k r x 8 = powP p k r x := by
  unfold powU powP
  exact List.map_congr_left fun i hi => by rw [if_pos (List.mem_range.1 hi)]
theorem powU_set (p : Int) (k r : Nat) (x : List Int) (i : Nat) (_hi : i < 8) (v : Int) (hv : v = fpow p (fadd p (nth x i) (cstP p r i)) k) : (powU p k r x i).set i v = powU p k r x (i + 1) := by
  subst hv
  apply List.ext_getElem (by simp [powU])
  intro j h1 h2
  rw [List.getElem_set]
  simp only [powU, List.getElem_map, List.getElem_range]
  by_cases e : i = j
  · subst e; rw [if_pos rfl, if_pos (by omega)]
  · rw [if_neg e]
    by_cases h : j < i
    · rw [if_pos h, if_pos (by omega)]
    · rw [if_neg h, if_neg (by omega)]
end Go.Att
namespace Go.Proofs.YtcpnidomdkaefaaGreatDoor
open Go.RowKit Go.Att
end Go.Proofs.YtcpnidomdkaefaaGreatDoor
end
section
namespace Go.Proofs.YtcpnidomdkaefaaGreatDoor
open Go.RowKit Go.Att
theorem row8_kept {W : World} {b q : Nat} {cs : List Value} {t : TypeId} (h : BlkOf W b cs t) (hne : some b ≠ some q) (a0 a1 a2 a3 a4 a5 a6 a7 : Int) :
    BlkOf ((((((((W.setCell ⟨q, 0, none⟩ (.int .i64 a0)).setCell ⟨q, 1, none⟩ (.int .i64 a1)).setCell ⟨q, 2, none⟩ (.int .i64 a2)).setCell ⟨q, 3, none⟩ (.int .i64 a3)).setCell ⟨q, 4, none⟩ (.int .i64 a4)).setCell ⟨q, 5, none⟩ (.int .i64 a5)).setCell ⟨q, 6, none⟩ (.int .i64 a6)).setCell ⟨q, 7, none⟩ (.int .i64 a7)) b cs t :=
  (((((((h.grown (setCell_grown _ _ _ _) hne).grown (setCell_grown _ _ _ _) hne).grown (setCell_grown _ _ _ _) hne).grown (setCell_grown _ _ _ _) hne).grown (setCell_grown _ _ _ _) hne).grown (setCell_grown _ _ _ _) hne).grown (setCell_grown _ _ _ _) hne).grown (setCell_grown _ _ _ _) hne
section
variable {w : World} {b bf k : Nat} {p g rt : Int} {fs : List Int}
set_option maxRecDepth 100000 in
set_option maxHeartbeats 8000000 in
theorem permuted_any (hs : SpB w b (.pointer (some ⟨bf, 0, none⟩)) k rt (fun r j => finv p ((r : Int) + j + 8))) (hf : Fld w (.pointer (some ⟨bf, 0, none⟩)) p g fs) (hk : (k : Int) ≤ 9223372036854775807) (x : List Int) (hl : x.length = 8) :
    Calls Tryz.prog 66 #[.pointer (some ⟨b, 0, none⟩), st8 x] w (Gives w fun u _ => u = st8 (permP p k x 8)) := by
  have HF := Lib.hid hf; have HS := Lib.hid hs
  have HL0 := Lib.hid hl
  clear hf hs hl
  unfold st8
  go_enter Tryz.func66, Tryz.ntmps66
  go_wp2_with fail
  obtain ⟨W0, hW0⟩ : ∃ W0, W0 = ((w.alloc (Obj.cells #[.int .i64 (nth x 0), .int .i64 (nth x 1), .int .i64 (nth x 2), .int .i64 (nth x 3), .int .i64 (nth x 4), .int .i64 (nth x 5), .int .i64 (nth x 6), .int .i64 (nth x 7)] 104)).alloc (Obj.cells #[.int .i64 0, .int .i64 0, .int .i64 0, .int .i64 0, .int .i64 0, .int .i64 0, .int .i64 0, .int .i64 0] 104)) := ⟨_, rfl⟩
  rw [← hW0]
  have HX0 := Lib.hid (show Ext w W0 from by rw [hW0]; exact (Ext.alloc w _).trans (Ext.alloc _ _))
  have HBX := Lib.hid (show BlkOf W0 w.heap.size (c8 (permP p k x 0)) 104 from by rw [hW0]; exact (BlkOf.new w (c8 x) 104).ext (Ext.alloc _ _))
  have HBR := Lib.hid (show BlkOf W0 (w.heap.size + 1) (c8 (List.replicate 8 0)) 104 from by rw [hW0]; have h := (BlkOf.new (w.alloc (Obj.cells (c8 x).toArray 104)) (c8 (List.replicate 8 0)) 104); rw [show (w.alloc (Obj.cells (c8 x).toArray 104)).heap.size = w.heap.size + 1 from by simp] at h; exact h)
  clear hW0
  go_loopw [5, 6, 7, 10] (fun _ _ x7 _ wr => ∃ r : Nat, r ≤ 8 ∧ x7 = .int .i64 r ∧ Hid (BlkOf wr w.heap.size (c8 (permP p k x r)) 104) ∧ Hid (BlkOf wr (w.heap.size + 1) (c8 (List.replicate 8 0)) 104) ∧ Hid (Ext w wr)) (fun _ _ x7 _ _ => 8 - (intOf x7).toNat)
  case atStart => exact ⟨0, by omega, rfl, HBX, HBR, HX0⟩
  case round =>
    clear HBX HBR HX0
    obtain ⟨r, hr, rfl, HBX, HBR, HX⟩ := hrel
    by_cases hr8 : r < 8
    · have hr88 : (r : Int) < 8 := by omega
      have HLX := Lib.hid (permP_length p k HL0.out r)
      have HSX := Lib.hid (show permP p k x (r + 1) = mixT p (powP p k r (permP p k x r)) from rfl)
      generalize permP p k x r = X at *
      have HBX0 := Lib.hid (show BlkOf wr w.heap.size (c8 (powU p k r X 0)) 104 from by rw [powU_zero p k r X HLX.out]; exact HBX.out)
      clear HBX
      go_wp2_with fail
      go_loopw [6, 10] (fun _ x10 wq => ∃ i : Nat, i ≤ 8 ∧ x10 = .int .i64 i ∧ Hid (BlkOf wq w.heap.size (c8 (powU p k r X i)) 104) ∧ Hid (BlkOf wq (w.heap.size + 1) (c8 (List.replicate 8 0)) 104) ∧ Hid (Ext w wq)) (fun _ x10 _ => 8 - (intOf x10).toNat)
      case atStart => exact ⟨0, by omega, rfl, HBX0, HBR, HX⟩
      case round =>
        clear HBX0 HBR HX
        obtain ⟨i, hi, rfl, HBX, HBR, HX⟩ := hrel
        by_cases hi8 : i < 8
        · have hi88 : (i : Int) < 8 := by omega
          have hp1 := fun w' => ptr8 w.heap.size 0 i hi8 w'
          simp only [Nat.zero_add] at hp1
          have d1 : wr.cell? ⟨w.heap.size, i, none⟩ = some (.int .i64 (nth (powU p k r X i) i)) := (HBX.out.cell i).trans (c8_at _ i hi8)
          rw [powU_nth p k r X i hi8, if_neg (by omega)] at d1
          have d3 := HBX.out.free i
          have HSW := Lib.hid (HS.out.ext HX.out)
          have d0 := HSW.out.c0
          have dk := HSW.out.c1
          have HFW := Lib.hid (HF.out.ext HX.out)
          have HST := Lib.hid (powU_set p k r X i hi8 _ rfl)
          have HC8 := Lib.hid (fun v => c8_set (powU p k r X i) i v (powU_length p k r X i) hi8)
          generalize nth X i = xi at *
          have CC := fun m => constant_any (HSW.out.ext (Ext.drewN wr m)) (HFW.out.drewN m) r i hr8 hi8
          generalize cstP p r i = ci at *
          go_wp2_with fail
          refine wp_region_quiet_tail 23 (by kernel_rfl) (by kernel_rfl) ?_
          simp only [List.take_succ_cons, List.take_zero, List.drop_succ_cons, List.drop_zero]
          repeat (go_big_quiet_step (first | (go_at_call 42; exact pow_q HFW.out _ _ (by omega) (by omega) _) | (go_at_call 65; exact add_q HFW.out _ _ _) | (go_at_call 119; exact Calls.quiet_of (CC _))))
          refine wpQuiet_nil ?_
          rintro _ ⟨nq, rfl⟩
          have HX5 := Lib.hid (HX.out.trans (Ext.drewN wr nq))
          have HBX5 := Lib.hid (HBX.out.ext (Ext.drewN wr nq))
          have HBR5 := Lib.hid (HBR.out.ext (Ext.drewN wr nq))
          clear hp1 d0 dk HX HBX HBR CC
          go_wp2_with fail
          go_roundw
          case rel => exact ⟨i + 1, by omega, by go_num, Lib.hid (by have h := HBX5.out.set i (.int .i64 (fpow p (fadd p xi ci) k)); rw [HC8.out, HST.out] at h; exact h), Lib.hid (HBR5.out.grown (setCell_grown _ _ _ _) (by simp)), Lib.hid (Below.setCell HX5.out (Nat.le_refl _) _)⟩
          case measure => simp [intOf]; omega
        · obtain rfl : i = 8 := by omega
          obtain ⟨m0, m1, m2, m3, m4, m5, m6, m7⟩ := blk8 HBX.out
          have HSW := Lib.hid (HS.out.ext HX.out)
          have HFW := Lib.hid (HF.out.ext HX.out)
          go_wp2_with fail
          refine wp_region_quiet_tail 5 (by kernel_rfl) (by kernel_rfl) ?_
          simp only [List.take_succ_cons, List.take_zero, List.drop_succ_cons, List.drop_zero]
          repeat (go_big_quiet_step (fail))
          refine wpQuiet_nil ?_
          rintro _ ⟨nq, rfl⟩
          have HX5 := Lib.hid (HX.out.trans (Ext.drewN wr nq))
          have HBX5 := Lib.hid (HBX.out.ext (Ext.drewN wr nq))
          have HBR5 := Lib.hid (HBR.out.ext (Ext.drewN wr nq))
          have HS5 := Lib.hid (HSW.out.ext (Ext.drewN wr nq))
          have HF5 := Lib.hid (HFW.out.drewN nq)
          clear m0 m1 m2 m3 m4 m5 m6 m7 HX HBX HBR HSW HFW
          generalize World.drewN wr nq = W5 at *
          go_wp2_with (go_at_call 120; refine (times_any HS5.out.c0 HF5.out HS5.out.mx (powU p k r X 8)).mono ?_; rw [mixU_all, powU_all]; rintro e w8 ⟨v8, rfl, hx8, rfl⟩; unfold st8; have HX8 := Lib.hid (HX5.out.trans hx8); have HBX8 := Lib.hid (HBX5.out.ext hx8); have HBR8 := Lib.hid (HBR5.out.ext hx8); obtain ⟨n0, n1, n2, n3, n4, n5, n6, n7⟩ := blk8 HBX8.out; have s0 := HBX8.out.free 0; have s1 := HBX8.out.free 1; have s2 := HBX8.out.free 2; have s3 := HBX8.out.free 3; have s4 := HBX8.out.free 4; have s5 := HBX8.out.free 5; have s6 := HBX8.out.free 6; have s7 := HBX8.out.free 7; clear hx8)
          generalize hY : mixT p (powP p k r X) = Y at *
          obtain ⟨hb, hx⟩ := at_row8 HBX8.out (nth Y 0) (nth Y 1) (nth Y 2) (nth Y 3) (nth Y 4) (nth Y 5) (nth Y 6) (nth Y 7) (Nat.le_refl _) HX8.out
          have hn := row8_kept HBR8.out (q := w.heap.size) (by simp) (nth Y 0) (nth Y 1) (nth Y 2) (nth Y 3) (nth Y 4) (nth Y 5) (nth Y 6) (nth Y 7)
          go_roundw
          case rel => exact ⟨r + 1, by omega, by go_num, Lib.hid (by rw [HSX.out]; exact hb), Lib.hid hn, Lib.hid hx⟩
          case measure => simp [intOf]; omega
    · obtain rfl : r = 8 := by omega
      obtain ⟨m0, m1, m2, m3, m4, m5, m6, m7⟩ := blk8 HBX.out
      obtain ⟨r0, r1, r2, r3, r4, r5, r6, r7⟩ := blk8 HBR.out
      have s0 := HBR.out.free 0
      have s1 := HBR.out.free 1
      have s2 := HBR.out.free 2
      have s3 := HBR.out.free 3
      have s4 := HBR.out.free 4
      have s5 := HBR.out.free 5
      have s6 := HBR.out.free 6
      have s7 := HBR.out.free 7
      go_wp2_with fail
      obtain ⟨hb, hx⟩ := at_row8 HBR.out (nth (permP p k x 8) 0) (nth (permP p k x 8) 1) (nth (permP p k x 8) 2) (nth (permP p k x 8) 3) (nth (permP p k x 8) 4) (nth (permP p k x 8) 5) (nth (permP p k x 8) 6) (nth (permP p k x 8) 7) (by omega) HX.out
      refine bodyPost_ret (results_cell_row rfl _ _ (w.heap.size + 1) 104 _ _ _ rfl hb Tryz.underlying104 rfl (by kernel_rfl)) rfl ?_
      exact .mk _ rfl hx rfl
end
end Go.Proofs.YtcpnidomdkaefaaGreatDoor
end
section
namespace Go.Att
open Go.RowKit
end Go.Att
namespace Go.Proofs.YtcpnidomdkaefaaGreatDoor
open Go.RowKit Go.Att
end Go.Proofs.YtcpnidomdkaefaaGreatDoor
end
