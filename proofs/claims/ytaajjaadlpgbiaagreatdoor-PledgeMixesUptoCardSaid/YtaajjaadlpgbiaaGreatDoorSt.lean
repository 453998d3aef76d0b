/- The sponge, the program's side: a matrix times a state: contract. -/
import Derived.Test.YtaajjaadlpgbiaaGreatDoorZx9
namespace Go.Proofs.YtaajjaadlpgbiaaGreatDoor
open Go.RowKit Go.Att
theorem ptr64_0 (sb off : Nat) (w : World) : (Instr.indexAt 72 (.pointer (some ⟨sb, off, none⟩)) (.int .i64 0)).run Tryz.prog w = .ok (.pointer (some ⟨sb, off + 0, none⟩)) w := by kernel_rfl
theorem ptr64_1 (sb off : Nat) (w : World) : (Instr.indexAt 72 (.pointer (some ⟨sb, off, none⟩)) (.int .i64 1)).run Tryz.prog w = .ok (.pointer (some ⟨sb, off + 8, none⟩)) w := by kernel_rfl
theorem ptr64_2 (sb off : Nat) (w : World) : (Instr.indexAt 72 (.pointer (some ⟨sb, off, none⟩)) (.int .i64 2)).run Tryz.prog w = .ok (.pointer (some ⟨sb, off + 16, none⟩)) w := by kernel_rfl
theorem ptr64_3 (sb off : Nat) (w : World) : (Instr.indexAt 72 (.pointer (some ⟨sb, off, none⟩)) (.int .i64 3)).run Tryz.prog w = .ok (.pointer (some ⟨sb, off + 24, none⟩)) w := by kernel_rfl
theorem ptr64_4 (sb off : Nat) (w : World) : (Instr.indexAt 72 (.pointer (some ⟨sb, off, none⟩)) (.int .i64 4)).run Tryz.prog w = .ok (.pointer (some ⟨sb, off + 32, none⟩)) w := by kernel_rfl
theorem ptr64_5 (sb off : Nat) (w : World) : (Instr.indexAt 72 (.pointer (some ⟨sb, off, none⟩)) (.int .i64 5)).run Tryz.prog w = .ok (.pointer (some ⟨sb, off + 40, none⟩)) w := by kernel_rfl
theorem ptr64_6 (sb off : Nat) (w : World) : (Instr.indexAt 72 (.pointer (some ⟨sb, off, none⟩)) (.int .i64 6)).run Tryz.prog w = .ok (.pointer (some ⟨sb, off + 48, none⟩)) w := by kernel_rfl
theorem ptr64_7 (sb off : Nat) (w : World) : (Instr.indexAt 72 (.pointer (some ⟨sb, off, none⟩)) (.int .i64 7)).run Tryz.prog w = .ok (.pointer (some ⟨sb, off + 56, none⟩)) w := by kernel_rfl
theorem ptr64 (sb off i : Nat) (hi : i < 8) (w : World) : (Instr.indexAt 72 (.pointer (some ⟨sb, off, none⟩)) (.int .i64 (i : Int))).run Tryz.prog w = .ok (.pointer (some ⟨sb, off + i * 8, none⟩)) w := by
  have h8 : i = 0 ∨ i = 1 ∨ i = 2 ∨ i = 3 ∨ i = 4 ∨ i = 5 ∨ i = 6 ∨ i = 7 := by omega
  rcases h8 with rfl | rfl | rfl | rfl | rfl | rfl | rfl | rfl
  · exact ptr64_0 _ _ w
  · exact ptr64_1 _ _ w
  · exact ptr64_2 _ _ w
  · exact ptr64_3 _ _ w
  · exact ptr64_4 _ _ w
  · exact ptr64_5 _ _ w
  · exact ptr64_6 _ _ w
  · exact ptr64_7 _ _ w
theorem ix8_0 (f : Nat → Int) (w : World) : (Instr.index 71 (.agg #[.int .i64 (f 0), .int .i64 (f 1), .int .i64 (f 2), .int .i64 (f 3), .int .i64 (f 4), .int .i64 (f 5), .int .i64 (f 6), .int .i64 (f 7)]) (.int .i64 0)).run Tryz.prog w = .ok (.int .i64 (f 0)) w := by kernel_rfl
theorem ix8_1 (f : Nat → Int) (w : World) : (Instr.index 71 (.agg #[.int .i64 (f 0), .int .i64 (f 1), .int .i64 (f 2), .int .i64 (f 3), .int .i64 (f 4), .int .i64 (f 5), .int .i64 (f 6), .int .i64 (f 7)]) (.int .i64 1)).run Tryz.prog w = .ok (.int .i64 (f 1)) w := by kernel_rfl
theorem ix8_2 (f : Nat → Int) (w : World) : (Instr.index 71 (.agg #[.int .i64 (f 0), .int .i64 (f 1), .int .i64 (f 2), .int .i64 (f 3), .int .i64 (f 4), .int .i64 (f 5), .int .i64 (f 6), .int .i64 (f 7)]) (.int .i64 2)).run Tryz.prog w = .ok (.int .i64 (f 2)) w := by kernel_rfl
theorem ix8_3 (f : Nat → Int) (w : World) : (Instr.index 71 (.agg #[.int .i64 (f 0), .int .i64 (f 1), .int .i64 (f 2), .int .i64 (f 3), .int .i64 (f 4), .int .i64 (f 5), .int .i64 (f 6), .int .i64 (f 7)]) (.int .i64 3)).run Tryz.prog w = .ok (.int .i64 (f 3)) w := by kernel_rfl
theorem ix8_4 (f : Nat → Int) (w : World) : (Instr.index 71 (.agg #[.int .i64 (f 0), .int .i64 (f 1), .int .i64 (f 2), .int .i64 (f 3), .int .i64 (f 4), .int .i64 (f 5), .int .i64 (f 6), .int .i64 (f 7)]) (.int .i64 4)).run Tryz.prog w = .ok (.int .i64 (f 4)) w := by kernel_rfl
theorem ix8_5 (f : Nat → Int) (w : World) : (Instr.index 71 (.agg #[.int .i64 (f 0), .int .i64 (f 1), .int .i64 (f 2), .int .i64 (f 3), .int .i64 (f 4), .int .i64 (f 5), .int .i64 (f 6), .int .i64 (f 7)]) (.int .i64 5)).run Tryz.prog w = .ok (.int .i64 (f 5)) w := by kernel_rfl
theorem ix8_6 (f : Nat → Int) (w : World) : (Instr.index 71 (.agg #[.int .i64 (f 0), .int .i64 (f 1), .int .i64 (f 2), .int .i64 (f 3), .int .i64 (f 4), .int .i64 (f 5), .int .i64 (f 6), .int .i64 (f 7)]) (.int .i64 6)).run Tryz.prog w = .ok (.int .i64 (f 6)) w := by kernel_rfl
theorem ix8_7 (f : Nat → Int) (w : World) : (Instr.index 71 (.agg #[.int .i64 (f 0), .int .i64 (f 1), .int .i64 (f 2), .int .i64 (f 3), .int .i64 (f 4), .int .i64 (f 5), .int .i64 (f 6), .int .i64 (f 7)]) (.int .i64 7)).run Tryz.prog w = .ok (.int .i64 (f 7)) w := by kernel_rfl
theorem ix8 (f : Nat → Int) (j : Nat) (hj : j < 8) (w : World) : (Instr.index 71 (.agg #[.int .i64 (f 0), .int .i64 (f 1), .int .i64 (f 2), .int .i64 (f 3), .int .i64 (f 4), .int .i64 (f 5), .int .i64 (f 6), .int .i64 (f 7)]) (.int .i64 (j : Int))).run Tryz.prog w = .ok (.int .i64 (f j)) w := by
  have h8 : j = 0 ∨ j = 1 ∨ j = 2 ∨ j = 3 ∨ j = 4 ∨ j = 5 ∨ j = 6 ∨ j = 7 := by omega
  rcases h8 with rfl | rfl | rfl | rfl | rfl | rfl | rfl | rfl
  · exact ix8_0 f w
  · exact ix8_1 f w
  · exact ix8_2 f w
  · exact ix8_3 f w
  · exact ix8_4 f w
  · exact ix8_5 f w
  · exact ix8_6 f w
  · exact ix8_7 f w
theorem hm1 {w wr : World} {bm o : Nat} {M : Nat → Nat → Int} (hm : MxO w bm o M) (hx : Ext w wr) (i : Nat) (hi : i < 8) (j : Nat) (hj : j < 8) : wr.cell? ⟨bm, o + i * 8 + j, none⟩ = some (.int .i64 (M i j)) := hx.cell (hm i j hi hj).1
theorem blk8 {w : World} {b : Nat} {l : List Int} {t : TypeId} (h : BlkOf w b (c8 l) t) : w.cell? ⟨b, 0, none⟩ = some (.int .i64 (nth l 0)) ∧ w.cell? ⟨b, 1, none⟩ = some (.int .i64 (nth l 1)) ∧ w.cell? ⟨b, 2, none⟩ = some (.int .i64 (nth l 2)) ∧ w.cell? ⟨b, 3, none⟩ = some (.int .i64 (nth l 3)) ∧ w.cell? ⟨b, 4, none⟩ = some (.int .i64 (nth l 4)) ∧ w.cell? ⟨b, 5, none⟩ = some (.int .i64 (nth l 5)) ∧ w.cell? ⟨b, 6, none⟩ = some (.int .i64 (nth l 6)) ∧ w.cell? ⟨b, 7, none⟩ = some (.int .i64 (nth l 7)) :=
  ⟨h.cell 0, h.cell 1, h.cell 2, h.cell 3, h.cell 4, h.cell 5, h.cell 6, h.cell 7⟩
theorem at_row8 {w W : World} {b : Nat} {cs : List Value} {t : TypeId} (h : BlkOf W b cs t) (a0 a1 a2 a3 a4 a5 a6 a7 : Int) (hb : w.heap.size ≤ b) (hx : Ext w W) :
    BlkOf ((((((((W.setCell ⟨b, 0, none⟩ (.int .i64 a0)).setCell ⟨b, 1, none⟩ (.int .i64 a1)).setCell ⟨b, 2, none⟩ (.int .i64 a2)).setCell ⟨b, 3, none⟩ (.int .i64 a3)).setCell ⟨b, 4, none⟩ (.int .i64 a4)).setCell ⟨b, 5, none⟩ (.int .i64 a5)).setCell ⟨b, 6, none⟩ (.int .i64 a6)).setCell ⟨b, 7, none⟩ (.int .i64 a7)) b
      ((((((((cs.set 0 (.int .i64 a0)).set 1 (.int .i64 a1)).set 2 (.int .i64 a2)).set 3 (.int .i64 a3)).set 4 (.int .i64 a4)).set 5 (.int .i64 a5)).set 6 (.int .i64 a6)).set 7 (.int .i64 a7)) t ∧
    Ext w ((((((((W.setCell ⟨b, 0, none⟩ (.int .i64 a0)).setCell ⟨b, 1, none⟩ (.int .i64 a1)).setCell ⟨b, 2, none⟩ (.int .i64 a2)).setCell ⟨b, 3, none⟩ (.int .i64 a3)).setCell ⟨b, 4, none⟩ (.int .i64 a4)).setCell ⟨b, 5, none⟩ (.int .i64 a5)).setCell ⟨b, 6, none⟩ (.int .i64 a6)).setCell ⟨b, 7, none⟩ (.int .i64 a7)) :=
  ⟨(((((((h.set 0 _).set 1 _).set 2 _).set 3 _).set 4 _).set 5 _).set 6 _).set 7 _, Below.setCell (Below.setCell (Below.setCell (Below.setCell (Below.setCell (Below.setCell (Below.setCell (Below.setCell hx hb _) hb _) hb _) hb _) hb _) hb _) hb _) hb _⟩
section
variable {w : World} {b bf bm o : Nat} {p g : Int} {fs : List Int} {M : Nat → Nat → Int}
set_option maxRecDepth 100000 in
set_option maxHeartbeats 4000000 in
theorem times_any (hc : w.cell? ⟨b, 0, none⟩ = some (.pointer (some ⟨bf, 0, none⟩))) (hf : Fld w (.pointer (some ⟨bf, 0, none⟩)) p g fs) (hm : MxO w bm o M) (x : List Int) :
    Calls Tryz.prog 165 #[.pointer (some ⟨b, 0, none⟩), .pointer (some ⟨bm, o, none⟩), st8 x] w (Gives w fun u _ => u = st8 (mixU p M x 8 0)) := by
  have HF := Lib.hid hf; have HM := Lib.hid hm
  clear hf hm
  unfold st8
  go_enter Tryz.func165, Tryz.ntmps165
  go_wp2_with fail
  obtain ⟨W0, hW0⟩ : ∃ W0, W0 = (((w.alloc (Obj.cells #[.int .i64 (nth x 0), .int .i64 (nth x 1), .int .i64 (nth x 2), .int .i64 (nth x 3), .int .i64 (nth x 4), .int .i64 (nth x 5), .int .i64 (nth x 6), .int .i64 (nth x 7)] 71)).alloc (Obj.cells #[.int .i64 0, .int .i64 0, .int .i64 0, .int .i64 0, .int .i64 0, .int .i64 0, .int .i64 0, .int .i64 0] 71)).alloc (Obj.cells #[.int .i64 0, .int .i64 0, .int .i64 0, .int .i64 0, .int .i64 0, .int .i64 0, .int .i64 0, .int .i64 0] 71)) := ⟨_, rfl⟩
  rw [← hW0]
  have HX0 := Lib.hid (show Ext w W0 from by rw [hW0]; exact ((Ext.alloc w _).trans (Ext.alloc _ _)).trans (Ext.alloc _ _))
  have HBX := Lib.hid (show BlkOf W0 w.heap.size (c8 x) 71 from by rw [hW0]; exact ((BlkOf.new w (c8 x) 71).ext (Ext.alloc _ _)).ext (Ext.alloc _ _))
  have HBR := Lib.hid (show BlkOf W0 (w.heap.size + 1) (c8 (List.replicate 8 0)) 71 from by rw [hW0]; have h := (BlkOf.new (w.alloc (Obj.cells (c8 x).toArray 71)) (c8 (List.replicate 8 0)) 71).ext (Ext.alloc _ (Obj.cells (c8 (List.replicate 8 0)).toArray 71)); rw [show (w.alloc (Obj.cells (c8 x).toArray 71)).heap.size = w.heap.size + 1 from by simp] at h; exact h)
  have HBO := Lib.hid (show BlkOf W0 (w.heap.size + 1 + 1) (c8 (mixU p M x 0 0)) 71 from by rw [mixU_zero, hW0]; have h := (BlkOf.new ((w.alloc (Obj.cells (c8 x).toArray 71)).alloc (Obj.cells (c8 (List.replicate 8 0)).toArray 71)) (c8 (List.replicate 8 0)) 71); rw [show ((w.alloc (Obj.cells (c8 x).toArray 71)).alloc (Obj.cells (c8 (List.replicate 8 0)).toArray 71)).heap.size = w.heap.size + 1 + 1 from by simp] at h; exact h)
  have hsz : w.heap.size + 1 + 1 < W0.heap.size := HBO.out.lt
  clear hW0
  go_loopw [8, 9, 10, 11, 14] (fun _ _ _ _ x14 wr => ∃ i : Nat, i ≤ 8 ∧ x14 = .int .i64 i ∧ Hid (BlkOf wr w.heap.size (c8 x) 71) ∧ Hid (BlkOf wr (w.heap.size + 1) (c8 (List.replicate 8 0)) 71) ∧ Hid (BlkOf wr (w.heap.size + 1 + 1) (c8 (mixU p M x i 0)) 71) ∧ Hid (Ext w wr)) (fun _ _ _ _ x14 _ => 8 - (intOf x14).toNat)
  case atStart => exact ⟨0, by omega, rfl, HBX, HBR, HBO, HX0⟩
  case round =>
    clear HBX HBR HBO HX0
    obtain ⟨i, hi, rfl, HBX, HBR, HBO, HX⟩ := hrel
    by_cases hi8 : i < 8
    · have hi88 : (i : Int) < 8 := by omega
      have hpt := fun w' => ptr64 (w := w') bm o i hi8
      have k0 : wr.cell? ⟨bm, o + i * 8, none⟩ = some (.int .i64 (M i 0)) := hm1 HM.out HX.out i hi8 0 (by omega)
      have k1 := hm1 HM.out HX.out i hi8 1 (by omega)
      have k2 := hm1 HM.out HX.out i hi8 2 (by omega)
      have k3 := hm1 HM.out HX.out i hi8 3 (by omega)
      have k4 := hm1 HM.out HX.out i hi8 4 (by omega)
      have k5 := hm1 HM.out HX.out i hi8 5 (by omega)
      have k6 := hm1 HM.out HX.out i hi8 6 (by omega)
      have k7 := hm1 HM.out HX.out i hi8 7 (by omega)
      have hbm : bm < wr.heap.size := World.block_lt_of_cell? wr _ k0
      have hne : ¬ bm = wr.heap.size := by omega
      have hne' : ¬ wr.heap.size = bm := by omega
      go_wp2_with fail
      go_region
      have hxr := (Ext.alloc wr (Obj.cells #[.int .i64 (M i 0), .int .i64 (M i 1), .int .i64 (M i 2), .int .i64 (M i 3), .int .i64 (M i 4), .int .i64 (M i 5), .int .i64 (M i 6), .int .i64 (M i 7)] 71)).trans (Ext.drew _)
      have hrw := (BlkOf.new wr (c8 [M i 0, M i 1, M i 2, M i 3, M i 4, M i 5, M i 6, M i 7]) 71).ext (Ext.drew _)
      obtain ⟨m0, m1, m2, m3, m4, m5, m6, m7⟩ := blk8 hrw
      generalize hW4 : (wr.alloc (Obj.cells #[.int .i64 (M i 0), .int .i64 (M i 1), .int .i64 (M i 2), .int .i64 (M i 3), .int .i64 (M i 4), .int .i64 (M i 5), .int .i64 (M i 6), .int .i64 (M i 7)] 71)).drew = W4 at *
      replace m0 : W4.cell? ⟨wr.heap.size, 0, none⟩ = some (.int .i64 (M i 0)) := by rw [← hW4]; exact m0
      replace m1 : W4.cell? ⟨wr.heap.size, 1, none⟩ = some (.int .i64 (M i 1)) := by rw [← hW4]; exact m1
      replace m2 : W4.cell? ⟨wr.heap.size, 2, none⟩ = some (.int .i64 (M i 2)) := by rw [← hW4]; exact m2
      replace m3 : W4.cell? ⟨wr.heap.size, 3, none⟩ = some (.int .i64 (M i 3)) := by rw [← hW4]; exact m3
      replace m4 : W4.cell? ⟨wr.heap.size, 4, none⟩ = some (.int .i64 (M i 4)) := by rw [← hW4]; exact m4
      replace m5 : W4.cell? ⟨wr.heap.size, 5, none⟩ = some (.int .i64 (M i 5)) := by rw [← hW4]; exact m5
      replace m6 : W4.cell? ⟨wr.heap.size, 6, none⟩ = some (.int .i64 (M i 6)) := by rw [← hW4]; exact m6
      replace m7 : W4.cell? ⟨wr.heap.size, 7, none⟩ = some (.int .i64 (M i 7)) := by rw [← hW4]; exact m7
      clear hW4 hrw
      have HX4 := Lib.hid (HX.out.trans hxr)
      have HBX4 := Lib.hid (HBX.out.ext hxr)
      have HBR4 := Lib.hid (HBR.out.ext hxr)
      have HBO4 := Lib.hid (HBO.out.ext hxr)
      clear hxr HX HBX HBR HBO k0 k1 k2 k3 k4 k5 k6 k7 hpt
      go_wp2_with fail
      go_loopw [10, 11, 21] (fun _ _ x21 wq => ∃ j : Nat, j ≤ 8 ∧ x21 = .int .i64 j ∧ Hid (BlkOf wq w.heap.size (c8 x) 71) ∧ Hid (BlkOf wq (w.heap.size + 1) (c8 (List.replicate 8 0)) 71) ∧ Hid (BlkOf wq (w.heap.size + 1 + 1) (c8 (mixU p M x i j)) 71) ∧ Hid (Ext w wq)) (fun _ _ x21 _ => 8 - (intOf x21).toNat)
      case atStart => exact ⟨0, by omega, rfl, HBX4, HBR4, HBO4, HX4⟩
      case round =>
        clear HBX4 HBR4 HBO4 HX4 m0 m1 m2 m3 m4 m5 m6 m7
        obtain ⟨j, hj, rfl, HBX, HBR, HBO, HX⟩ := hrel
        by_cases hj8 : j < 8
        · have hj88 : (j : Int) < 8 := by omega
          have hix := fun w' => ix8 (fun j => M i j) j hj8 w'
          have hp1 := fun w' => ptr8 w.heap.size 0 j hj8 w'
          have hp2 := fun w' => ptr8 (w.heap.size + 1 + 1) 0 i hi8 w'
          simp only [Nat.zero_add] at hp1 hp2
          have d1 : wr.cell? ⟨w.heap.size, j, none⟩ = some (.int .i64 (nth x j)) := (HBX.out.cell j).trans (c8_at x j hj8)
          have d2 : wr.cell? ⟨w.heap.size + 1 + 1, i, none⟩ = some (.int .i64 (nth (mixU p M x i j) i)) := (HBO.out.cell i).trans (c8_at _ i hi8)
          have d3 := HBO.out.free i
          have d0 := HX.out.cell hc
          have HFW := Lib.hid (HF.out.ext HX.out)
          have HST := Lib.hid (mixU_step p M x i j hi8)
          have HC8 := Lib.hid (fun v => c8_set (mixU p M x i j) i v (mixU_length p M x i j) hi8)
          generalize nth (mixU p M x i j) i = s0 at *
          generalize nth x j = xj at *
          generalize M i j = mij at *
          go_wp2_with fail
          refine wp_region_quiet_tail 19 (by kernel_rfl) (by kernel_rfl) ?_
          simp only [List.take_succ_cons, List.take_zero, List.drop_succ_cons, List.drop_zero]
          repeat (go_big_quiet_step (first | (go_at_call 71; exact mul_q HFW.out _ _ _) | (go_at_call 70; exact add_q HFW.out _ _ _)))
          refine wpQuiet_nil ?_
          rintro _ ⟨nq, rfl⟩
          have HX5 := Lib.hid (HX.out.trans (Ext.drewN wr nq))
          have HBX5 := Lib.hid (HBX.out.ext (Ext.drewN wr nq))
          have HBR5 := Lib.hid (HBR.out.ext (Ext.drewN wr nq))
          have HBO5 := Lib.hid (HBO.out.ext (Ext.drewN wr nq))
          clear hix hp1 hp2 d0 d1 HX HBX HBR HBO
          go_wp2_with fail
          go_roundw
          case rel => exact ⟨j + 1, by omega, by go_num, Lib.hid (HBX5.out.grown (setCell_grown _ _ _ _) (by simp <;> omega)), Lib.hid (HBR5.out.grown (setCell_grown _ _ _ _) (by simp)), Lib.hid (by have h := HBO5.out.set i (.int .i64 (fadd p s0 (fmul p mij xj))); rw [HC8.out, HST.out] at h; exact h), Lib.hid (Below.setCell HX5.out (by show w.heap.size ≤ w.heap.size + 1 + 1; omega) _)⟩
          case measure => simp [intOf]; omega
        · obtain rfl : j = 8 := by omega
          have HBO2 := Lib.hid (show BlkOf wr (w.heap.size + 1 + 1) (c8 (mixU p M x (i + 1) 0)) 71 from by rw [← mixU_next]; exact HBO.out)
          go_wp2_with fail
          go_roundw
          case rel => exact ⟨i + 1, by omega, by go_num, HBX, HBR, HBO2, HX⟩
          case measure => simp [intOf]; omega
    · obtain rfl : i = 8 := by omega
      obtain ⟨m0, m1, m2, m3, m4, m5, m6, m7⟩ := blk8 HBO.out
      obtain ⟨r0, r1, r2, r3, r4, r5, r6, r7⟩ := blk8 HBR.out
      have s0 := HBR.out.free 0
      have s1 := HBR.out.free 1
      have s2 := HBR.out.free 2
      have s3 := HBR.out.free 3
      have s4 := HBR.out.free 4
      have s5 := HBR.out.free 5
      have s6 := HBR.out.free 6
      have s7 := HBR.out.free 7
      go_wp2_with fail
      obtain ⟨hb, hx⟩ := at_row8 HBR.out (nth (mixU p M x 8 0) 0) (nth (mixU p M x 8 0) 1) (nth (mixU p M x 8 0) 2) (nth (mixU p M x 8 0) 3) (nth (mixU p M x 8 0) 4) (nth (mixU p M x 8 0) 5) (nth (mixU p M x 8 0) 6) (nth (mixU p M x 8 0) 7) (by omega) HX.out
      refine bodyPost_ret (results_cell_row rfl _ _ (w.heap.size + 1) 71 _ _ _ rfl hb Tryz.underlying71 rfl (by kernel_rfl)) rfl ?_
      exact .mk _ rfl hx rfl
end
end Go.Proofs.YtaajjaadlpgbiaaGreatDoor
