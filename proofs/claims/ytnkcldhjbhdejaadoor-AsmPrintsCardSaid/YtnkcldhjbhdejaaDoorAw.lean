/- Code as text, the document's side: whether an instruction can be written, where its numbers fit: contract. -/
import Derived.Test.YtnkcldhjbhdejaaDoorAv
namespace Go.Att
open Go.RowKit
theorem ext_setA {w X : World} {b o : Nat} {v : Value} (h : Ext w X) (hb : w.heap.size ≤ b) : Ext w (X.setCell ⟨b, o, none⟩ v) := Below.grown h.below (setCell_grown _ _ _ _) h.size (fun q e => by cases e; exact hb)
end Go.Att
namespace Go.Proofs.YtnkcldhjbhdejaaDoor
open Go.RowKit Go.Att
set_option maxRecDepth 100000 in
set_option maxHeartbeats 4000000 in
theorem aproper_fit (x : In4) (w : World) (h : 0 ≤ x.op ∧ x.op < 14) (hfa : fitsA x.a = true) (hfb : fitsA x.b = true) (hfc : fitsA x.c = true) :
    Calls Tryd.prog 19 #[.agg #[.int .i64 x.op, .int .i64 x.a, .int .i64 x.b, .int .i64 x.c]] w fun e w' => e = .returned (.bool (rightA x)) ∧ Ext w w' := by
  obtain ⟨k, hk⟩ := Int.eq_ofNat_of_zero_le h.1
  have hk14 : k < 14 := by omega
  have HB := Lib.hid (BlkOf.new w [.int .i64 x.op, .int .i64 x.a, .int .i64 x.b, .int .i64 x.c] 37)
  have HX := Lib.hid (Ext.alloc w (Obj.cells #[.int .i64 x.op, .int .i64 x.a, .int .i64 x.b, .int .i64 x.c] 37))
  have e0 : (w.alloc (Obj.cells #[.int .i64 x.op, .int .i64 x.a, .int .i64 x.b, .int .i64 x.c] 37)).cell? ⟨w.heap.size, 0, none⟩ = some (.int .i64 x.op) := HB.out.cell 0
  have CA := Lib.hid (fun W => by have := afits_any x.a W; rw [hfa] at this; exact this)
  have CB := Lib.hid (fun W => by have := afits_any x.b W; rw [hfb] at this; exact this)
  have CC := Lib.hid (fun W => by have := afits_any x.c W; rw [hfc] at this; exact this)
  have HRA := Lib.hid (show rightA x = ((List.range 3).all fun i => decide (i < (opsA k).length) || valA x i == 0) from by
    unfold rightA
    rw [decide_eq_true h, hk, Int.toNat_natCast, Bool.true_and]
    simp [List.range_succ, valA, hfa, hfb, hfc])
  rw [HRA.out]
  clear hfa hfb hfc h HRA
  generalize x.op = xo at *
  subst hk
  go_enter Tryd.func19, Tryd.ntmps19
  go_upto_region 4 with (go_at_call 18; refine (aneeds_any _).mono ?_; rintro e w1 ⟨v1, rfl, hx1, hs1⟩)
  have hi1 := Sl.run_index (P := Tryd.prog) hs1 slStrA k (by omega) (by simp [needsA]; omega)
  rw [Int.toNat_natCast] at hi1
  have hc1 := hs1.cell (i := k) (by simp [needsA]; omega)
  rw [show needsA[k]'(by simp [needsA]; omega) = needA k by simp [needsA]] at hc1
  have q0 : w1.cell? ⟨w.heap.size, 0, none⟩ = some (.int .i64 (k : Int)) := hx1.cell e0
  have q1 : w1.cell? ⟨w.heap.size, 1, none⟩ = some (.int .i64 x.a) := (HB.out.ext hx1).cell 1
  have q2 : w1.cell? ⟨w.heap.size, 2, none⟩ = some (.int .i64 x.b) := (HB.out.ext hx1).cell 2
  have q3 : w1.cell? ⟨w.heap.size, 3, none⟩ = some (.int .i64 x.c) := (HB.out.ext hx1).cell 3
  have HB1 := Lib.hid (HB.out.ext hx1)
  have HX1 := Lib.hid (HX.out.trans hx1)
  go_wp2_with fail
  refine (CA.out _).mono ?_
  rintro e w' ⟨rfl, rfl⟩
  go_wp2_with fail
  refine (CB.out _).mono ?_
  rintro e w' ⟨rfl, rfl⟩
  go_wp2_with fail
  refine (CC.out _).mono ?_
  rintro e w' ⟨rfl, rfl⟩
  go_wp2_with fail
  have hN := opsA_len k
  have hNA := need_len k hk14
  have HAT := Lib.hid (need_at k hk14)
  have HIX := Lib.hid (fun i (h : i < (needA k).length) w' => str_index (needA k) i h w')
  have HBH := Lib.hid (BlkOf.new w1 [.bool (decide (0 < 0)), .bool (decide (1 < 0)), .bool (decide (2 < 0))] 64)
  have HXH := Lib.hid (Ext.alloc w1 (Obj.cells #[.bool false, .bool false, .bool false] 64))
  obtain ⟨n, hn⟩ : ∃ n, (opsA k).length = n := ⟨_, rfl⟩
  rw [hn] at hN hNA
  have HN := Lib.hid hn; have HNA := Lib.hid hNA
  obtain ⟨W2, hW2⟩ : ∃ W2, W2 = w1.alloc (Obj.cells #[.bool false, .bool false, .bool false] 64) := ⟨_, rfl⟩
  rw [← hW2]
  replace HBH := Lib.hid (show BlkOf W2 w1.heap.size [.bool (decide (0 < 0)), .bool (decide (1 < 0)), .bool (decide (2 < 0))] 64 from by rw [hW2]; exact HBH.out)
  replace HXH := Lib.hid (show Ext w1 W2 from by rw [hW2]; exact HXH.out)
  clear hn hW2 q0 q1 q2 q3 hc1 hi1 e0
  go_loopw [9, 10] (fun x9 _ wr => ∃ i : Nat, i ≤ n ∧ x9 = .int .i64 i ∧ Hid (BlkOf wr w1.heap.size [.bool (decide (0 < i)), .bool (decide (1 < i)), .bool (decide (2 < i))] 64) ∧ Hid (Ext w1 wr)) (fun x9 _ _ => n - (intOf x9).toNat)
  case atStart => exact ⟨0, Nat.zero_le _, rfl, HBH, HXH⟩
  case round =>
    clear HBH HXH
    obtain ⟨i, hi, rfl, HBK, HXQ⟩ := hrel
    have hsz : ((needA k).length : Int) = n := by rw [HNA.out]
    by_cases hlt : i < n
    · have hix := HIX.out i (by rw [HNA.out]; exact hlt)
      have hat := HAT.out i (by rw [HN.out]; exact hlt)
      rw [hat] at hix
      clear hat
      have h3 : i = 0 ∨ i = 1 ∨ i = 2 := by omega
      generalize (opsA k).getD i false = t at *
      have d0 := HBK.out.cell i
      have d1 := HBK.out.free i
      rcases h3 with rfl | rfl | rfl <;> cases t
      · have hix2 : ∀ w' : World, (Instr.index 9 (.string ⟨(needA k).toArray⟩) (.int .i64 0)).run Tryd.prog w' = .ok (.int .u8 97) w' := hix
        have d02 : wr.cell? ⟨w1.heap.size, 0, none⟩ = some (.bool false) := d0
        clear hix d0
        go_wp2_with fail
        go_roundw
        case rel => exact ⟨1, by omega, rfl, Lib.hid (HBK.out.set 0 (.bool true)), Lib.hid (ext_setA HXQ.out (Nat.le_refl _))⟩
        case measure => simp [intOf]; omega
      · have hix2 : ∀ w' : World, (Instr.index 9 (.string ⟨(needA k).toArray⟩) (.int .i64 0)).run Tryd.prog w' = .ok (.int .u8 65) w' := hix
        have d02 : wr.cell? ⟨w1.heap.size, 0, none⟩ = some (.bool false) := d0
        clear hix d0
        go_wp2_with fail
        go_roundw
        case rel => exact ⟨1, by omega, rfl, Lib.hid (HBK.out.set 0 (.bool true)), Lib.hid (ext_setA HXQ.out (Nat.le_refl _))⟩
        case measure => simp [intOf]; omega
      · have hix2 : ∀ w' : World, (Instr.index 9 (.string ⟨(needA k).toArray⟩) (.int .i64 1)).run Tryd.prog w' = .ok (.int .u8 98) w' := hix
        have d02 : wr.cell? ⟨w1.heap.size, 1, none⟩ = some (.bool false) := d0
        clear hix d0
        go_wp2_with fail
        go_roundw
        case rel => exact ⟨2, by omega, rfl, Lib.hid (HBK.out.set 1 (.bool true)), Lib.hid (ext_setA HXQ.out (Nat.le_refl _))⟩
        case measure => simp [intOf]; omega
      · have hix2 : ∀ w' : World, (Instr.index 9 (.string ⟨(needA k).toArray⟩) (.int .i64 1)).run Tryd.prog w' = .ok (.int .u8 66) w' := hix
        have d02 : wr.cell? ⟨w1.heap.size, 1, none⟩ = some (.bool false) := d0
        clear hix d0
        go_wp2_with fail
        go_roundw
        case rel => exact ⟨2, by omega, rfl, Lib.hid (HBK.out.set 1 (.bool true)), Lib.hid (ext_setA HXQ.out (Nat.le_refl _))⟩
        case measure => simp [intOf]; omega
      · have hix2 : ∀ w' : World, (Instr.index 9 (.string ⟨(needA k).toArray⟩) (.int .i64 2)).run Tryd.prog w' = .ok (.int .u8 99) w' := hix
        have d02 : wr.cell? ⟨w1.heap.size, 2, none⟩ = some (.bool false) := d0
        clear hix d0
        go_wp2_with fail
        go_roundw
        case rel => exact ⟨3, by omega, rfl, Lib.hid (HBK.out.set 2 (.bool true)), Lib.hid (ext_setA HXQ.out (Nat.le_refl _))⟩
        case measure => simp [intOf]; omega
      · have hix2 : ∀ w' : World, (Instr.index 9 (.string ⟨(needA k).toArray⟩) (.int .i64 2)).run Tryd.prog w' = .ok (.int .u8 67) w' := hix
        have d02 : wr.cell? ⟨w1.heap.size, 2, none⟩ = some (.bool false) := d0
        clear hix d0
        go_wp2_with fail
        go_roundw
        case rel => exact ⟨3, by omega, rfl, Lib.hid (HBK.out.set 2 (.bool true)), Lib.hid (ext_setA HXQ.out (Nat.le_refl _))⟩
        case measure => simp [intOf]; omega
    · obtain rfl : i = n := by omega
      have q1 : wr.cell? ⟨w.heap.size, 1, none⟩ = some (.int .i64 x.a) := (HB1.out.ext HXQ.out).cell 1
      have q2 : wr.cell? ⟨w.heap.size, 2, none⟩ = some (.int .i64 x.b) := (HB1.out.ext HXQ.out).cell 2
      have q3 : wr.cell? ⟨w.heap.size, 3, none⟩ = some (.int .i64 x.c) := (HB1.out.ext HXQ.out).cell 3
      have hi3 : i = 1 ∨ i = 2 ∨ i = 3 := by omega
      have HV := Lib.hid (show ((List.range 3).all fun j => decide (j < i) || valA x j == 0) = ((decide (0 < i) || x.a == 0) && ((decide (1 < i) || x.b == 0) && (decide (2 < i) || x.c == 0))) from by simp [List.range_succ, valA])
      have d0 := HBK.out.cell 0
      have d1 := HBK.out.cell 1
      have d2 := HBK.out.cell 2
      rw [← HN.out] at HV
      clear HAT HIX HBK hsz hlt
      rcases hi3 with rfl | rfl | rfl
      · have g0 : wr.cell? ⟨w1.heap.size, 0, none⟩ = some (.bool true) := d0
        have g1 : wr.cell? ⟨w1.heap.size, 1, none⟩ = some (.bool false) := d1
        have g2 : wr.cell? ⟨w1.heap.size, 2, none⟩ = some (.bool false) := d2
        clear d0 d1 d2
        cases hxb : (x.b == 0) <;> cases hxc : (x.c == 0)
        all_goals
          go_wp2_with fail
          go_ret
          exact ⟨by rw [HV.out, hxb, hxc, HN.out]; first | rfl | simp, HX1.out.trans HXQ.out⟩
      · have g0 : wr.cell? ⟨w1.heap.size, 0, none⟩ = some (.bool true) := d0
        have g1 : wr.cell? ⟨w1.heap.size, 1, none⟩ = some (.bool true) := d1
        have g2 : wr.cell? ⟨w1.heap.size, 2, none⟩ = some (.bool false) := d2
        clear d0 d1 d2
        cases hxb : (x.b == 0) <;> cases hxc : (x.c == 0)
        all_goals
          go_wp2_with fail
          go_ret
          exact ⟨by rw [HV.out, hxb, hxc, HN.out]; first | rfl | simp, HX1.out.trans HXQ.out⟩
      · have g0 : wr.cell? ⟨w1.heap.size, 0, none⟩ = some (.bool true) := d0
        have g1 : wr.cell? ⟨w1.heap.size, 1, none⟩ = some (.bool true) := d1
        have g2 : wr.cell? ⟨w1.heap.size, 2, none⟩ = some (.bool true) := d2
        clear d0 d1 d2
        cases hxb : (x.b == 0) <;> cases hxc : (x.c == 0)
        all_goals
          go_wp2_with fail
          go_ret
          exact ⟨by rw [HV.out, hxb, hxc, HN.out]; first | rfl | simp, HX1.out.trans HXQ.out⟩
end Go.Proofs.YtnkcldhjbhdejaaDoor
