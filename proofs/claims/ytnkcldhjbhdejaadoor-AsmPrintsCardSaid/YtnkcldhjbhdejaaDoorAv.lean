/- Code as text, the document's side: whether an instruction can be written: contract. -/
import Derived.Test.YtnkcldhjbhdejaaDoorAu
namespace Go.Att
open Go.RowKit
theorem rightA_out {x : In4} (h : ¬ (0 ≤ x.op ∧ x.op < 14)) : rightA x = false := by unfold rightA; rw [decide_eq_false h]; rfl
theorem rightA_off {x : In4} (h : (fitsA x.a && fitsA x.b && fitsA x.c) = false) : rightA x = false := by
  cases hr : rightA x with
  | false => rfl
  | true =>
    have h0 := rightA_val hr 0 (by omega); have h1 := rightA_val hr 1 (by omega); have h2 := rightA_val hr 2 (by omega)
    simp only [valA] at h0 h1 h2
    simp at h0 h1 h2
    rw [h0, h1, h2] at h; cases h
end Go.Att
namespace Go.Proofs.YtnkcldhjbhdejaaDoor
open Go.RowKit Go.Att
theorem slStrA : SlT Tryd.prog 41 9 1 16 (.string ⟨#[]⟩) := .mk' Tryd.underlying41 (by kernel_rfl) (by decide)
set_option maxRecDepth 100000 in
set_option maxHeartbeats 2000000 in
theorem aproper_out (x : In4) (w : World) (h : ¬ (0 ≤ x.op ∧ x.op < 14)) :
    Calls Tryd.prog 19 #[.agg #[.int .i64 x.op, .int .i64 x.a, .int .i64 x.b, .int .i64 x.c]] w fun e w' => e = .returned (.bool (rightA x)) ∧ Ext w w' := by
  rw [rightA_out h]
  have HB := Lib.hid (BlkOf.new w [.int .i64 x.op, .int .i64 x.a, .int .i64 x.b, .int .i64 x.c] 37)
  have HX := Lib.hid (Ext.alloc w (Obj.cells #[.int .i64 x.op, .int .i64 x.a, .int .i64 x.b, .int .i64 x.c] 37))
  have e0 : (w.alloc (Obj.cells #[.int .i64 x.op, .int .i64 x.a, .int .i64 x.b, .int .i64 x.c] 37)).cell? ⟨w.heap.size, 0, none⟩ = some (.int .i64 x.op) := HB.out.cell 0
  by_cases h1 : x.op < 0
  · go_enter Tryd.func19, Tryd.ntmps19
    go_wp2_with fail
    go_ret
    exact ⟨rfl, HX.out⟩
  · have h2 : 13 < x.op := by omega
    clear h
    go_enter Tryd.func19, Tryd.ntmps19
    go_wp2_with fail
    go_ret
    exact ⟨rfl, HX.out⟩
set_option maxRecDepth 100000 in
set_option maxHeartbeats 4000000 in
theorem aproper_off (x : In4) (w : World) (h : 0 ≤ x.op ∧ x.op < 14) (hoff : (fitsA x.a && fitsA x.b && fitsA x.c) = false) :
    Calls Tryd.prog 19 #[.agg #[.int .i64 x.op, .int .i64 x.a, .int .i64 x.b, .int .i64 x.c]] w fun e w' => e = .returned (.bool (rightA x)) ∧ Ext w w' := by
  rw [rightA_off hoff]
  obtain ⟨k, hk⟩ := Int.eq_ofNat_of_zero_le h.1
  have hk14 : k < 14 := by omega
  have HB := Lib.hid (BlkOf.new w [.int .i64 x.op, .int .i64 x.a, .int .i64 x.b, .int .i64 x.c] 37)
  have HX := Lib.hid (Ext.alloc w (Obj.cells #[.int .i64 x.op, .int .i64 x.a, .int .i64 x.b, .int .i64 x.c] 37))
  have e0 : (w.alloc (Obj.cells #[.int .i64 x.op, .int .i64 x.a, .int .i64 x.b, .int .i64 x.c] 37)).cell? ⟨w.heap.size, 0, none⟩ = some (.int .i64 x.op) := HB.out.cell 0
  obtain ⟨fa, hfa⟩ : ∃ b, fitsA x.a = b := ⟨_, rfl⟩
  obtain ⟨fb, hfb⟩ : ∃ b, fitsA x.b = b := ⟨_, rfl⟩
  obtain ⟨fc, hfc⟩ : ∃ b, fitsA x.c = b := ⟨_, rfl⟩
  rw [hfa, hfb, hfc] at hoff
  have CA := Lib.hid (fun W => by have := afits_any x.a W; rw [hfa] at this; exact this)
  have CB := Lib.hid (fun W => by have := afits_any x.b W; rw [hfb] at this; exact this)
  have CC := Lib.hid (fun W => by have := afits_any x.c W; rw [hfc] at this; exact this)
  clear hfa hfb hfc h
  generalize x.a = xa at *
  generalize x.b = xb at *
  generalize x.c = xc at *
  generalize x.op = xo at *
  subst hk
  cases fa <;> cases fb <;> cases fc <;> simp only [Bool.and_true, Bool.and_false, Bool.true_eq_false] at hoff
  all_goals
    go_enter Tryd.func19, Tryd.ntmps19
    go_upto_region 4 with (go_at_call 18; refine (aneeds_any _).mono ?_; rintro e w1 ⟨v1, rfl, hx1, hs1⟩)
    have hi1 := Sl.run_index (P := Tryd.prog) hs1 slStrA k (by omega) (by simp [needsA]; omega)
    rw [Int.toNat_natCast] at hi1
    have hc1 := hs1.cell (i := k) (by simp [needsA]; omega)
    have q0 : w1.cell? ⟨w.heap.size, 0, none⟩ = some (.int .i64 (k : Int)) := hx1.cell e0
    have q1 : w1.cell? ⟨w.heap.size, 1, none⟩ = some (.int .i64 xa) := (HB.out.ext hx1).cell 1
    have q2 : w1.cell? ⟨w.heap.size, 2, none⟩ = some (.int .i64 xb) := (HB.out.ext hx1).cell 2
    have q3 : w1.cell? ⟨w.heap.size, 3, none⟩ = some (.int .i64 xc) := (HB.out.ext hx1).cell 3
    go_wp2_with fail
    refine (CA.out _).mono ?_
    rintro e w' ⟨rfl, rfl⟩
    go_wp2_with fail
    refine (CB.out _).mono ?_
    rintro e w' ⟨rfl, rfl⟩
    go_wp2_with fail
    refine (CC.out _).mono ?_
    rintro e w' ⟨rfl, rfl⟩
    go_wp2_with fail
    go_ret
    exact ⟨rfl, HX.out.trans hx1⟩
end Go.Proofs.YtnkcldhjbhdejaaDoor
