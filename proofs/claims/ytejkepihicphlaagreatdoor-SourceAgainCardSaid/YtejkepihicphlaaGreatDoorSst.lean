/- A part as text, the program's side, on: contracts. Printed by wip/mktx.py. -/
import Derived.Test.YtejkepihicphlaaGreatDoorSsp
namespace Go.Proofs.YtejkepihicphlaaGreatDoor
open Go.RowKit Go.Att Go.Shelf
section
variable {w : World} {q p : Nat} {n : Int} {s : List UInt8} {kv : Value}
set_option maxRecDepth 100000 in
set_option maxHeartbeats 16000000 in
theorem tx_add {u0 u1 : Value} {t0 t1 : Tr} {least : Nat} {B : List UInt8} (h : BlkOf w q (pcells 2 n s kv p) 161) (hi0 : ∀ W : World, (Instr.indexAt 159 kv (.int .i64 0)).run Tryz.prog W = .ok (.pointer (some (elt kv 0 1))) W) (hu0 : ∀ W : World, Ext w W → W.cell? (elt kv 0 1) = some u0) (hc0 : ∀ (W : World) (l : Nat), Ext w W → l ≤ 5 → Calls Tryz.prog 29 #[u0, .int .i64 l] W fun e w9 => e = .returned (.string ⟨(prT t0 l).toArray⟩) ∧ Ext W w9) (hi1 : ∀ W : World, (Instr.indexAt 159 kv (.int .i64 1)).run Tryz.prog W = .ok (.pointer (some (elt kv 1 1))) W) (hu1 : ∀ W : World, Ext w W → W.cell? (elt kv 1 1) = some u1) (hc1 : ∀ (W : World) (l : Nat), Ext w W → l ≤ 5 → Calls Tryz.prog 29 #[u1, .int .i64 l] W fun e w9 => e = .returned (.string ⟨(prT t1 l).toArray⟩) ∧ Ext W w9) (_hs : s.length ≤ 16) (b02 : (prT t0 2).length ≤ 1000000) (b13 : (prT t1 3).length ≤ 1000000) (hBody : (prT t0 2 ++ signT 2) ++ prT t1 3 = B) (hBL : B.length ≤ 10000000) :
    Calls Tryz.prog 29 #[.pointer (some ⟨q, 0, none⟩), .int .i64 least] w fun e w9 => e = .returned (.string ⟨(wrapT 2 least B).toArray⟩) ∧ Ext w w9 := by
  have HN : Hid (∀ W, Ext w W → W.cell? ⟨q, 0, none⟩ = some (.int .i64 2) ∧ W.cell? ⟨q, 2, none⟩ = some (.string ⟨s.toArray⟩) ∧ W.cell? ⟨q, 3, none⟩ = some kv) := Lib.hid (fun W hx => ⟨(h.ext hx).cell 0, (h.ext hx).cell 2, (h.ext hx).cell 3⟩)
  have HLV : Hid (∀ W, Ext w W → Calls Tryz.prog 70 #[.pointer (some ⟨q, 0, none⟩)] W fun e w9 => e = .returned (.int .i64 2) ∧ W = w9) := Lib.hid (fun W hx => slevel_any (h.ext hx) (by decide))
  have HSG : Hid (∀ W, Ext w W → Calls Tryz.prog 69 #[.pointer (some ⟨q, 0, none⟩)] W fun e w9 => e = .returned (.string ⟨(signT 2).toArray⟩) ∧ W = w9) := Lib.hid (fun W hx => ssigns_any (h.ext hx) (by decide))
  have HB := Lib.hid h
  have hsl : (signT 2).length ≤ 4 := by decide
  have HI0 := Lib.hid hi0; have HU0 := Lib.hid hu0; have HC0 := Lib.hid hc0
  have HI1 := Lib.hid hi1; have HU1 := Lib.hid hu1; have HC1 := Lib.hid hc1
  clear h hi0 hu0 hc0 hi1 hu1 hc1
  obtain ⟨k0, k2, k3⟩ := HN.out w (Ext.refl w)
  go_enter Tryz.func29, Tryz.ntmps29
  go_upto_region 19 with fail
  refine wp_region_ext 23 [SP.eq (.pointer (some ⟨q, 0, none⟩)), SP.eq (.pointer (some ⟨q, 0, none⟩)), SP.eq (.pointer (some ⟨q, 3, none⟩)), SP.eq kv, SP.eq (.pointer (some (elt kv 0 1))), SP.eq u0, SP.eq (.pointer (some ⟨q, 0, none⟩)), SP.eq (.int .i64 2), SP.eq (.string ⟨(prT t0 2).toArray⟩), SP.eq (.pointer (some ⟨q, 0, none⟩)), SP.eq (.string ⟨(signT 2).toArray⟩), SP.eq (.string ⟨(prT t0 2 ++ signT 2).toArray⟩), SP.eq (.pointer (some ⟨q, 0, none⟩)), SP.eq (.pointer (some ⟨q, 0, none⟩)), SP.eq (.pointer (some ⟨q, 3, none⟩)), SP.eq kv, SP.eq (.pointer (some (elt kv 1 1))), SP.eq u1, SP.eq (.pointer (some ⟨q, 0, none⟩)), SP.eq (.int .i64 2), SP.eq (.int .i64 3), SP.eq (.string ⟨(prT t1 3).toArray⟩), SP.eq (.string ⟨((prT t0 2 ++ signT 2) ++ prT t1 3).toArray⟩)] (by kernel_rfl) (by kernel_rfl) (by kernel_rfl) ?_ ?_
  · refine ⟨?_, ?_, ?_, ?_, ?_, ?_, ?_, ?_, ?_, ?_, ?_, ?_, ?_, ?_, ?_, ?_, ?_, ?_, ?_, ?_, ?_, ?_, ?_, trivial⟩
    · refine ExtStep.mk rfl fun vs W hx hd => ?_
      clear hd
      simp only [fillA, fillL, dstL, List.take_succ_cons, List.take_zero, List.filterMap_cons, List.filterMap_nil, List.contains_cons, List.contains_nil, Nat.reduceAdd, Nat.zero_add, Nat.reduceBEq, Bool.or_false, Bool.or_true, Bool.false_eq_true, ↓reduceIte]
      go_wp2_with fail
      exact ⟨by trivial, Ext.refl _, rfl⟩
    · refine ExtStep.mk rfl fun vs W hx hd => ?_
      have e140 : vs 140 = (.pointer (some ⟨q, 0, none⟩)) := hd 0 (by kernel_rfl)
      clear hd
      simp only [fillA, fillL, dstL, List.take_succ_cons, List.take_zero, List.filterMap_cons, List.filterMap_nil, List.contains_cons, List.contains_nil, Nat.reduceAdd, Nat.zero_add, Nat.reduceBEq, Bool.or_false, Bool.or_true, Bool.false_eq_true, ↓reduceIte]
      rw [e140]
      go_wp2_with fail
      exact ⟨by trivial, Ext.refl _, rfl⟩
    · refine ExtStep.mk rfl fun vs W hx hd => ?_
      have e141 : vs 141 = (.pointer (some ⟨q, 0, none⟩)) := hd 1 (by kernel_rfl)
      clear hd
      simp only [fillA, fillL, dstL, List.take_succ_cons, List.take_zero, List.filterMap_cons, List.filterMap_nil, List.contains_cons, List.contains_nil, Nat.reduceAdd, Nat.zero_add, Nat.reduceBEq, Bool.or_false, Bool.or_true, Bool.false_eq_true, ↓reduceIte]
      rw [e141]
      go_wp2_with fail
      exact ⟨by trivial, Ext.refl _, rfl⟩
    · refine ExtStep.mk rfl fun vs W hx hd => ?_
      have e142 : vs 142 = (.pointer (some ⟨q, 3, none⟩)) := hd 2 (by kernel_rfl)
      clear hd
      simp only [fillA, fillL, dstL, List.take_succ_cons, List.take_zero, List.filterMap_cons, List.filterMap_nil, List.contains_cons, List.contains_nil, Nat.reduceAdd, Nat.zero_add, Nat.reduceBEq, Bool.or_false, Bool.or_true, Bool.false_eq_true, ↓reduceIte]
      rw [e142]
      have hk := (HN.out W hx).2.2
      go_wp2_with fail
      exact ⟨by trivial, Ext.refl _, rfl⟩
    · refine ExtStep.mk rfl fun vs W hx hd => ?_
      have e143 : vs 143 = kv := hd 3 (by kernel_rfl)
      clear hd
      simp only [fillA, fillL, dstL, List.take_succ_cons, List.take_zero, List.filterMap_cons, List.filterMap_nil, List.contains_cons, List.contains_nil, Nat.reduceAdd, Nat.zero_add, Nat.reduceBEq, Bool.or_false, Bool.or_true, Bool.false_eq_true, ↓reduceIte]
      rw [e143]
      have hi := HI0.out
      go_wp2_with fail
      exact ⟨by trivial, Ext.refl _, rfl⟩
    · refine ExtStep.mk rfl fun vs W hx hd => ?_
      have e144 : vs 144 = (.pointer (some (elt kv 0 1))) := hd 4 (by kernel_rfl)
      clear hd
      simp only [fillA, fillL, dstL, List.take_succ_cons, List.take_zero, List.filterMap_cons, List.filterMap_nil, List.contains_cons, List.contains_nil, Nat.reduceAdd, Nat.zero_add, Nat.reduceBEq, Bool.or_false, Bool.or_true, Bool.false_eq_true, ↓reduceIte]
      rw [e144]
      have hk := HU0.out W hx
      go_wp2_with fail
      exact ⟨by trivial, Ext.refl _, rfl⟩
    · refine ExtStep.mk rfl fun vs W hx hd => ?_
      clear hd
      simp only [fillA, fillL, dstL, List.take_succ_cons, List.take_zero, List.filterMap_cons, List.filterMap_nil, List.contains_cons, List.contains_nil, Nat.reduceAdd, Nat.zero_add, Nat.reduceBEq, Bool.or_false, Bool.or_true, Bool.false_eq_true, ↓reduceIte]
      go_wp2_with fail
      exact ⟨by trivial, Ext.refl _, rfl⟩
    · refine ExtStep.mk rfl fun vs W hx hd => ?_
      have e146 : vs 146 = (.pointer (some ⟨q, 0, none⟩)) := hd 6 (by kernel_rfl)
      clear hd
      simp only [fillA, fillL, dstL, List.take_succ_cons, List.take_zero, List.filterMap_cons, List.filterMap_nil, List.contains_cons, List.contains_nil, Nat.reduceAdd, Nat.zero_add, Nat.reduceBEq, Bool.or_false, Bool.or_true, Bool.false_eq_true, ↓reduceIte]
      rw [e146]
      go_wp2_with (go_at_call 70; refine (HLV.out W hx).mono ?_; rintro e w9 ⟨rfl, rfl⟩)
      exact ⟨by trivial, Ext.refl _, rfl⟩
    · refine ExtStep.mk rfl fun vs W hx hd => ?_
      have e145 : vs 145 = u0 := hd 5 (by kernel_rfl)
      have e147 : vs 147 = (.int .i64 2) := hd 7 (by kernel_rfl)
      clear hd
      simp only [fillA, fillL, dstL, List.take_succ_cons, List.take_zero, List.filterMap_cons, List.filterMap_nil, List.contains_cons, List.contains_nil, Nat.reduceAdd, Nat.zero_add, Nat.reduceBEq, Bool.or_false, Bool.or_true, Bool.false_eq_true, ↓reduceIte]
      rw [e145, e147]
      go_wp2_with (go_at_call 29; refine (show Calls Tryz.prog 29 #[u0, .int .i64 2] W (fun e w9 => e = .returned (.string ⟨(prT t0 2).toArray⟩) ∧ Ext W w9) from HC0.out W 2 hx (by decide)).mono ?_; rintro e w9 ⟨rfl, hx9⟩)
      exact ⟨by trivial, hx9, rfl⟩
    · refine ExtStep.mk rfl fun vs W hx hd => ?_
      clear hd
      simp only [fillA, fillL, dstL, List.take_succ_cons, List.take_zero, List.filterMap_cons, List.filterMap_nil, List.contains_cons, List.contains_nil, Nat.reduceAdd, Nat.zero_add, Nat.reduceBEq, Bool.or_false, Bool.or_true, Bool.false_eq_true, ↓reduceIte]
      go_wp2_with fail
      exact ⟨by trivial, Ext.refl _, rfl⟩
    · refine ExtStep.mk rfl fun vs W hx hd => ?_
      have e149 : vs 149 = (.pointer (some ⟨q, 0, none⟩)) := hd 9 (by kernel_rfl)
      clear hd
      simp only [fillA, fillL, dstL, List.take_succ_cons, List.take_zero, List.filterMap_cons, List.filterMap_nil, List.contains_cons, List.contains_nil, Nat.reduceAdd, Nat.zero_add, Nat.reduceBEq, Bool.or_false, Bool.or_true, Bool.false_eq_true, ↓reduceIte]
      rw [e149]
      go_wp2_with (go_at_call 69; refine (HSG.out W hx).mono ?_; rintro e w9 ⟨rfl, rfl⟩)
      exact ⟨by trivial, Ext.refl _, rfl⟩
    · refine ExtStep.mk rfl fun vs W hx hd => ?_
      have e148 : vs 148 = (.string ⟨(prT t0 2).toArray⟩) := hd 8 (by kernel_rfl)
      have e150 : vs 150 = (.string ⟨(signT 2).toArray⟩) := hd 10 (by kernel_rfl)
      clear hd
      simp only [fillA, fillL, dstL, List.take_succ_cons, List.take_zero, List.filterMap_cons, List.filterMap_nil, List.contains_cons, List.contains_nil, Nat.reduceAdd, Nat.zero_add, Nat.reduceBEq, Bool.or_false, Bool.or_true, Bool.false_eq_true, ↓reduceIte]
      rw [e148, e150]
      go_wp2_with fail
      exact ⟨by trivial, Ext.refl _, congrArg Value.string (by apply ByteArray.ext; simp)⟩
    · refine ExtStep.mk rfl fun vs W hx hd => ?_
      clear hd
      simp only [fillA, fillL, dstL, List.take_succ_cons, List.take_zero, List.filterMap_cons, List.filterMap_nil, List.contains_cons, List.contains_nil, Nat.reduceAdd, Nat.zero_add, Nat.reduceBEq, Bool.or_false, Bool.or_true, Bool.false_eq_true, ↓reduceIte]
      go_wp2_with fail
      exact ⟨by trivial, Ext.refl _, rfl⟩
    · refine ExtStep.mk rfl fun vs W hx hd => ?_
      have e152 : vs 152 = (.pointer (some ⟨q, 0, none⟩)) := hd 12 (by kernel_rfl)
      clear hd
      simp only [fillA, fillL, dstL, List.take_succ_cons, List.take_zero, List.filterMap_cons, List.filterMap_nil, List.contains_cons, List.contains_nil, Nat.reduceAdd, Nat.zero_add, Nat.reduceBEq, Bool.or_false, Bool.or_true, Bool.false_eq_true, ↓reduceIte]
      rw [e152]
      go_wp2_with fail
      exact ⟨by trivial, Ext.refl _, rfl⟩
    · refine ExtStep.mk rfl fun vs W hx hd => ?_
      have e153 : vs 153 = (.pointer (some ⟨q, 0, none⟩)) := hd 13 (by kernel_rfl)
      clear hd
      simp only [fillA, fillL, dstL, List.take_succ_cons, List.take_zero, List.filterMap_cons, List.filterMap_nil, List.contains_cons, List.contains_nil, Nat.reduceAdd, Nat.zero_add, Nat.reduceBEq, Bool.or_false, Bool.or_true, Bool.false_eq_true, ↓reduceIte]
      rw [e153]
      go_wp2_with fail
      exact ⟨by trivial, Ext.refl _, rfl⟩
    · refine ExtStep.mk rfl fun vs W hx hd => ?_
      have e154 : vs 154 = (.pointer (some ⟨q, 3, none⟩)) := hd 14 (by kernel_rfl)
      clear hd
      simp only [fillA, fillL, dstL, List.take_succ_cons, List.take_zero, List.filterMap_cons, List.filterMap_nil, List.contains_cons, List.contains_nil, Nat.reduceAdd, Nat.zero_add, Nat.reduceBEq, Bool.or_false, Bool.or_true, Bool.false_eq_true, ↓reduceIte]
      rw [e154]
      have hk := (HN.out W hx).2.2
      go_wp2_with fail
      exact ⟨by trivial, Ext.refl _, rfl⟩
    · refine ExtStep.mk rfl fun vs W hx hd => ?_
      have e155 : vs 155 = kv := hd 15 (by kernel_rfl)
      clear hd
      simp only [fillA, fillL, dstL, List.take_succ_cons, List.take_zero, List.filterMap_cons, List.filterMap_nil, List.contains_cons, List.contains_nil, Nat.reduceAdd, Nat.zero_add, Nat.reduceBEq, Bool.or_false, Bool.or_true, Bool.false_eq_true, ↓reduceIte]
      rw [e155]
      have hi := HI1.out
      go_wp2_with fail
      exact ⟨by trivial, Ext.refl _, rfl⟩
    · refine ExtStep.mk rfl fun vs W hx hd => ?_
      have e156 : vs 156 = (.pointer (some (elt kv 1 1))) := hd 16 (by kernel_rfl)
      clear hd
      simp only [fillA, fillL, dstL, List.take_succ_cons, List.take_zero, List.filterMap_cons, List.filterMap_nil, List.contains_cons, List.contains_nil, Nat.reduceAdd, Nat.zero_add, Nat.reduceBEq, Bool.or_false, Bool.or_true, Bool.false_eq_true, ↓reduceIte]
      rw [e156]
      have hk := HU1.out W hx
      go_wp2_with fail
      exact ⟨by trivial, Ext.refl _, rfl⟩
    · refine ExtStep.mk rfl fun vs W hx hd => ?_
      clear hd
      simp only [fillA, fillL, dstL, List.take_succ_cons, List.take_zero, List.filterMap_cons, List.filterMap_nil, List.contains_cons, List.contains_nil, Nat.reduceAdd, Nat.zero_add, Nat.reduceBEq, Bool.or_false, Bool.or_true, Bool.false_eq_true, ↓reduceIte]
      go_wp2_with fail
      exact ⟨by trivial, Ext.refl _, rfl⟩
    · refine ExtStep.mk rfl fun vs W hx hd => ?_
      have e158 : vs 158 = (.pointer (some ⟨q, 0, none⟩)) := hd 18 (by kernel_rfl)
      clear hd
      simp only [fillA, fillL, dstL, List.take_succ_cons, List.take_zero, List.filterMap_cons, List.filterMap_nil, List.contains_cons, List.contains_nil, Nat.reduceAdd, Nat.zero_add, Nat.reduceBEq, Bool.or_false, Bool.or_true, Bool.false_eq_true, ↓reduceIte]
      rw [e158]
      go_wp2_with (go_at_call 70; refine (HLV.out W hx).mono ?_; rintro e w9 ⟨rfl, rfl⟩)
      exact ⟨by trivial, Ext.refl _, rfl⟩
    · refine ExtStep.mk rfl fun vs W hx hd => ?_
      have e159 : vs 159 = (.int .i64 2) := hd 19 (by kernel_rfl)
      clear hd
      simp only [fillA, fillL, dstL, List.take_succ_cons, List.take_zero, List.filterMap_cons, List.filterMap_nil, List.contains_cons, List.contains_nil, Nat.reduceAdd, Nat.zero_add, Nat.reduceBEq, Bool.or_false, Bool.or_true, Bool.false_eq_true, ↓reduceIte]
      rw [e159]
      go_wp2_with fail
      exact ⟨by trivial, Ext.refl _, rfl⟩
    · refine ExtStep.mk rfl fun vs W hx hd => ?_
      have e157 : vs 157 = u1 := hd 17 (by kernel_rfl)
      have e160 : vs 160 = (.int .i64 3) := hd 20 (by kernel_rfl)
      clear hd
      simp only [fillA, fillL, dstL, List.take_succ_cons, List.take_zero, List.filterMap_cons, List.filterMap_nil, List.contains_cons, List.contains_nil, Nat.reduceAdd, Nat.zero_add, Nat.reduceBEq, Bool.or_false, Bool.or_true, Bool.false_eq_true, ↓reduceIte]
      rw [e157, e160]
      go_wp2_with (go_at_call 29; refine (show Calls Tryz.prog 29 #[u1, .int .i64 3] W (fun e w9 => e = .returned (.string ⟨(prT t1 3).toArray⟩) ∧ Ext W w9) from HC1.out W 3 hx (by decide)).mono ?_; rintro e w9 ⟨rfl, hx9⟩)
      exact ⟨by trivial, hx9, rfl⟩
    · refine ExtStep.mk rfl fun vs W hx hd => ?_
      have e151 : vs 151 = (.string ⟨(prT t0 2 ++ signT 2).toArray⟩) := hd 11 (by kernel_rfl)
      have e161 : vs 161 = (.string ⟨(prT t1 3).toArray⟩) := hd 21 (by kernel_rfl)
      clear hd
      simp only [fillA, fillL, dstL, List.take_succ_cons, List.take_zero, List.filterMap_cons, List.filterMap_nil, List.contains_cons, List.contains_nil, Nat.reduceAdd, Nat.zero_add, Nat.reduceBEq, Bool.or_false, Bool.or_true, Bool.false_eq_true, ↓reduceIte]
      rw [e151, e161]
      go_wp2_with fail
      exact ⟨by trivial, Ext.refl _, congrArg Value.string (by apply ByteArray.ext; simp)⟩
  · intro vs w5 hx5 hall
    have e162 : vs 162 = (.string ⟨((prT t0 2 ++ signT 2) ++ prT t1 3).toArray⟩) := hall.at 22 (by omega) rfl
    have HX := Lib.hid hx5
    clear hall hx5
    simp only [fillA, fillL, dstL, List.take_succ_cons, List.take_zero, List.filterMap_cons, List.filterMap_nil, List.contains_cons, List.contains_nil, Nat.reduceAdd, Nat.zero_add, Nat.reduceBEq, Bool.or_false, Bool.or_true, Bool.false_eq_true, ↓reduceIte]
    rw [e162, hBody]
    have HB5 := Lib.hid (slevel_any (HB.out.ext HX.out) (by decide))
    have HL5 : Hid (Calls Tryz.prog 70 #[.pointer (some ⟨q, 0, none⟩)] w5 fun e w9 => e = .returned (.int .i64 2) ∧ w5 = w9) := HB5
    by_cases hl : 2 < least
    · have hd : decide ((2 : Int) < (least : Int)) = true := by rw [decide_eq_true_eq]; omega
      go_wp2_with (go_at_call 70; refine HL5.out.mono ?_; rintro e w9 ⟨rfl, rfl⟩)
      go_ret
      exact ⟨wrap_yes hl, HX.out⟩
    · have hd : decide ((2 : Int) < (least : Int)) = false := by rw [decide_eq_false_iff_not]; omega
      go_wp2_with (go_at_call 70; refine HL5.out.mono ?_; rintro e w9 ⟨rfl, rfl⟩)
      go_ret
      exact ⟨wrap_no hl, HX.out⟩
set_option maxRecDepth 100000 in
set_option maxHeartbeats 16000000 in
theorem tx_sub {u0 u1 : Value} {t0 t1 : Tr} {least : Nat} {B : List UInt8} (h : BlkOf w q (pcells 3 n s kv p) 161) (hi0 : ∀ W : World, (Instr.indexAt 159 kv (.int .i64 0)).run Tryz.prog W = .ok (.pointer (some (elt kv 0 1))) W) (hu0 : ∀ W : World, Ext w W → W.cell? (elt kv 0 1) = some u0) (hc0 : ∀ (W : World) (l : Nat), Ext w W → l ≤ 5 → Calls Tryz.prog 29 #[u0, .int .i64 l] W fun e w9 => e = .returned (.string ⟨(prT t0 l).toArray⟩) ∧ Ext W w9) (hi1 : ∀ W : World, (Instr.indexAt 159 kv (.int .i64 1)).run Tryz.prog W = .ok (.pointer (some (elt kv 1 1))) W) (hu1 : ∀ W : World, Ext w W → W.cell? (elt kv 1 1) = some u1) (hc1 : ∀ (W : World) (l : Nat), Ext w W → l ≤ 5 → Calls Tryz.prog 29 #[u1, .int .i64 l] W fun e w9 => e = .returned (.string ⟨(prT t1 l).toArray⟩) ∧ Ext W w9) (_hs : s.length ≤ 16) (b02 : (prT t0 2).length ≤ 1000000) (b13 : (prT t1 3).length ≤ 1000000) (hBody : (prT t0 2 ++ signT 3) ++ prT t1 3 = B) (hBL : B.length ≤ 10000000) :
    Calls Tryz.prog 29 #[.pointer (some ⟨q, 0, none⟩), .int .i64 least] w fun e w9 => e = .returned (.string ⟨(wrapT 2 least B).toArray⟩) ∧ Ext w w9 := by
  have HN : Hid (∀ W, Ext w W → W.cell? ⟨q, 0, none⟩ = some (.int .i64 3) ∧ W.cell? ⟨q, 2, none⟩ = some (.string ⟨s.toArray⟩) ∧ W.cell? ⟨q, 3, none⟩ = some kv) := Lib.hid (fun W hx => ⟨(h.ext hx).cell 0, (h.ext hx).cell 2, (h.ext hx).cell 3⟩)
  have HLV : Hid (∀ W, Ext w W → Calls Tryz.prog 70 #[.pointer (some ⟨q, 0, none⟩)] W fun e w9 => e = .returned (.int .i64 2) ∧ W = w9) := Lib.hid (fun W hx => slevel_any (h.ext hx) (by decide))
  have HSG : Hid (∀ W, Ext w W → Calls Tryz.prog 69 #[.pointer (some ⟨q, 0, none⟩)] W fun e w9 => e = .returned (.string ⟨(signT 3).toArray⟩) ∧ W = w9) := Lib.hid (fun W hx => ssigns_any (h.ext hx) (by decide))
  have HB := Lib.hid h
  have hsl : (signT 3).length ≤ 4 := by decide
  have HI0 := Lib.hid hi0; have HU0 := Lib.hid hu0; have HC0 := Lib.hid hc0
  have HI1 := Lib.hid hi1; have HU1 := Lib.hid hu1; have HC1 := Lib.hid hc1
  clear h hi0 hu0 hc0 hi1 hu1 hc1
  obtain ⟨k0, k2, k3⟩ := HN.out w (Ext.refl w)
  go_enter Tryz.func29, Tryz.ntmps29
  go_upto_region 19 with fail
  refine wp_region_ext 23 [SP.eq (.pointer (some ⟨q, 0, none⟩)), SP.eq (.pointer (some ⟨q, 0, none⟩)), SP.eq (.pointer (some ⟨q, 3, none⟩)), SP.eq kv, SP.eq (.pointer (some (elt kv 0 1))), SP.eq u0, SP.eq (.pointer (some ⟨q, 0, none⟩)), SP.eq (.int .i64 2), SP.eq (.string ⟨(prT t0 2).toArray⟩), SP.eq (.pointer (some ⟨q, 0, none⟩)), SP.eq (.string ⟨(signT 3).toArray⟩), SP.eq (.string ⟨(prT t0 2 ++ signT 3).toArray⟩), SP.eq (.pointer (some ⟨q, 0, none⟩)), SP.eq (.pointer (some ⟨q, 0, none⟩)), SP.eq (.pointer (some ⟨q, 3, none⟩)), SP.eq kv, SP.eq (.pointer (some (elt kv 1 1))), SP.eq u1, SP.eq (.pointer (some ⟨q, 0, none⟩)), SP.eq (.int .i64 2), SP.eq (.int .i64 3), SP.eq (.string ⟨(prT t1 3).toArray⟩), SP.eq (.string ⟨((prT t0 2 ++ signT 3) ++ prT t1 3).toArray⟩)] (by kernel_rfl) (by kernel_rfl) (by kernel_rfl) ?_ ?_
  · refine ⟨?_, ?_, ?_, ?_, ?_, ?_, ?_, ?_, ?_, ?_, ?_, ?_, ?_, ?_, ?_, ?_, ?_, ?_, ?_, ?_, ?_, ?_, ?_, trivial⟩
    · refine ExtStep.mk rfl fun vs W hx hd => ?_
      clear hd
      simp only [fillA, fillL, dstL, List.take_succ_cons, List.take_zero, List.filterMap_cons, List.filterMap_nil, List.contains_cons, List.contains_nil, Nat.reduceAdd, Nat.zero_add, Nat.reduceBEq, Bool.or_false, Bool.or_true, Bool.false_eq_true, ↓reduceIte]
      go_wp2_with fail
      exact ⟨by trivial, Ext.refl _, rfl⟩
    · refine ExtStep.mk rfl fun vs W hx hd => ?_
      have e140 : vs 140 = (.pointer (some ⟨q, 0, none⟩)) := hd 0 (by kernel_rfl)
      clear hd
      simp only [fillA, fillL, dstL, List.take_succ_cons, List.take_zero, List.filterMap_cons, List.filterMap_nil, List.contains_cons, List.contains_nil, Nat.reduceAdd, Nat.zero_add, Nat.reduceBEq, Bool.or_false, Bool.or_true, Bool.false_eq_true, ↓reduceIte]
      rw [e140]
      go_wp2_with fail
      exact ⟨by trivial, Ext.refl _, rfl⟩
    · refine ExtStep.mk rfl fun vs W hx hd => ?_
      have e141 : vs 141 = (.pointer (some ⟨q, 0, none⟩)) := hd 1 (by kernel_rfl)
      clear hd
      simp only [fillA, fillL, dstL, List.take_succ_cons, List.take_zero, List.filterMap_cons, List.filterMap_nil, List.contains_cons, List.contains_nil, Nat.reduceAdd, Nat.zero_add, Nat.reduceBEq, Bool.or_false, Bool.or_true, Bool.false_eq_true, ↓reduceIte]
      rw [e141]
      go_wp2_with fail
      exact ⟨by trivial, Ext.refl _, rfl⟩
    · refine ExtStep.mk rfl fun vs W hx hd => ?_
      have e142 : vs 142 = (.pointer (some ⟨q, 3, none⟩)) := hd 2 (by kernel_rfl)
      clear hd
      simp only [fillA, fillL, dstL, List.take_succ_cons, List.take_zero, List.filterMap_cons, List.filterMap_nil, List.contains_cons, List.contains_nil, Nat.reduceAdd, Nat.zero_add, Nat.reduceBEq, Bool.or_false, Bool.or_true, Bool.false_eq_true, ↓reduceIte]
      rw [e142]
      have hk := (HN.out W hx).2.2
      go_wp2_with fail
      exact ⟨by trivial, Ext.refl _, rfl⟩
    · refine ExtStep.mk rfl fun vs W hx hd => ?_
      have e143 : vs 143 = kv := hd 3 (by kernel_rfl)
      clear hd
      simp only [fillA, fillL, dstL, List.take_succ_cons, List.take_zero, List.filterMap_cons, List.filterMap_nil, List.contains_cons, List.contains_nil, Nat.reduceAdd, Nat.zero_add, Nat.reduceBEq, Bool.or_false, Bool.or_true, Bool.false_eq_true, ↓reduceIte]
      rw [e143]
      have hi := HI0.out
      go_wp2_with fail
      exact ⟨by trivial, Ext.refl _, rfl⟩
    · refine ExtStep.mk rfl fun vs W hx hd => ?_
      have e144 : vs 144 = (.pointer (some (elt kv 0 1))) := hd 4 (by kernel_rfl)
      clear hd
      simp only [fillA, fillL, dstL, List.take_succ_cons, List.take_zero, List.filterMap_cons, List.filterMap_nil, List.contains_cons, List.contains_nil, Nat.reduceAdd, Nat.zero_add, Nat.reduceBEq, Bool.or_false, Bool.or_true, Bool.false_eq_true, ↓reduceIte]
      rw [e144]
      have hk := HU0.out W hx
      go_wp2_with fail
      exact ⟨by trivial, Ext.refl _, rfl⟩
    · refine ExtStep.mk rfl fun vs W hx hd => ?_
      clear hd
      simp only [fillA, fillL, dstL, List.take_succ_cons, List.take_zero, List.filterMap_cons, List.filterMap_nil, List.contains_cons, List.contains_nil, Nat.reduceAdd, Nat.zero_add, Nat.reduceBEq, Bool.or_false, Bool.or_true, Bool.false_eq_true, ↓reduceIte]
      go_wp2_with fail
      exact ⟨by trivial, Ext.refl _, rfl⟩
    · refine ExtStep.mk rfl fun vs W hx hd => ?_
      have e146 : vs 146 = (.pointer (some ⟨q, 0, none⟩)) := hd 6 (by kernel_rfl)
      clear hd
      simp only [fillA, fillL, dstL, List.take_succ_cons, List.take_zero, List.filterMap_cons, List.filterMap_nil, List.contains_cons, List.contains_nil, Nat.reduceAdd, Nat.zero_add, Nat.reduceBEq, Bool.or_false, Bool.or_true, Bool.false_eq_true, ↓reduceIte]
      rw [e146]
      go_wp2_with (go_at_call 70; refine (HLV.out W hx).mono ?_; rintro e w9 ⟨rfl, rfl⟩)
      exact ⟨by trivial, Ext.refl _, rfl⟩
    · refine ExtStep.mk rfl fun vs W hx hd => ?_
      have e145 : vs 145 = u0 := hd 5 (by kernel_rfl)
      have e147 : vs 147 = (.int .i64 2) := hd 7 (by kernel_rfl)
      clear hd
      simp only [fillA, fillL, dstL, List.take_succ_cons, List.take_zero, List.filterMap_cons, List.filterMap_nil, List.contains_cons, List.contains_nil, Nat.reduceAdd, Nat.zero_add, Nat.reduceBEq, Bool.or_false, Bool.or_true, Bool.false_eq_true, ↓reduceIte]
      rw [e145, e147]
      go_wp2_with (go_at_call 29; refine (show Calls Tryz.prog 29 #[u0, .int .i64 2] W (fun e w9 => e = .returned (.string ⟨(prT t0 2).toArray⟩) ∧ Ext W w9) from HC0.out W 2 hx (by decide)).mono ?_; rintro e w9 ⟨rfl, hx9⟩)
      exact ⟨by trivial, hx9, rfl⟩
    · refine ExtStep.mk rfl fun vs W hx hd => ?_
      clear hd
      simp only [fillA, fillL, dstL, List.take_succ_cons, List.take_zero, List.filterMap_cons, List.filterMap_nil, List.contains_cons, List.contains_nil, Nat.reduceAdd, Nat.zero_add, Nat.reduceBEq, Bool.or_false, Bool.or_true, Bool.false_eq_true, ↓reduceIte]
      go_wp2_with fail
      exact ⟨by trivial, Ext.refl _, rfl⟩
    · refine ExtStep.mk rfl fun vs W hx hd => ?_
      have e149 : vs 149 = (.pointer (some ⟨q, 0, none⟩)) := hd 9 (by kernel_rfl)
      clear hd
      simp only [fillA, fillL, dstL, List.take_succ_cons, List.take_zero, List.filterMap_cons, List.filterMap_nil, List.contains_cons, List.contains_nil, Nat.reduceAdd, Nat.zero_add, Nat.reduceBEq, Bool.or_false, Bool.or_true, Bool.false_eq_true, ↓reduceIte]
      rw [e149]
      go_wp2_with (go_at_call 69; refine (HSG.out W hx).mono ?_; rintro e w9 ⟨rfl, rfl⟩)
      exact ⟨by trivial, Ext.refl _, rfl⟩
    · refine ExtStep.mk rfl fun vs W hx hd => ?_
      have e148 : vs 148 = (.string ⟨(prT t0 2).toArray⟩) := hd 8 (by kernel_rfl)
      have e150 : vs 150 = (.string ⟨(signT 3).toArray⟩) := hd 10 (by kernel_rfl)
      clear hd
      simp only [fillA, fillL, dstL, List.take_succ_cons, List.take_zero, List.filterMap_cons, List.filterMap_nil, List.contains_cons, List.contains_nil, Nat.reduceAdd, Nat.zero_add, Nat.reduceBEq, Bool.or_false, Bool.or_true, Bool.false_eq_true, ↓reduceIte]
      rw [e148, e150]
      go_wp2_with fail
      exact ⟨by trivial, Ext.refl _, congrArg Value.string (by apply ByteArray.ext; simp)⟩
    · refine ExtStep.mk rfl fun vs W hx hd => ?_
      clear hd
      simp only [fillA, fillL, dstL, List.take_succ_cons, List.take_zero, List.filterMap_cons, List.filterMap_nil, List.contains_cons, List.contains_nil, Nat.reduceAdd, Nat.zero_add, Nat.reduceBEq, Bool.or_false, Bool.or_true, Bool.false_eq_true, ↓reduceIte]
      go_wp2_with fail
      exact ⟨by trivial, Ext.refl _, rfl⟩
    · refine ExtStep.mk rfl fun vs W hx hd => ?_
      have e152 : vs 152 = (.pointer (some ⟨q, 0, none⟩)) := hd 12 (by kernel_rfl)
      clear hd
      simp only [fillA, fillL, dstL, List.take_succ_cons, List.take_zero, List.filterMap_cons, List.filterMap_nil, List.contains_cons, List.contains_nil, Nat.reduceAdd, Nat.zero_add, Nat.reduceBEq, Bool.or_false, Bool.or_true, Bool.false_eq_true, ↓reduceIte]
      rw [e152]
      go_wp2_with fail
      exact ⟨by trivial, Ext.refl _, rfl⟩
    · refine ExtStep.mk rfl fun vs W hx hd => ?_
      have e153 : vs 153 = (.pointer (some ⟨q, 0, none⟩)) := hd 13 (by kernel_rfl)
      clear hd
      simp only [fillA, fillL, dstL, List.take_succ_cons, List.take_zero, List.filterMap_cons, List.filterMap_nil, List.contains_cons, List.contains_nil, Nat.reduceAdd, Nat.zero_add, Nat.reduceBEq, Bool.or_false, Bool.or_true, Bool.false_eq_true, ↓reduceIte]
      rw [e153]
      go_wp2_with fail
      exact ⟨by trivial, Ext.refl _, rfl⟩
    · refine ExtStep.mk rfl fun vs W hx hd => ?_
      have e154 : vs 154 = (.pointer (some ⟨q, 3, none⟩)) := hd 14 (by kernel_rfl)
      clear hd
      simp only [fillA, fillL, dstL, List.take_succ_cons, List.take_zero, List.filterMap_cons, List.filterMap_nil, List.contains_cons, List.contains_nil, Nat.reduceAdd, Nat.zero_add, Nat.reduceBEq, Bool.or_false, Bool.or_true, Bool.false_eq_true, ↓reduceIte]
      rw [e154]
      have hk := (HN.out W hx).2.2
      go_wp2_with fail
      exact ⟨by trivial, Ext.refl _, rfl⟩
    · refine ExtStep.mk rfl fun vs W hx hd => ?_
      have e155 : vs 155 = kv := hd 15 (by kernel_rfl)
      clear hd
      simp only [fillA, fillL, dstL, List.take_succ_cons, List.take_zero, List.filterMap_cons, List.filterMap_nil, List.contains_cons, List.contains_nil, Nat.reduceAdd, Nat.zero_add, Nat.reduceBEq, Bool.or_false, Bool.or_true, Bool.false_eq_true, ↓reduceIte]
      rw [e155]
      have hi := HI1.out
      go_wp2_with fail
      exact ⟨by trivial, Ext.refl _, rfl⟩
    · refine ExtStep.mk rfl fun vs W hx hd => ?_
      have e156 : vs 156 = (.pointer (some (elt kv 1 1))) := hd 16 (by kernel_rfl)
      clear hd
      simp only [fillA, fillL, dstL, List.take_succ_cons, List.take_zero, List.filterMap_cons, List.filterMap_nil, List.contains_cons, List.contains_nil, Nat.reduceAdd, Nat.zero_add, Nat.reduceBEq, Bool.or_false, Bool.or_true, Bool.false_eq_true, ↓reduceIte]
      rw [e156]
      have hk := HU1.out W hx
      go_wp2_with fail
      exact ⟨by trivial, Ext.refl _, rfl⟩
    · refine ExtStep.mk rfl fun vs W hx hd => ?_
      clear hd
      simp only [fillA, fillL, dstL, List.take_succ_cons, List.take_zero, List.filterMap_cons, List.filterMap_nil, List.contains_cons, List.contains_nil, Nat.reduceAdd, Nat.zero_add, Nat.reduceBEq, Bool.or_false, Bool.or_true, Bool.false_eq_true, ↓reduceIte]
      go_wp2_with fail
      exact ⟨by trivial, Ext.refl _, rfl⟩
    · refine ExtStep.mk rfl fun vs W hx hd => ?_
      have e158 : vs 158 = (.pointer (some ⟨q, 0, none⟩)) := hd 18 (by kernel_rfl)
      clear hd
      simp only [fillA, fillL, dstL, List.take_succ_cons, List.take_zero, List.filterMap_cons, List.filterMap_nil, List.contains_cons, List.contains_nil, Nat.reduceAdd, Nat.zero_add, Nat.reduceBEq, Bool.or_false, Bool.or_true, Bool.false_eq_true, ↓reduceIte]
      rw [e158]
      go_wp2_with (go_at_call 70; refine (HLV.out W hx).mono ?_; rintro e w9 ⟨rfl, rfl⟩)
      exact ⟨by trivial, Ext.refl _, rfl⟩
    · refine ExtStep.mk rfl fun vs W hx hd => ?_
      have e159 : vs 159 = (.int .i64 2) := hd 19 (by kernel_rfl)
      clear hd
      simp only [fillA, fillL, dstL, List.take_succ_cons, List.take_zero, List.filterMap_cons, List.filterMap_nil, List.contains_cons, List.contains_nil, Nat.reduceAdd, Nat.zero_add, Nat.reduceBEq, Bool.or_false, Bool.or_true, Bool.false_eq_true, ↓reduceIte]
      rw [e159]
      go_wp2_with fail
      exact ⟨by trivial, Ext.refl _, rfl⟩
    · refine ExtStep.mk rfl fun vs W hx hd => ?_
      have e157 : vs 157 = u1 := hd 17 (by kernel_rfl)
      have e160 : vs 160 = (.int .i64 3) := hd 20 (by kernel_rfl)
      clear hd
      simp only [fillA, fillL, dstL, List.take_succ_cons, List.take_zero, List.filterMap_cons, List.filterMap_nil, List.contains_cons, List.contains_nil, Nat.reduceAdd, Nat.zero_add, Nat.reduceBEq, Bool.or_false, Bool.or_true, Bool.false_eq_true, ↓reduceIte]
      rw [e157, e160]
      go_wp2_with (go_at_call 29; refine (show Calls Tryz.prog 29 #[u1, .int .i64 3] W (fun e w9 => e = .returned (.string ⟨(prT t1 3).toArray⟩) ∧ Ext W w9) from HC1.out W 3 hx (by decide)).mono ?_; rintro e w9 ⟨rfl, hx9⟩)
      exact ⟨by trivial, hx9, rfl⟩
    · refine ExtStep.mk rfl fun vs W hx hd => ?_
      have e151 : vs 151 = (.string ⟨(prT t0 2 ++ signT 3).toArray⟩) := hd 11 (by kernel_rfl)
      have e161 : vs 161 = (.string ⟨(prT t1 3).toArray⟩) := hd 21 (by kernel_rfl)
      clear hd
      simp only [fillA, fillL, dstL, List.take_succ_cons, List.take_zero, List.filterMap_cons, List.filterMap_nil, List.contains_cons, List.contains_nil, Nat.reduceAdd, Nat.zero_add, Nat.reduceBEq, Bool.or_false, Bool.or_true, Bool.false_eq_true, ↓reduceIte]
      rw [e151, e161]
      go_wp2_with fail
      exact ⟨by trivial, Ext.refl _, congrArg Value.string (by apply ByteArray.ext; simp)⟩
  · intro vs w5 hx5 hall
    have e162 : vs 162 = (.string ⟨((prT t0 2 ++ signT 3) ++ prT t1 3).toArray⟩) := hall.at 22 (by omega) rfl
    have HX := Lib.hid hx5
    clear hall hx5
    simp only [fillA, fillL, dstL, List.take_succ_cons, List.take_zero, List.filterMap_cons, List.filterMap_nil, List.contains_cons, List.contains_nil, Nat.reduceAdd, Nat.zero_add, Nat.reduceBEq, Bool.or_false, Bool.or_true, Bool.false_eq_true, ↓reduceIte]
    rw [e162, hBody]
    have HB5 := Lib.hid (slevel_any (HB.out.ext HX.out) (by decide))
    have HL5 : Hid (Calls Tryz.prog 70 #[.pointer (some ⟨q, 0, none⟩)] w5 fun e w9 => e = .returned (.int .i64 2) ∧ w5 = w9) := HB5
    by_cases hl : 2 < least
    · have hd : decide ((2 : Int) < (least : Int)) = true := by rw [decide_eq_true_eq]; omega
      go_wp2_with (go_at_call 70; refine HL5.out.mono ?_; rintro e w9 ⟨rfl, rfl⟩)
      go_ret
      exact ⟨wrap_yes hl, HX.out⟩
    · have hd : decide ((2 : Int) < (least : Int)) = false := by rw [decide_eq_false_iff_not]; omega
      go_wp2_with (go_at_call 70; refine HL5.out.mono ?_; rintro e w9 ⟨rfl, rfl⟩)
      go_ret
      exact ⟨wrap_no hl, HX.out⟩
end
end Go.Proofs.YtejkepihicphlaaGreatDoor
