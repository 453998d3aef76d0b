/- A part as text, the program's side, on: contracts. Printed by wip/mktx.py. -/
import Derived.Test.YtejkepihicphlaaGreatDoorSsp
namespace Go.Proofs.YtejkepihicphlaaGreatDoor
open Go.RowKit Go.Att Go.Shelf
section
variable {w : World} {q p : Nat} {n : Int} {s : List UInt8} {kv : Value}
set_option maxRecDepth 100000 in
set_option maxHeartbeats 16000000 in
theorem tx_if {u0 u1 u2 : Value} {t0 t1 t2 : Tr} {least : Nat} {B : List UInt8} (h : BlkOf w q (pcells 10 n s kv p) 161) (hi0 : ∀ W : World, (Instr.indexAt 159 kv (.int .i64 0)).run Tryz.prog W = .ok (.pointer (some (elt kv 0 1))) W) (hu0 : ∀ W : World, Ext w W → W.cell? (elt kv 0 1) = some u0) (hc0 : ∀ (W : World) (l : Nat), Ext w W → l ≤ 5 → Calls Tryz.prog 29 #[u0, .int .i64 l] W fun e w9 => e = .returned (.string ⟨(prT t0 l).toArray⟩) ∧ Ext W w9) (hi1 : ∀ W : World, (Instr.indexAt 159 kv (.int .i64 1)).run Tryz.prog W = .ok (.pointer (some (elt kv 1 1))) W) (hu1 : ∀ W : World, Ext w W → W.cell? (elt kv 1 1) = some u1) (hc1 : ∀ (W : World) (l : Nat), Ext w W → l ≤ 5 → Calls Tryz.prog 29 #[u1, .int .i64 l] W fun e w9 => e = .returned (.string ⟨(prT t1 l).toArray⟩) ∧ Ext W w9) (hi2 : ∀ W : World, (Instr.indexAt 159 kv (.int .i64 2)).run Tryz.prog W = .ok (.pointer (some (elt kv 2 1))) W) (hu2 : ∀ W : World, Ext w W → W.cell? (elt kv 2 1) = some u2) (hc2 : ∀ (W : World) (l : Nat), Ext w W → l ≤ 5 → Calls Tryz.prog 29 #[u2, .int .i64 l] W fun e w9 => e = .returned (.string ⟨(prT t2 l).toArray⟩) ∧ Ext W w9) (_hs : s.length ≤ 16) (b00 : (prT t0 0).length ≤ 1000000) (b10 : (prT t1 0).length ≤ 1000000) (b20 : (prT t2 0).length ≤ 1000000) (hBody : (((([105, 102, 32] ++ prT t0 0) ++ [32, 116, 104, 101, 110, 32]) ++ prT t1 0) ++ [32, 101, 108, 115, 101, 32]) ++ prT t2 0 = B) (hBL : B.length ≤ 10000000) :
    Calls Tryz.prog 29 #[.pointer (some ⟨q, 0, none⟩), .int .i64 least] w fun e w9 => e = .returned (.string ⟨(wrapT 0 least B).toArray⟩) ∧ Ext w w9 := by
  have HN : Hid (∀ W, Ext w W → W.cell? ⟨q, 0, none⟩ = some (.int .i64 10) ∧ W.cell? ⟨q, 2, none⟩ = some (.string ⟨s.toArray⟩) ∧ W.cell? ⟨q, 3, none⟩ = some kv) := Lib.hid (fun W hx => ⟨(h.ext hx).cell 0, (h.ext hx).cell 2, (h.ext hx).cell 3⟩)
  have HLV : Hid (∀ W, Ext w W → Calls Tryz.prog 70 #[.pointer (some ⟨q, 0, none⟩)] W fun e w9 => e = .returned (.int .i64 0) ∧ W = w9) := Lib.hid (fun W hx => slevel_any (h.ext hx) (by decide))
  have HSG : Hid (∀ W, Ext w W → Calls Tryz.prog 69 #[.pointer (some ⟨q, 0, none⟩)] W fun e w9 => e = .returned (.string ⟨(signT 10).toArray⟩) ∧ W = w9) := Lib.hid (fun W hx => ssigns_any (h.ext hx) (by decide))
  have HB := Lib.hid h
  have hsl : (signT 10).length ≤ 4 := by decide
  have HI0 := Lib.hid hi0; have HU0 := Lib.hid hu0; have HC0 := Lib.hid hc0
  have HI1 := Lib.hid hi1; have HU1 := Lib.hid hu1; have HC1 := Lib.hid hc1
  have HI2 := Lib.hid hi2; have HU2 := Lib.hid hu2; have HC2 := Lib.hid hc2
  clear h hi0 hu0 hc0 hi1 hu1 hc1 hi2 hu2 hc2
  obtain ⟨k0, k2, k3⟩ := HN.out w (Ext.refl w)
  go_enter Tryz.func29, Tryz.ntmps29
  go_upto_region 12 with fail
  refine wp_region_ext 26 [SP.eq (.pointer (some ⟨q, 0, none⟩)), SP.eq (.pointer (some ⟨q, 0, none⟩)), SP.eq (.pointer (some ⟨q, 3, none⟩)), SP.eq kv, SP.eq (.pointer (some (elt kv 0 1))), SP.eq u0, SP.eq (.string ⟨(prT t0 0).toArray⟩), SP.eq (.string ⟨([105, 102, 32] ++ prT t0 0).toArray⟩), SP.eq (.string ⟨(([105, 102, 32] ++ prT t0 0) ++ [32, 116, 104, 101, 110, 32]).toArray⟩), SP.eq (.pointer (some ⟨q, 0, none⟩)), SP.eq (.pointer (some ⟨q, 0, none⟩)), SP.eq (.pointer (some ⟨q, 3, none⟩)), SP.eq kv, SP.eq (.pointer (some (elt kv 1 1))), SP.eq u1, SP.eq (.string ⟨(prT t1 0).toArray⟩), SP.eq (.string ⟨((([105, 102, 32] ++ prT t0 0) ++ [32, 116, 104, 101, 110, 32]) ++ prT t1 0).toArray⟩), SP.eq (.string ⟨(((([105, 102, 32] ++ prT t0 0) ++ [32, 116, 104, 101, 110, 32]) ++ prT t1 0) ++ [32, 101, 108, 115, 101, 32]).toArray⟩), SP.eq (.pointer (some ⟨q, 0, none⟩)), SP.eq (.pointer (some ⟨q, 0, none⟩)), SP.eq (.pointer (some ⟨q, 3, none⟩)), SP.eq kv, SP.eq (.pointer (some (elt kv 2 1))), SP.eq u2, SP.eq (.string ⟨(prT t2 0).toArray⟩), SP.eq (.string ⟨((((([105, 102, 32] ++ prT t0 0) ++ [32, 116, 104, 101, 110, 32]) ++ prT t1 0) ++ [32, 101, 108, 115, 101, 32]) ++ prT t2 0).toArray⟩)] (by kernel_rfl) (by kernel_rfl) (by kernel_rfl) ?_ ?_
  · refine ⟨?_, ?_, ?_, ?_, ?_, ?_, ?_, ?_, ?_, ?_, ?_, ?_, ?_, ?_, ?_, ?_, ?_, ?_, ?_, ?_, ?_, ?_, ?_, ?_, ?_, ?_, trivial⟩
    · refine ExtStep.mk rfl fun vs W hx hd => ?_
      clear hd
      simp only [fillA, fillL, dstL, List.take_succ_cons, List.take_zero, List.filterMap_cons, List.filterMap_nil, List.contains_cons, List.contains_nil, Nat.reduceAdd, Nat.zero_add, Nat.reduceBEq, Bool.or_false, Bool.or_true, Bool.false_eq_true, ↓reduceIte]
      go_wp2_with fail
      exact ⟨by trivial, Ext.refl _, rfl⟩
    · refine ExtStep.mk rfl fun vs W hx hd => ?_
      have e89 : vs 89 = (.pointer (some ⟨q, 0, none⟩)) := hd 0 (by kernel_rfl)
      clear hd
      simp only [fillA, fillL, dstL, List.take_succ_cons, List.take_zero, List.filterMap_cons, List.filterMap_nil, List.contains_cons, List.contains_nil, Nat.reduceAdd, Nat.zero_add, Nat.reduceBEq, Bool.or_false, Bool.or_true, Bool.false_eq_true, ↓reduceIte]
      rw [e89]
      go_wp2_with fail
      exact ⟨by trivial, Ext.refl _, rfl⟩
    · refine ExtStep.mk rfl fun vs W hx hd => ?_
      have e90 : vs 90 = (.pointer (some ⟨q, 0, none⟩)) := hd 1 (by kernel_rfl)
      clear hd
      simp only [fillA, fillL, dstL, List.take_succ_cons, List.take_zero, List.filterMap_cons, List.filterMap_nil, List.contains_cons, List.contains_nil, Nat.reduceAdd, Nat.zero_add, Nat.reduceBEq, Bool.or_false, Bool.or_true, Bool.false_eq_true, ↓reduceIte]
      rw [e90]
      go_wp2_with fail
      exact ⟨by trivial, Ext.refl _, rfl⟩
    · refine ExtStep.mk rfl fun vs W hx hd => ?_
      have e91 : vs 91 = (.pointer (some ⟨q, 3, none⟩)) := hd 2 (by kernel_rfl)
      clear hd
      simp only [fillA, fillL, dstL, List.take_succ_cons, List.take_zero, List.filterMap_cons, List.filterMap_nil, List.contains_cons, List.contains_nil, Nat.reduceAdd, Nat.zero_add, Nat.reduceBEq, Bool.or_false, Bool.or_true, Bool.false_eq_true, ↓reduceIte]
      rw [e91]
      have hk := (HN.out W hx).2.2
      go_wp2_with fail
      exact ⟨by trivial, Ext.refl _, rfl⟩
    · refine ExtStep.mk rfl fun vs W hx hd => ?_
      have e92 : vs 92 = kv := hd 3 (by kernel_rfl)
      clear hd
      simp only [fillA, fillL, dstL, List.take_succ_cons, List.take_zero, List.filterMap_cons, List.filterMap_nil, List.contains_cons, List.contains_nil, Nat.reduceAdd, Nat.zero_add, Nat.reduceBEq, Bool.or_false, Bool.or_true, Bool.false_eq_true, ↓reduceIte]
      rw [e92]
      have hi := HI0.out
      go_wp2_with fail
      exact ⟨by trivial, Ext.refl _, rfl⟩
    · refine ExtStep.mk rfl fun vs W hx hd => ?_
      have e93 : vs 93 = (.pointer (some (elt kv 0 1))) := hd 4 (by kernel_rfl)
      clear hd
      simp only [fillA, fillL, dstL, List.take_succ_cons, List.take_zero, List.filterMap_cons, List.filterMap_nil, List.contains_cons, List.contains_nil, Nat.reduceAdd, Nat.zero_add, Nat.reduceBEq, Bool.or_false, Bool.or_true, Bool.false_eq_true, ↓reduceIte]
      rw [e93]
      have hk := HU0.out W hx
      go_wp2_with fail
      exact ⟨by trivial, Ext.refl _, rfl⟩
    · refine ExtStep.mk rfl fun vs W hx hd => ?_
      have e94 : vs 94 = u0 := hd 5 (by kernel_rfl)
      clear hd
      simp only [fillA, fillL, dstL, List.take_succ_cons, List.take_zero, List.filterMap_cons, List.filterMap_nil, List.contains_cons, List.contains_nil, Nat.reduceAdd, Nat.zero_add, Nat.reduceBEq, Bool.or_false, Bool.or_true, Bool.false_eq_true, ↓reduceIte]
      rw [e94]
      go_wp2_with (go_at_call 29; refine (show Calls Tryz.prog 29 #[u0, .int .i64 0] W (fun e w9 => e = .returned (.string ⟨(prT t0 0).toArray⟩) ∧ Ext W w9) from HC0.out W 0 hx (by decide)).mono ?_; rintro e w9 ⟨rfl, hx9⟩)
      exact ⟨by trivial, hx9, rfl⟩
    · refine ExtStep.mk rfl fun vs W hx hd => ?_
      have e95 : vs 95 = (.string ⟨(prT t0 0).toArray⟩) := hd 6 (by kernel_rfl)
      clear hd
      simp only [fillA, fillL, dstL, List.take_succ_cons, List.take_zero, List.filterMap_cons, List.filterMap_nil, List.contains_cons, List.contains_nil, Nat.reduceAdd, Nat.zero_add, Nat.reduceBEq, Bool.or_false, Bool.or_true, Bool.false_eq_true, ↓reduceIte]
      rw [e95]
      go_wp2_with fail
      exact ⟨by trivial, Ext.refl _, congrArg Value.string (by apply ByteArray.ext; simp)⟩
    · refine ExtStep.mk rfl fun vs W hx hd => ?_
      have e96 : vs 96 = (.string ⟨([105, 102, 32] ++ prT t0 0).toArray⟩) := hd 7 (by kernel_rfl)
      clear hd
      simp only [fillA, fillL, dstL, List.take_succ_cons, List.take_zero, List.filterMap_cons, List.filterMap_nil, List.contains_cons, List.contains_nil, Nat.reduceAdd, Nat.zero_add, Nat.reduceBEq, Bool.or_false, Bool.or_true, Bool.false_eq_true, ↓reduceIte]
      rw [e96]
      go_wp2_with fail
      exact ⟨by trivial, Ext.refl _, congrArg Value.string (by apply ByteArray.ext; simp)⟩
    · refine ExtStep.mk rfl fun vs W hx hd => ?_
      clear hd
      simp only [fillA, fillL, dstL, List.take_succ_cons, List.take_zero, List.filterMap_cons, List.filterMap_nil, List.contains_cons, List.contains_nil, Nat.reduceAdd, Nat.zero_add, Nat.reduceBEq, Bool.or_false, Bool.or_true, Bool.false_eq_true, ↓reduceIte]
      go_wp2_with fail
      exact ⟨by trivial, Ext.refl _, rfl⟩
    · refine ExtStep.mk rfl fun vs W hx hd => ?_
      have e98 : vs 98 = (.pointer (some ⟨q, 0, none⟩)) := hd 9 (by kernel_rfl)
      clear hd
      simp only [fillA, fillL, dstL, List.take_succ_cons, List.take_zero, List.filterMap_cons, List.filterMap_nil, List.contains_cons, List.contains_nil, Nat.reduceAdd, Nat.zero_add, Nat.reduceBEq, Bool.or_false, Bool.or_true, Bool.false_eq_true, ↓reduceIte]
      rw [e98]
      go_wp2_with fail
      exact ⟨by trivial, Ext.refl _, rfl⟩
    · refine ExtStep.mk rfl fun vs W hx hd => ?_
      have e99 : vs 99 = (.pointer (some ⟨q, 0, none⟩)) := hd 10 (by kernel_rfl)
      clear hd
      simp only [fillA, fillL, dstL, List.take_succ_cons, List.take_zero, List.filterMap_cons, List.filterMap_nil, List.contains_cons, List.contains_nil, Nat.reduceAdd, Nat.zero_add, Nat.reduceBEq, Bool.or_false, Bool.or_true, Bool.false_eq_true, ↓reduceIte]
      rw [e99]
      go_wp2_with fail
      exact ⟨by trivial, Ext.refl _, rfl⟩
    · refine ExtStep.mk rfl fun vs W hx hd => ?_
      have e100 : vs 100 = (.pointer (some ⟨q, 3, none⟩)) := hd 11 (by kernel_rfl)
      clear hd
      simp only [fillA, fillL, dstL, List.take_succ_cons, List.take_zero, List.filterMap_cons, List.filterMap_nil, List.contains_cons, List.contains_nil, Nat.reduceAdd, Nat.zero_add, Nat.reduceBEq, Bool.or_false, Bool.or_true, Bool.false_eq_true, ↓reduceIte]
      rw [e100]
      have hk := (HN.out W hx).2.2
      go_wp2_with fail
      exact ⟨by trivial, Ext.refl _, rfl⟩
    · refine ExtStep.mk rfl fun vs W hx hd => ?_
      have e101 : vs 101 = kv := hd 12 (by kernel_rfl)
      clear hd
      simp only [fillA, fillL, dstL, List.take_succ_cons, List.take_zero, List.filterMap_cons, List.filterMap_nil, List.contains_cons, List.contains_nil, Nat.reduceAdd, Nat.zero_add, Nat.reduceBEq, Bool.or_false, Bool.or_true, Bool.false_eq_true, ↓reduceIte]
      rw [e101]
      have hi := HI1.out
      go_wp2_with fail
      exact ⟨by trivial, Ext.refl _, rfl⟩
    · refine ExtStep.mk rfl fun vs W hx hd => ?_
      have e102 : vs 102 = (.pointer (some (elt kv 1 1))) := hd 13 (by kernel_rfl)
      clear hd
      simp only [fillA, fillL, dstL, List.take_succ_cons, List.take_zero, List.filterMap_cons, List.filterMap_nil, List.contains_cons, List.contains_nil, Nat.reduceAdd, Nat.zero_add, Nat.reduceBEq, Bool.or_false, Bool.or_true, Bool.false_eq_true, ↓reduceIte]
      rw [e102]
      have hk := HU1.out W hx
      go_wp2_with fail
      exact ⟨by trivial, Ext.refl _, rfl⟩
    · refine ExtStep.mk rfl fun vs W hx hd => ?_
      have e103 : vs 103 = u1 := hd 14 (by kernel_rfl)
      clear hd
      simp only [fillA, fillL, dstL, List.take_succ_cons, List.take_zero, List.filterMap_cons, List.filterMap_nil, List.contains_cons, List.contains_nil, Nat.reduceAdd, Nat.zero_add, Nat.reduceBEq, Bool.or_false, Bool.or_true, Bool.false_eq_true, ↓reduceIte]
      rw [e103]
      go_wp2_with (go_at_call 29; refine (show Calls Tryz.prog 29 #[u1, .int .i64 0] W (fun e w9 => e = .returned (.string ⟨(prT t1 0).toArray⟩) ∧ Ext W w9) from HC1.out W 0 hx (by decide)).mono ?_; rintro e w9 ⟨rfl, hx9⟩)
      exact ⟨by trivial, hx9, rfl⟩
    · refine ExtStep.mk rfl fun vs W hx hd => ?_
      have e97 : vs 97 = (.string ⟨(([105, 102, 32] ++ prT t0 0) ++ [32, 116, 104, 101, 110, 32]).toArray⟩) := hd 8 (by kernel_rfl)
      have e104 : vs 104 = (.string ⟨(prT t1 0).toArray⟩) := hd 15 (by kernel_rfl)
      clear hd
      simp only [fillA, fillL, dstL, List.take_succ_cons, List.take_zero, List.filterMap_cons, List.filterMap_nil, List.contains_cons, List.contains_nil, Nat.reduceAdd, Nat.zero_add, Nat.reduceBEq, Bool.or_false, Bool.or_true, Bool.false_eq_true, ↓reduceIte]
      rw [e97, e104]
      go_wp2_with fail
      exact ⟨by trivial, Ext.refl _, congrArg Value.string (by apply ByteArray.ext; simp)⟩
    · refine ExtStep.mk rfl fun vs W hx hd => ?_
      have e105 : vs 105 = (.string ⟨((([105, 102, 32] ++ prT t0 0) ++ [32, 116, 104, 101, 110, 32]) ++ prT t1 0).toArray⟩) := hd 16 (by kernel_rfl)
      clear hd
      simp only [fillA, fillL, dstL, List.take_succ_cons, List.take_zero, List.filterMap_cons, List.filterMap_nil, List.contains_cons, List.contains_nil, Nat.reduceAdd, Nat.zero_add, Nat.reduceBEq, Bool.or_false, Bool.or_true, Bool.false_eq_true, ↓reduceIte]
      rw [e105]
      go_wp2_with fail
      exact ⟨by trivial, Ext.refl _, congrArg Value.string (by apply ByteArray.ext; simp)⟩
    · refine ExtStep.mk rfl fun vs W hx hd => ?_
      clear hd
      simp only [fillA, fillL, dstL, List.take_succ_cons, List.take_zero, List.filterMap_cons, List.filterMap_nil, List.contains_cons, List.contains_nil, Nat.reduceAdd, Nat.zero_add, Nat.reduceBEq, Bool.or_false, Bool.or_true, Bool.false_eq_true, ↓reduceIte]
      go_wp2_with fail
      exact ⟨by trivial, Ext.refl _, rfl⟩
    · refine ExtStep.mk rfl fun vs W hx hd => ?_
      have e107 : vs 107 = (.pointer (some ⟨q, 0, none⟩)) := hd 18 (by kernel_rfl)
      clear hd
      simp only [fillA, fillL, dstL, List.take_succ_cons, List.take_zero, List.filterMap_cons, List.filterMap_nil, List.contains_cons, List.contains_nil, Nat.reduceAdd, Nat.zero_add, Nat.reduceBEq, Bool.or_false, Bool.or_true, Bool.false_eq_true, ↓reduceIte]
      rw [e107]
      go_wp2_with fail
      exact ⟨by trivial, Ext.refl _, rfl⟩
    · refine ExtStep.mk rfl fun vs W hx hd => ?_
      have e108 : vs 108 = (.pointer (some ⟨q, 0, none⟩)) := hd 19 (by kernel_rfl)
      clear hd
      simp only [fillA, fillL, dstL, List.take_succ_cons, List.take_zero, List.filterMap_cons, List.filterMap_nil, List.contains_cons, List.contains_nil, Nat.reduceAdd, Nat.zero_add, Nat.reduceBEq, Bool.or_false, Bool.or_true, Bool.false_eq_true, ↓reduceIte]
      rw [e108]
      go_wp2_with fail
      exact ⟨by trivial, Ext.refl _, rfl⟩
    · refine ExtStep.mk rfl fun vs W hx hd => ?_
      have e109 : vs 109 = (.pointer (some ⟨q, 3, none⟩)) := hd 20 (by kernel_rfl)
      clear hd
      simp only [fillA, fillL, dstL, List.take_succ_cons, List.take_zero, List.filterMap_cons, List.filterMap_nil, List.contains_cons, List.contains_nil, Nat.reduceAdd, Nat.zero_add, Nat.reduceBEq, Bool.or_false, Bool.or_true, Bool.false_eq_true, ↓reduceIte]
      rw [e109]
      have hk := (HN.out W hx).2.2
      go_wp2_with fail
      exact ⟨by trivial, Ext.refl _, rfl⟩
    · refine ExtStep.mk rfl fun vs W hx hd => ?_
      have e110 : vs 110 = kv := hd 21 (by kernel_rfl)
      clear hd
      simp only [fillA, fillL, dstL, List.take_succ_cons, List.take_zero, List.filterMap_cons, List.filterMap_nil, List.contains_cons, List.contains_nil, Nat.reduceAdd, Nat.zero_add, Nat.reduceBEq, Bool.or_false, Bool.or_true, Bool.false_eq_true, ↓reduceIte]
      rw [e110]
      have hi := HI2.out
      go_wp2_with fail
      exact ⟨by trivial, Ext.refl _, rfl⟩
    · refine ExtStep.mk rfl fun vs W hx hd => ?_
      have e111 : vs 111 = (.pointer (some (elt kv 2 1))) := hd 22 (by kernel_rfl)
      clear hd
      simp only [fillA, fillL, dstL, List.take_succ_cons, List.take_zero, List.filterMap_cons, List.filterMap_nil, List.contains_cons, List.contains_nil, Nat.reduceAdd, Nat.zero_add, Nat.reduceBEq, Bool.or_false, Bool.or_true, Bool.false_eq_true, ↓reduceIte]
      rw [e111]
      have hk := HU2.out W hx
      go_wp2_with fail
      exact ⟨by trivial, Ext.refl _, rfl⟩
    · refine ExtStep.mk rfl fun vs W hx hd => ?_
      have e112 : vs 112 = u2 := hd 23 (by kernel_rfl)
      clear hd
      simp only [fillA, fillL, dstL, List.take_succ_cons, List.take_zero, List.filterMap_cons, List.filterMap_nil, List.contains_cons, List.contains_nil, Nat.reduceAdd, Nat.zero_add, Nat.reduceBEq, Bool.or_false, Bool.or_true, Bool.false_eq_true, ↓reduceIte]
      rw [e112]
      go_wp2_with (go_at_call 29; refine (show Calls Tryz.prog 29 #[u2, .int .i64 0] W (fun e w9 => e = .returned (.string ⟨(prT t2 0).toArray⟩) ∧ Ext W w9) from HC2.out W 0 hx (by decide)).mono ?_; rintro e w9 ⟨rfl, hx9⟩)
      exact ⟨by trivial, hx9, rfl⟩
    · refine ExtStep.mk rfl fun vs W hx hd => ?_
      have e106 : vs 106 = (.string ⟨(((([105, 102, 32] ++ prT t0 0) ++ [32, 116, 104, 101, 110, 32]) ++ prT t1 0) ++ [32, 101, 108, 115, 101, 32]).toArray⟩) := hd 17 (by kernel_rfl)
      have e113 : vs 113 = (.string ⟨(prT t2 0).toArray⟩) := hd 24 (by kernel_rfl)
      clear hd
      simp only [fillA, fillL, dstL, List.take_succ_cons, List.take_zero, List.filterMap_cons, List.filterMap_nil, List.contains_cons, List.contains_nil, Nat.reduceAdd, Nat.zero_add, Nat.reduceBEq, Bool.or_false, Bool.or_true, Bool.false_eq_true, ↓reduceIte]
      rw [e106, e113]
      go_wp2_with fail
      exact ⟨by trivial, Ext.refl _, congrArg Value.string (by apply ByteArray.ext; simp)⟩
  · intro vs w5 hx5 hall
    have e114 : vs 114 = (.string ⟨((((([105, 102, 32] ++ prT t0 0) ++ [32, 116, 104, 101, 110, 32]) ++ prT t1 0) ++ [32, 101, 108, 115, 101, 32]) ++ prT t2 0).toArray⟩) := hall.at 25 (by omega) rfl
    have HX := Lib.hid hx5
    clear hall hx5
    simp only [fillA, fillL, dstL, List.take_succ_cons, List.take_zero, List.filterMap_cons, List.filterMap_nil, List.contains_cons, List.contains_nil, Nat.reduceAdd, Nat.zero_add, Nat.reduceBEq, Bool.or_false, Bool.or_true, Bool.false_eq_true, ↓reduceIte]
    rw [e114, hBody]
    have HB5 := Lib.hid (slevel_any (HB.out.ext HX.out) (by decide))
    have HL5 : Hid (Calls Tryz.prog 70 #[.pointer (some ⟨q, 0, none⟩)] w5 fun e w9 => e = .returned (.int .i64 0) ∧ w5 = w9) := HB5
    by_cases hl : 0 < least
    · have hd : decide ((0 : Int) < (least : Int)) = true := by rw [decide_eq_true_eq]; omega
      go_wp2_with (go_at_call 70; refine HL5.out.mono ?_; rintro e w9 ⟨rfl, rfl⟩)
      go_ret
      exact ⟨wrap_yes hl, HX.out⟩
    · have hd : decide ((0 : Int) < (least : Int)) = false := by rw [decide_eq_false_iff_not]; omega
      go_wp2_with (go_at_call 70; refine HL5.out.mono ?_; rintro e w9 ⟨rfl, rfl⟩)
      go_ret
      exact ⟨wrap_no hl, HX.out⟩
end
end Go.Proofs.YtejkepihicphlaaGreatDoor
