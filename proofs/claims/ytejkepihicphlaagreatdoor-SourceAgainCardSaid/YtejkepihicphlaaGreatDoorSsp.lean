/- A part as text, the program's side: parts with parts of their own: contracts. Printed by wip/mktx.py. -/
import Derived.Test.YtejkepihicphlaaGreatDoorSso
namespace Go.Att
theorem cat (a b : List UInt8) : (⟨a.toArray⟩ : ByteArray) ++ ⟨b.toArray⟩ = ⟨(a ++ b).toArray⟩ := by apply ByteArray.ext; simp
def wrapT (lv least : Nat) (b : List UInt8) : List UInt8 := if lv < least then [40] ++ b ++ [41] else b
theorem wrap_yes {lv least : Nat} {b : List UInt8} (h : lv < least) : Ending.returned (.string ((⟨#[40]⟩ : ByteArray) ++ ⟨b.toArray⟩ ++ ⟨#[41]⟩)) = .returned (.string ⟨(wrapT lv least b).toArray⟩) := by
  unfold wrapT
  rw [if_pos h]
  have h1 : (⟨#[40]⟩ : ByteArray) ++ ⟨b.toArray⟩ = ⟨([40] ++ b).toArray⟩ := cat [40] b
  have h2 : (⟨([40] ++ b).toArray⟩ : ByteArray) ++ ⟨#[41]⟩ = ⟨([40] ++ b ++ [41]).toArray⟩ := cat ([40] ++ b) [41]
  rw [h1, h2]
theorem wrap_no {lv least : Nat} {b : List UInt8} (h : ¬ lv < least) : Ending.returned (.string ⟨b.toArray⟩) = .returned (.string ⟨(wrapT lv least b).toArray⟩) := by unfold wrapT; rw [if_neg h]
end Go.Att
namespace Go.Proofs.YtejkepihicphlaaGreatDoor
open Go.RowKit Go.Att Go.Shelf
section
variable {w : World} {q p : Nat} {n : Int} {s : List UInt8} {kv : Value}
set_option maxRecDepth 100000 in
set_option maxHeartbeats 16000000 in
theorem tx_let {u0 u1 : Value} {t0 t1 : Tr} {least : Nat} {B : List UInt8} (h : BlkOf w q (pcells 8 n s kv p) 161) (hi0 : ∀ W : World, (Instr.indexAt 159 kv (.int .i64 0)).run Tryz.prog W = .ok (.pointer (some (elt kv 0 1))) W) (hu0 : ∀ W : World, Ext w W → W.cell? (elt kv 0 1) = some u0) (hc0 : ∀ (W : World) (l : Nat), Ext w W → l ≤ 5 → Calls Tryz.prog 29 #[u0, .int .i64 l] W fun e w9 => e = .returned (.string ⟨(prT t0 l).toArray⟩) ∧ Ext W w9) (hi1 : ∀ W : World, (Instr.indexAt 159 kv (.int .i64 1)).run Tryz.prog W = .ok (.pointer (some (elt kv 1 1))) W) (hu1 : ∀ W : World, Ext w W → W.cell? (elt kv 1 1) = some u1) (hc1 : ∀ (W : World) (l : Nat), Ext w W → l ≤ 5 → Calls Tryz.prog 29 #[u1, .int .i64 l] W fun e w9 => e = .returned (.string ⟨(prT t1 l).toArray⟩) ∧ Ext W w9) (hs : s.length ≤ 16) (b00 : (prT t0 0).length ≤ 1000000) (b10 : (prT t1 0).length ≤ 1000000) (hBody : (((([108, 101, 116, 32] ++ s) ++ [32, 61, 32]) ++ prT t0 0) ++ [59, 32]) ++ prT t1 0 = B) (hBL : B.length ≤ 10000000) :
    Calls Tryz.prog 29 #[.pointer (some ⟨q, 0, none⟩), .int .i64 least] w fun e w9 => e = .returned (.string ⟨(wrapT 0 least B).toArray⟩) ∧ Ext w w9 := by
  have HN : Hid (∀ W, Ext w W → W.cell? ⟨q, 0, none⟩ = some (.int .i64 8) ∧ W.cell? ⟨q, 2, none⟩ = some (.string ⟨s.toArray⟩) ∧ W.cell? ⟨q, 3, none⟩ = some kv) := Lib.hid (fun W hx => ⟨(h.ext hx).cell 0, (h.ext hx).cell 2, (h.ext hx).cell 3⟩)
  have HLV : Hid (∀ W, Ext w W → Calls Tryz.prog 70 #[.pointer (some ⟨q, 0, none⟩)] W fun e w9 => e = .returned (.int .i64 0) ∧ W = w9) := Lib.hid (fun W hx => slevel_any (h.ext hx) (by decide))
  have HSG : Hid (∀ W, Ext w W → Calls Tryz.prog 69 #[.pointer (some ⟨q, 0, none⟩)] W fun e w9 => e = .returned (.string ⟨(signT 8).toArray⟩) ∧ W = w9) := Lib.hid (fun W hx => ssigns_any (h.ext hx) (by decide))
  have HB := Lib.hid h
  have hsl : (signT 8).length ≤ 4 := by decide
  have HI0 := Lib.hid hi0; have HU0 := Lib.hid hu0; have HC0 := Lib.hid hc0
  have HI1 := Lib.hid hi1; have HU1 := Lib.hid hu1; have HC1 := Lib.hid hc1
  clear h hi0 hu0 hc0 hi1 hu1 hc1
  obtain ⟨k0, k2, k3⟩ := HN.out w (Ext.refl w)
  go_enter Tryz.func29, Tryz.ntmps29
  go_upto_region 8 with fail
  refine wp_region_ext 23 [SP.eq (.pointer (some ⟨q, 0, none⟩)), SP.eq (.pointer (some ⟨q, 0, none⟩)), SP.eq (.pointer (some ⟨q, 2, none⟩)), SP.eq (.string ⟨s.toArray⟩), SP.eq (.string ⟨([108, 101, 116, 32] ++ s).toArray⟩), SP.eq (.string ⟨(([108, 101, 116, 32] ++ s) ++ [32, 61, 32]).toArray⟩), SP.eq (.pointer (some ⟨q, 0, none⟩)), SP.eq (.pointer (some ⟨q, 0, none⟩)), SP.eq (.pointer (some ⟨q, 3, none⟩)), SP.eq kv, SP.eq (.pointer (some (elt kv 0 1))), SP.eq u0, SP.eq (.string ⟨(prT t0 0).toArray⟩), SP.eq (.string ⟨((([108, 101, 116, 32] ++ s) ++ [32, 61, 32]) ++ prT t0 0).toArray⟩), SP.eq (.string ⟨(((([108, 101, 116, 32] ++ s) ++ [32, 61, 32]) ++ prT t0 0) ++ [59, 32]).toArray⟩), SP.eq (.pointer (some ⟨q, 0, none⟩)), SP.eq (.pointer (some ⟨q, 0, none⟩)), SP.eq (.pointer (some ⟨q, 3, none⟩)), SP.eq kv, SP.eq (.pointer (some (elt kv 1 1))), SP.eq u1, SP.eq (.string ⟨(prT t1 0).toArray⟩), SP.eq (.string ⟨((((([108, 101, 116, 32] ++ s) ++ [32, 61, 32]) ++ prT t0 0) ++ [59, 32]) ++ prT t1 0).toArray⟩)] (by kernel_rfl) (by kernel_rfl) (by kernel_rfl) ?_ ?_
  · refine ⟨?_, ?_, ?_, ?_, ?_, ?_, ?_, ?_, ?_, ?_, ?_, ?_, ?_, ?_, ?_, ?_, ?_, ?_, ?_, ?_, ?_, ?_, ?_, trivial⟩
    · refine ExtStep.mk rfl fun vs W hx hd => ?_
      clear hd
      simp only [fillA, fillL, dstL, List.take_succ_cons, List.take_zero, List.filterMap_cons, List.filterMap_nil, List.contains_cons, List.contains_nil, Nat.reduceAdd, Nat.zero_add, Nat.reduceBEq, Bool.or_false, Bool.or_true, Bool.false_eq_true, ↓reduceIte]
      go_wp2_with fail
      exact ⟨by trivial, Ext.refl _, rfl⟩
    · refine ExtStep.mk rfl fun vs W hx hd => ?_
      have e36 : vs 36 = (.pointer (some ⟨q, 0, none⟩)) := hd 0 (by kernel_rfl)
      clear hd
      simp only [fillA, fillL, dstL, List.take_succ_cons, List.take_zero, List.filterMap_cons, List.filterMap_nil, List.contains_cons, List.contains_nil, Nat.reduceAdd, Nat.zero_add, Nat.reduceBEq, Bool.or_false, Bool.or_true, Bool.false_eq_true, ↓reduceIte]
      rw [e36]
      go_wp2_with fail
      exact ⟨by trivial, Ext.refl _, rfl⟩
    · refine ExtStep.mk rfl fun vs W hx hd => ?_
      have e37 : vs 37 = (.pointer (some ⟨q, 0, none⟩)) := hd 1 (by kernel_rfl)
      clear hd
      simp only [fillA, fillL, dstL, List.take_succ_cons, List.take_zero, List.filterMap_cons, List.filterMap_nil, List.contains_cons, List.contains_nil, Nat.reduceAdd, Nat.zero_add, Nat.reduceBEq, Bool.or_false, Bool.or_true, Bool.false_eq_true, ↓reduceIte]
      rw [e37]
      go_wp2_with fail
      exact ⟨by trivial, Ext.refl _, rfl⟩
    · refine ExtStep.mk rfl fun vs W hx hd => ?_
      have e38 : vs 38 = (.pointer (some ⟨q, 2, none⟩)) := hd 2 (by kernel_rfl)
      clear hd
      simp only [fillA, fillL, dstL, List.take_succ_cons, List.take_zero, List.filterMap_cons, List.filterMap_nil, List.contains_cons, List.contains_nil, Nat.reduceAdd, Nat.zero_add, Nat.reduceBEq, Bool.or_false, Bool.or_true, Bool.false_eq_true, ↓reduceIte]
      rw [e38]
      have hk := (HN.out W hx).2.1
      go_wp2_with fail
      exact ⟨by trivial, Ext.refl _, rfl⟩
    · refine ExtStep.mk rfl fun vs W hx hd => ?_
      have e39 : vs 39 = (.string ⟨s.toArray⟩) := hd 3 (by kernel_rfl)
      clear hd
      simp only [fillA, fillL, dstL, List.take_succ_cons, List.take_zero, List.filterMap_cons, List.filterMap_nil, List.contains_cons, List.contains_nil, Nat.reduceAdd, Nat.zero_add, Nat.reduceBEq, Bool.or_false, Bool.or_true, Bool.false_eq_true, ↓reduceIte]
      rw [e39]
      go_wp2_with fail
      exact ⟨by trivial, Ext.refl _, congrArg Value.string (by apply ByteArray.ext; simp)⟩
    · refine ExtStep.mk rfl fun vs W hx hd => ?_
      have e40 : vs 40 = (.string ⟨([108, 101, 116, 32] ++ s).toArray⟩) := hd 4 (by kernel_rfl)
      clear hd
      simp only [fillA, fillL, dstL, List.take_succ_cons, List.take_zero, List.filterMap_cons, List.filterMap_nil, List.contains_cons, List.contains_nil, Nat.reduceAdd, Nat.zero_add, Nat.reduceBEq, Bool.or_false, Bool.or_true, Bool.false_eq_true, ↓reduceIte]
      rw [e40]
      go_wp2_with fail
      exact ⟨by trivial, Ext.refl _, congrArg Value.string (by apply ByteArray.ext; simp)⟩
    · refine ExtStep.mk rfl fun vs W hx hd => ?_
      clear hd
      simp only [fillA, fillL, dstL, List.take_succ_cons, List.take_zero, List.filterMap_cons, List.filterMap_nil, List.contains_cons, List.contains_nil, Nat.reduceAdd, Nat.zero_add, Nat.reduceBEq, Bool.or_false, Bool.or_true, Bool.false_eq_true, ↓reduceIte]
      go_wp2_with fail
      exact ⟨by trivial, Ext.refl _, rfl⟩
    · refine ExtStep.mk rfl fun vs W hx hd => ?_
      have e42 : vs 42 = (.pointer (some ⟨q, 0, none⟩)) := hd 6 (by kernel_rfl)
      clear hd
      simp only [fillA, fillL, dstL, List.take_succ_cons, List.take_zero, List.filterMap_cons, List.filterMap_nil, List.contains_cons, List.contains_nil, Nat.reduceAdd, Nat.zero_add, Nat.reduceBEq, Bool.or_false, Bool.or_true, Bool.false_eq_true, ↓reduceIte]
      rw [e42]
      go_wp2_with fail
      exact ⟨by trivial, Ext.refl _, rfl⟩
    · refine ExtStep.mk rfl fun vs W hx hd => ?_
      have e43 : vs 43 = (.pointer (some ⟨q, 0, none⟩)) := hd 7 (by kernel_rfl)
      clear hd
      simp only [fillA, fillL, dstL, List.take_succ_cons, List.take_zero, List.filterMap_cons, List.filterMap_nil, List.contains_cons, List.contains_nil, Nat.reduceAdd, Nat.zero_add, Nat.reduceBEq, Bool.or_false, Bool.or_true, Bool.false_eq_true, ↓reduceIte]
      rw [e43]
      go_wp2_with fail
      exact ⟨by trivial, Ext.refl _, rfl⟩
    · refine ExtStep.mk rfl fun vs W hx hd => ?_
      have e44 : vs 44 = (.pointer (some ⟨q, 3, none⟩)) := hd 8 (by kernel_rfl)
      clear hd
      simp only [fillA, fillL, dstL, List.take_succ_cons, List.take_zero, List.filterMap_cons, List.filterMap_nil, List.contains_cons, List.contains_nil, Nat.reduceAdd, Nat.zero_add, Nat.reduceBEq, Bool.or_false, Bool.or_true, Bool.false_eq_true, ↓reduceIte]
      rw [e44]
      have hk := (HN.out W hx).2.2
      go_wp2_with fail
      exact ⟨by trivial, Ext.refl _, rfl⟩
    · refine ExtStep.mk rfl fun vs W hx hd => ?_
      have e45 : vs 45 = kv := hd 9 (by kernel_rfl)
      clear hd
      simp only [fillA, fillL, dstL, List.take_succ_cons, List.take_zero, List.filterMap_cons, List.filterMap_nil, List.contains_cons, List.contains_nil, Nat.reduceAdd, Nat.zero_add, Nat.reduceBEq, Bool.or_false, Bool.or_true, Bool.false_eq_true, ↓reduceIte]
      rw [e45]
      have hi := HI0.out
      go_wp2_with fail
      exact ⟨by trivial, Ext.refl _, rfl⟩
    · refine ExtStep.mk rfl fun vs W hx hd => ?_
      have e46 : vs 46 = (.pointer (some (elt kv 0 1))) := hd 10 (by kernel_rfl)
      clear hd
      simp only [fillA, fillL, dstL, List.take_succ_cons, List.take_zero, List.filterMap_cons, List.filterMap_nil, List.contains_cons, List.contains_nil, Nat.reduceAdd, Nat.zero_add, Nat.reduceBEq, Bool.or_false, Bool.or_true, Bool.false_eq_true, ↓reduceIte]
      rw [e46]
      have hk := HU0.out W hx
      go_wp2_with fail
      exact ⟨by trivial, Ext.refl _, rfl⟩
    · refine ExtStep.mk rfl fun vs W hx hd => ?_
      have e47 : vs 47 = u0 := hd 11 (by kernel_rfl)
      clear hd
      simp only [fillA, fillL, dstL, List.take_succ_cons, List.take_zero, List.filterMap_cons, List.filterMap_nil, List.contains_cons, List.contains_nil, Nat.reduceAdd, Nat.zero_add, Nat.reduceBEq, Bool.or_false, Bool.or_true, Bool.false_eq_true, ↓reduceIte]
      rw [e47]
      go_wp2_with (go_at_call 29; refine (show Calls Tryz.prog 29 #[u0, .int .i64 0] W (fun e w9 => e = .returned (.string ⟨(prT t0 0).toArray⟩) ∧ Ext W w9) from HC0.out W 0 hx (by decide)).mono ?_; rintro e w9 ⟨rfl, hx9⟩)
      exact ⟨by trivial, hx9, rfl⟩
    · refine ExtStep.mk rfl fun vs W hx hd => ?_
      have e41 : vs 41 = (.string ⟨(([108, 101, 116, 32] ++ s) ++ [32, 61, 32]).toArray⟩) := hd 5 (by kernel_rfl)
      have e48 : vs 48 = (.string ⟨(prT t0 0).toArray⟩) := hd 12 (by kernel_rfl)
      clear hd
      simp only [fillA, fillL, dstL, List.take_succ_cons, List.take_zero, List.filterMap_cons, List.filterMap_nil, List.contains_cons, List.contains_nil, Nat.reduceAdd, Nat.zero_add, Nat.reduceBEq, Bool.or_false, Bool.or_true, Bool.false_eq_true, ↓reduceIte]
      rw [e41, e48]
      go_wp2_with fail
      exact ⟨by trivial, Ext.refl _, congrArg Value.string (by apply ByteArray.ext; simp)⟩
    · refine ExtStep.mk rfl fun vs W hx hd => ?_
      have e49 : vs 49 = (.string ⟨((([108, 101, 116, 32] ++ s) ++ [32, 61, 32]) ++ prT t0 0).toArray⟩) := hd 13 (by kernel_rfl)
      clear hd
      simp only [fillA, fillL, dstL, List.take_succ_cons, List.take_zero, List.filterMap_cons, List.filterMap_nil, List.contains_cons, List.contains_nil, Nat.reduceAdd, Nat.zero_add, Nat.reduceBEq, Bool.or_false, Bool.or_true, Bool.false_eq_true, ↓reduceIte]
      rw [e49]
      go_wp2_with fail
      exact ⟨by trivial, Ext.refl _, congrArg Value.string (by apply ByteArray.ext; simp)⟩
    · refine ExtStep.mk rfl fun vs W hx hd => ?_
      clear hd
      simp only [fillA, fillL, dstL, List.take_succ_cons, List.take_zero, List.filterMap_cons, List.filterMap_nil, List.contains_cons, List.contains_nil, Nat.reduceAdd, Nat.zero_add, Nat.reduceBEq, Bool.or_false, Bool.or_true, Bool.false_eq_true, ↓reduceIte]
      go_wp2_with fail
      exact ⟨by trivial, Ext.refl _, rfl⟩
    · refine ExtStep.mk rfl fun vs W hx hd => ?_
      have e51 : vs 51 = (.pointer (some ⟨q, 0, none⟩)) := hd 15 (by kernel_rfl)
      clear hd
      simp only [fillA, fillL, dstL, List.take_succ_cons, List.take_zero, List.filterMap_cons, List.filterMap_nil, List.contains_cons, List.contains_nil, Nat.reduceAdd, Nat.zero_add, Nat.reduceBEq, Bool.or_false, Bool.or_true, Bool.false_eq_true, ↓reduceIte]
      rw [e51]
      go_wp2_with fail
      exact ⟨by trivial, Ext.refl _, rfl⟩
    · refine ExtStep.mk rfl fun vs W hx hd => ?_
      have e52 : vs 52 = (.pointer (some ⟨q, 0, none⟩)) := hd 16 (by kernel_rfl)
      clear hd
      simp only [fillA, fillL, dstL, List.take_succ_cons, List.take_zero, List.filterMap_cons, List.filterMap_nil, List.contains_cons, List.contains_nil, Nat.reduceAdd, Nat.zero_add, Nat.reduceBEq, Bool.or_false, Bool.or_true, Bool.false_eq_true, ↓reduceIte]
      rw [e52]
      go_wp2_with fail
      exact ⟨by trivial, Ext.refl _, rfl⟩
    · refine ExtStep.mk rfl fun vs W hx hd => ?_
      have e53 : vs 53 = (.pointer (some ⟨q, 3, none⟩)) := hd 17 (by kernel_rfl)
      clear hd
      simp only [fillA, fillL, dstL, List.take_succ_cons, List.take_zero, List.filterMap_cons, List.filterMap_nil, List.contains_cons, List.contains_nil, Nat.reduceAdd, Nat.zero_add, Nat.reduceBEq, Bool.or_false, Bool.or_true, Bool.false_eq_true, ↓reduceIte]
      rw [e53]
      have hk := (HN.out W hx).2.2
      go_wp2_with fail
      exact ⟨by trivial, Ext.refl _, rfl⟩
    · refine ExtStep.mk rfl fun vs W hx hd => ?_
      have e54 : vs 54 = kv := hd 18 (by kernel_rfl)
      clear hd
      simp only [fillA, fillL, dstL, List.take_succ_cons, List.take_zero, List.filterMap_cons, List.filterMap_nil, List.contains_cons, List.contains_nil, Nat.reduceAdd, Nat.zero_add, Nat.reduceBEq, Bool.or_false, Bool.or_true, Bool.false_eq_true, ↓reduceIte]
      rw [e54]
      have hi := HI1.out
      go_wp2_with fail
      exact ⟨by trivial, Ext.refl _, rfl⟩
    · refine ExtStep.mk rfl fun vs W hx hd => ?_
      have e55 : vs 55 = (.pointer (some (elt kv 1 1))) := hd 19 (by kernel_rfl)
      clear hd
      simp only [fillA, fillL, dstL, List.take_succ_cons, List.take_zero, List.filterMap_cons, List.filterMap_nil, List.contains_cons, List.contains_nil, Nat.reduceAdd, Nat.zero_add, Nat.reduceBEq, Bool.or_false, Bool.or_true, Bool.false_eq_true, ↓reduceIte]
      rw [e55]
      have hk := HU1.out W hx
      go_wp2_with fail
      exact ⟨by trivial, Ext.refl _, rfl⟩
    · refine ExtStep.mk rfl fun vs W hx hd => ?_
      have e56 : vs 56 = u1 := hd 20 (by kernel_rfl)
      clear hd
      simp only [fillA, fillL, dstL, List.take_succ_cons, List.take_zero, List.filterMap_cons, List.filterMap_nil, List.contains_cons, List.contains_nil, Nat.reduceAdd, Nat.zero_add, Nat.reduceBEq, Bool.or_false, Bool.or_true, Bool.false_eq_true, ↓reduceIte]
      rw [e56]
      go_wp2_with (go_at_call 29; refine (show Calls Tryz.prog 29 #[u1, .int .i64 0] W (fun e w9 => e = .returned (.string ⟨(prT t1 0).toArray⟩) ∧ Ext W w9) from HC1.out W 0 hx (by decide)).mono ?_; rintro e w9 ⟨rfl, hx9⟩)
      exact ⟨by trivial, hx9, rfl⟩
    · refine ExtStep.mk rfl fun vs W hx hd => ?_
      have e50 : vs 50 = (.string ⟨(((([108, 101, 116, 32] ++ s) ++ [32, 61, 32]) ++ prT t0 0) ++ [59, 32]).toArray⟩) := hd 14 (by kernel_rfl)
      have e57 : vs 57 = (.string ⟨(prT t1 0).toArray⟩) := hd 21 (by kernel_rfl)
      clear hd
      simp only [fillA, fillL, dstL, List.take_succ_cons, List.take_zero, List.filterMap_cons, List.filterMap_nil, List.contains_cons, List.contains_nil, Nat.reduceAdd, Nat.zero_add, Nat.reduceBEq, Bool.or_false, Bool.or_true, Bool.false_eq_true, ↓reduceIte]
      rw [e50, e57]
      go_wp2_with fail
      exact ⟨by trivial, Ext.refl _, congrArg Value.string (by apply ByteArray.ext; simp)⟩
  · intro vs w5 hx5 hall
    have e58 : vs 58 = (.string ⟨((((([108, 101, 116, 32] ++ s) ++ [32, 61, 32]) ++ prT t0 0) ++ [59, 32]) ++ prT t1 0).toArray⟩) := hall.at 22 (by omega) rfl
    have HX := Lib.hid hx5
    clear hall hx5
    simp only [fillA, fillL, dstL, List.take_succ_cons, List.take_zero, List.filterMap_cons, List.filterMap_nil, List.contains_cons, List.contains_nil, Nat.reduceAdd, Nat.zero_add, Nat.reduceBEq, Bool.or_false, Bool.or_true, Bool.false_eq_true, ↓reduceIte]
    rw [e58, hBody]
    have HB5 := Lib.hid (slevel_any (HB.out.ext HX.out) (by decide))
    have HL5 : Hid (Calls Tryz.prog 70 #[.pointer (some ⟨q, 0, none⟩)] w5 fun e w9 => e = .returned (.int .i64 0) ∧ w5 = w9) := HB5
    by_cases hl : 0 < least
    · have hd : decide ((0 : Int) < (least : Int)) = true := by rw [decide_eq_true_eq]; omega
      go_wp2_with (go_at_call 70; refine HL5.out.mono ?_; rintro e w9 ⟨rfl, rfl⟩)
      go_ret
      exact ⟨wrap_yes hl, HX.out⟩
    · have hd : decide ((0 : Int) < (least : Int)) = false := by rw [decide_eq_false_iff_not]; omega
      go_wp2_with (go_at_call 70; refine HL5.out.mono ?_; rintro e w9 ⟨rfl, rfl⟩)
      go_ret
      exact ⟨wrap_no hl, HX.out⟩
set_option maxRecDepth 100000 in
set_option maxHeartbeats 16000000 in
theorem tx_same {u0 u1 : Value} {t0 t1 : Tr} {least : Nat} {B : List UInt8} (h : BlkOf w q (pcells 6 n s kv p) 161) (hi0 : ∀ W : World, (Instr.indexAt 159 kv (.int .i64 0)).run Tryz.prog W = .ok (.pointer (some (elt kv 0 1))) W) (hu0 : ∀ W : World, Ext w W → W.cell? (elt kv 0 1) = some u0) (hc0 : ∀ (W : World) (l : Nat), Ext w W → l ≤ 5 → Calls Tryz.prog 29 #[u0, .int .i64 l] W fun e w9 => e = .returned (.string ⟨(prT t0 l).toArray⟩) ∧ Ext W w9) (hi1 : ∀ W : World, (Instr.indexAt 159 kv (.int .i64 1)).run Tryz.prog W = .ok (.pointer (some (elt kv 1 1))) W) (hu1 : ∀ W : World, Ext w W → W.cell? (elt kv 1 1) = some u1) (hc1 : ∀ (W : World) (l : Nat), Ext w W → l ≤ 5 → Calls Tryz.prog 29 #[u1, .int .i64 l] W fun e w9 => e = .returned (.string ⟨(prT t1 l).toArray⟩) ∧ Ext W w9) (_hs : s.length ≤ 16) (b02 : (prT t0 2).length ≤ 1000000) (b12 : (prT t1 2).length ≤ 1000000) (hBody : (prT t0 2 ++ signT 6) ++ prT t1 2 = B) (hBL : B.length ≤ 10000000) :
    Calls Tryz.prog 29 #[.pointer (some ⟨q, 0, none⟩), .int .i64 least] w fun e w9 => e = .returned (.string ⟨(wrapT 1 least B).toArray⟩) ∧ Ext w w9 := by
  have HN : Hid (∀ W, Ext w W → W.cell? ⟨q, 0, none⟩ = some (.int .i64 6) ∧ W.cell? ⟨q, 2, none⟩ = some (.string ⟨s.toArray⟩) ∧ W.cell? ⟨q, 3, none⟩ = some kv) := Lib.hid (fun W hx => ⟨(h.ext hx).cell 0, (h.ext hx).cell 2, (h.ext hx).cell 3⟩)
  have HLV : Hid (∀ W, Ext w W → Calls Tryz.prog 70 #[.pointer (some ⟨q, 0, none⟩)] W fun e w9 => e = .returned (.int .i64 1) ∧ W = w9) := Lib.hid (fun W hx => slevel_any (h.ext hx) (by decide))
  have HSG : Hid (∀ W, Ext w W → Calls Tryz.prog 69 #[.pointer (some ⟨q, 0, none⟩)] W fun e w9 => e = .returned (.string ⟨(signT 6).toArray⟩) ∧ W = w9) := Lib.hid (fun W hx => ssigns_any (h.ext hx) (by decide))
  have HB := Lib.hid h
  have hsl : (signT 6).length ≤ 4 := by decide
  have HI0 := Lib.hid hi0; have HU0 := Lib.hid hu0; have HC0 := Lib.hid hc0
  have HI1 := Lib.hid hi1; have HU1 := Lib.hid hu1; have HC1 := Lib.hid hc1
  clear h hi0 hu0 hc0 hi1 hu1 hc1
  obtain ⟨k0, k2, k3⟩ := HN.out w (Ext.refl w)
  go_enter Tryz.func29, Tryz.ntmps29
  go_upto_region 14 with fail
  refine wp_region_ext 18 [SP.eq (.pointer (some ⟨q, 0, none⟩)), SP.eq (.pointer (some ⟨q, 0, none⟩)), SP.eq (.pointer (some ⟨q, 3, none⟩)), SP.eq kv, SP.eq (.pointer (some (elt kv 0 1))), SP.eq u0, SP.eq (.string ⟨(prT t0 2).toArray⟩), SP.eq (.pointer (some ⟨q, 0, none⟩)), SP.eq (.string ⟨(signT 6).toArray⟩), SP.eq (.string ⟨(prT t0 2 ++ signT 6).toArray⟩), SP.eq (.pointer (some ⟨q, 0, none⟩)), SP.eq (.pointer (some ⟨q, 0, none⟩)), SP.eq (.pointer (some ⟨q, 3, none⟩)), SP.eq kv, SP.eq (.pointer (some (elt kv 1 1))), SP.eq u1, SP.eq (.string ⟨(prT t1 2).toArray⟩), SP.eq (.string ⟨((prT t0 2 ++ signT 6) ++ prT t1 2).toArray⟩)] (by kernel_rfl) (by kernel_rfl) (by kernel_rfl) ?_ ?_
  · refine ⟨?_, ?_, ?_, ?_, ?_, ?_, ?_, ?_, ?_, ?_, ?_, ?_, ?_, ?_, ?_, ?_, ?_, ?_, trivial⟩
    · refine ExtStep.mk rfl fun vs W hx hd => ?_
      clear hd
      simp only [fillA, fillL, dstL, List.take_succ_cons, List.take_zero, List.filterMap_cons, List.filterMap_nil, List.contains_cons, List.contains_nil, Nat.reduceAdd, Nat.zero_add, Nat.reduceBEq, Bool.or_false, Bool.or_true, Bool.false_eq_true, ↓reduceIte]
      go_wp2_with fail
      exact ⟨by trivial, Ext.refl _, rfl⟩
    · refine ExtStep.mk rfl fun vs W hx hd => ?_
      have e117 : vs 117 = (.pointer (some ⟨q, 0, none⟩)) := hd 0 (by kernel_rfl)
      clear hd
      simp only [fillA, fillL, dstL, List.take_succ_cons, List.take_zero, List.filterMap_cons, List.filterMap_nil, List.contains_cons, List.contains_nil, Nat.reduceAdd, Nat.zero_add, Nat.reduceBEq, Bool.or_false, Bool.or_true, Bool.false_eq_true, ↓reduceIte]
      rw [e117]
      go_wp2_with fail
      exact ⟨by trivial, Ext.refl _, rfl⟩
    · refine ExtStep.mk rfl fun vs W hx hd => ?_
      have e118 : vs 118 = (.pointer (some ⟨q, 0, none⟩)) := hd 1 (by kernel_rfl)
      clear hd
      simp only [fillA, fillL, dstL, List.take_succ_cons, List.take_zero, List.filterMap_cons, List.filterMap_nil, List.contains_cons, List.contains_nil, Nat.reduceAdd, Nat.zero_add, Nat.reduceBEq, Bool.or_false, Bool.or_true, Bool.false_eq_true, ↓reduceIte]
      rw [e118]
      go_wp2_with fail
      exact ⟨by trivial, Ext.refl _, rfl⟩
    · refine ExtStep.mk rfl fun vs W hx hd => ?_
      have e119 : vs 119 = (.pointer (some ⟨q, 3, none⟩)) := hd 2 (by kernel_rfl)
      clear hd
      simp only [fillA, fillL, dstL, List.take_succ_cons, List.take_zero, List.filterMap_cons, List.filterMap_nil, List.contains_cons, List.contains_nil, Nat.reduceAdd, Nat.zero_add, Nat.reduceBEq, Bool.or_false, Bool.or_true, Bool.false_eq_true, ↓reduceIte]
      rw [e119]
      have hk := (HN.out W hx).2.2
      go_wp2_with fail
      exact ⟨by trivial, Ext.refl _, rfl⟩
    · refine ExtStep.mk rfl fun vs W hx hd => ?_
      have e120 : vs 120 = kv := hd 3 (by kernel_rfl)
      clear hd
      simp only [fillA, fillL, dstL, List.take_succ_cons, List.take_zero, List.filterMap_cons, List.filterMap_nil, List.contains_cons, List.contains_nil, Nat.reduceAdd, Nat.zero_add, Nat.reduceBEq, Bool.or_false, Bool.or_true, Bool.false_eq_true, ↓reduceIte]
      rw [e120]
      have hi := HI0.out
      go_wp2_with fail
      exact ⟨by trivial, Ext.refl _, rfl⟩
    · refine ExtStep.mk rfl fun vs W hx hd => ?_
      have e121 : vs 121 = (.pointer (some (elt kv 0 1))) := hd 4 (by kernel_rfl)
      clear hd
      simp only [fillA, fillL, dstL, List.take_succ_cons, List.take_zero, List.filterMap_cons, List.filterMap_nil, List.contains_cons, List.contains_nil, Nat.reduceAdd, Nat.zero_add, Nat.reduceBEq, Bool.or_false, Bool.or_true, Bool.false_eq_true, ↓reduceIte]
      rw [e121]
      have hk := HU0.out W hx
      go_wp2_with fail
      exact ⟨by trivial, Ext.refl _, rfl⟩
    · refine ExtStep.mk rfl fun vs W hx hd => ?_
      have e122 : vs 122 = u0 := hd 5 (by kernel_rfl)
      clear hd
      simp only [fillA, fillL, dstL, List.take_succ_cons, List.take_zero, List.filterMap_cons, List.filterMap_nil, List.contains_cons, List.contains_nil, Nat.reduceAdd, Nat.zero_add, Nat.reduceBEq, Bool.or_false, Bool.or_true, Bool.false_eq_true, ↓reduceIte]
      rw [e122]
      go_wp2_with (go_at_call 29; refine (show Calls Tryz.prog 29 #[u0, .int .i64 2] W (fun e w9 => e = .returned (.string ⟨(prT t0 2).toArray⟩) ∧ Ext W w9) from HC0.out W 2 hx (by decide)).mono ?_; rintro e w9 ⟨rfl, hx9⟩)
      exact ⟨by trivial, hx9, rfl⟩
    · refine ExtStep.mk rfl fun vs W hx hd => ?_
      clear hd
      simp only [fillA, fillL, dstL, List.take_succ_cons, List.take_zero, List.filterMap_cons, List.filterMap_nil, List.contains_cons, List.contains_nil, Nat.reduceAdd, Nat.zero_add, Nat.reduceBEq, Bool.or_false, Bool.or_true, Bool.false_eq_true, ↓reduceIte]
      go_wp2_with fail
      exact ⟨by trivial, Ext.refl _, rfl⟩
    · refine ExtStep.mk rfl fun vs W hx hd => ?_
      have e124 : vs 124 = (.pointer (some ⟨q, 0, none⟩)) := hd 7 (by kernel_rfl)
      clear hd
      simp only [fillA, fillL, dstL, List.take_succ_cons, List.take_zero, List.filterMap_cons, List.filterMap_nil, List.contains_cons, List.contains_nil, Nat.reduceAdd, Nat.zero_add, Nat.reduceBEq, Bool.or_false, Bool.or_true, Bool.false_eq_true, ↓reduceIte]
      rw [e124]
      go_wp2_with (go_at_call 69; refine (HSG.out W hx).mono ?_; rintro e w9 ⟨rfl, rfl⟩)
      exact ⟨by trivial, Ext.refl _, rfl⟩
    · refine ExtStep.mk rfl fun vs W hx hd => ?_
      have e123 : vs 123 = (.string ⟨(prT t0 2).toArray⟩) := hd 6 (by kernel_rfl)
      have e125 : vs 125 = (.string ⟨(signT 6).toArray⟩) := hd 8 (by kernel_rfl)
      clear hd
      simp only [fillA, fillL, dstL, List.take_succ_cons, List.take_zero, List.filterMap_cons, List.filterMap_nil, List.contains_cons, List.contains_nil, Nat.reduceAdd, Nat.zero_add, Nat.reduceBEq, Bool.or_false, Bool.or_true, Bool.false_eq_true, ↓reduceIte]
      rw [e123, e125]
      go_wp2_with fail
      exact ⟨by trivial, Ext.refl _, congrArg Value.string (by apply ByteArray.ext; simp)⟩
    · refine ExtStep.mk rfl fun vs W hx hd => ?_
      clear hd
      simp only [fillA, fillL, dstL, List.take_succ_cons, List.take_zero, List.filterMap_cons, List.filterMap_nil, List.contains_cons, List.contains_nil, Nat.reduceAdd, Nat.zero_add, Nat.reduceBEq, Bool.or_false, Bool.or_true, Bool.false_eq_true, ↓reduceIte]
      go_wp2_with fail
      exact ⟨by trivial, Ext.refl _, rfl⟩
    · refine ExtStep.mk rfl fun vs W hx hd => ?_
      have e127 : vs 127 = (.pointer (some ⟨q, 0, none⟩)) := hd 10 (by kernel_rfl)
      clear hd
      simp only [fillA, fillL, dstL, List.take_succ_cons, List.take_zero, List.filterMap_cons, List.filterMap_nil, List.contains_cons, List.contains_nil, Nat.reduceAdd, Nat.zero_add, Nat.reduceBEq, Bool.or_false, Bool.or_true, Bool.false_eq_true, ↓reduceIte]
      rw [e127]
      go_wp2_with fail
      exact ⟨by trivial, Ext.refl _, rfl⟩
    · refine ExtStep.mk rfl fun vs W hx hd => ?_
      have e128 : vs 128 = (.pointer (some ⟨q, 0, none⟩)) := hd 11 (by kernel_rfl)
      clear hd
      simp only [fillA, fillL, dstL, List.take_succ_cons, List.take_zero, List.filterMap_cons, List.filterMap_nil, List.contains_cons, List.contains_nil, Nat.reduceAdd, Nat.zero_add, Nat.reduceBEq, Bool.or_false, Bool.or_true, Bool.false_eq_true, ↓reduceIte]
      rw [e128]
      go_wp2_with fail
      exact ⟨by trivial, Ext.refl _, rfl⟩
    · refine ExtStep.mk rfl fun vs W hx hd => ?_
      have e129 : vs 129 = (.pointer (some ⟨q, 3, none⟩)) := hd 12 (by kernel_rfl)
      clear hd
      simp only [fillA, fillL, dstL, List.take_succ_cons, List.take_zero, List.filterMap_cons, List.filterMap_nil, List.contains_cons, List.contains_nil, Nat.reduceAdd, Nat.zero_add, Nat.reduceBEq, Bool.or_false, Bool.or_true, Bool.false_eq_true, ↓reduceIte]
      rw [e129]
      have hk := (HN.out W hx).2.2
      go_wp2_with fail
      exact ⟨by trivial, Ext.refl _, rfl⟩
    · refine ExtStep.mk rfl fun vs W hx hd => ?_
      have e130 : vs 130 = kv := hd 13 (by kernel_rfl)
      clear hd
      simp only [fillA, fillL, dstL, List.take_succ_cons, List.take_zero, List.filterMap_cons, List.filterMap_nil, List.contains_cons, List.contains_nil, Nat.reduceAdd, Nat.zero_add, Nat.reduceBEq, Bool.or_false, Bool.or_true, Bool.false_eq_true, ↓reduceIte]
      rw [e130]
      have hi := HI1.out
      go_wp2_with fail
      exact ⟨by trivial, Ext.refl _, rfl⟩
    · refine ExtStep.mk rfl fun vs W hx hd => ?_
      have e131 : vs 131 = (.pointer (some (elt kv 1 1))) := hd 14 (by kernel_rfl)
      clear hd
      simp only [fillA, fillL, dstL, List.take_succ_cons, List.take_zero, List.filterMap_cons, List.filterMap_nil, List.contains_cons, List.contains_nil, Nat.reduceAdd, Nat.zero_add, Nat.reduceBEq, Bool.or_false, Bool.or_true, Bool.false_eq_true, ↓reduceIte]
      rw [e131]
      have hk := HU1.out W hx
      go_wp2_with fail
      exact ⟨by trivial, Ext.refl _, rfl⟩
    · refine ExtStep.mk rfl fun vs W hx hd => ?_
      have e132 : vs 132 = u1 := hd 15 (by kernel_rfl)
      clear hd
      simp only [fillA, fillL, dstL, List.take_succ_cons, List.take_zero, List.filterMap_cons, List.filterMap_nil, List.contains_cons, List.contains_nil, Nat.reduceAdd, Nat.zero_add, Nat.reduceBEq, Bool.or_false, Bool.or_true, Bool.false_eq_true, ↓reduceIte]
      rw [e132]
      go_wp2_with (go_at_call 29; refine (show Calls Tryz.prog 29 #[u1, .int .i64 2] W (fun e w9 => e = .returned (.string ⟨(prT t1 2).toArray⟩) ∧ Ext W w9) from HC1.out W 2 hx (by decide)).mono ?_; rintro e w9 ⟨rfl, hx9⟩)
      exact ⟨by trivial, hx9, rfl⟩
    · refine ExtStep.mk rfl fun vs W hx hd => ?_
      have e126 : vs 126 = (.string ⟨(prT t0 2 ++ signT 6).toArray⟩) := hd 9 (by kernel_rfl)
      have e133 : vs 133 = (.string ⟨(prT t1 2).toArray⟩) := hd 16 (by kernel_rfl)
      clear hd
      simp only [fillA, fillL, dstL, List.take_succ_cons, List.take_zero, List.filterMap_cons, List.filterMap_nil, List.contains_cons, List.contains_nil, Nat.reduceAdd, Nat.zero_add, Nat.reduceBEq, Bool.or_false, Bool.or_true, Bool.false_eq_true, ↓reduceIte]
      rw [e126, e133]
      go_wp2_with fail
      exact ⟨by trivial, Ext.refl _, congrArg Value.string (by apply ByteArray.ext; simp)⟩
  · intro vs w5 hx5 hall
    have e134 : vs 134 = (.string ⟨((prT t0 2 ++ signT 6) ++ prT t1 2).toArray⟩) := hall.at 17 (by omega) rfl
    have HX := Lib.hid hx5
    clear hall hx5
    simp only [fillA, fillL, dstL, List.take_succ_cons, List.take_zero, List.filterMap_cons, List.filterMap_nil, List.contains_cons, List.contains_nil, Nat.reduceAdd, Nat.zero_add, Nat.reduceBEq, Bool.or_false, Bool.or_true, Bool.false_eq_true, ↓reduceIte]
    rw [e134, hBody]
    have HB5 := Lib.hid (slevel_any (HB.out.ext HX.out) (by decide))
    have HL5 : Hid (Calls Tryz.prog 70 #[.pointer (some ⟨q, 0, none⟩)] w5 fun e w9 => e = .returned (.int .i64 1) ∧ w5 = w9) := HB5
    by_cases hl : 1 < least
    · have hd : decide ((1 : Int) < (least : Int)) = true := by rw [decide_eq_true_eq]; omega
      go_wp2_with (go_at_call 70; refine HL5.out.mono ?_; rintro e w9 ⟨rfl, rfl⟩)
      go_ret
      exact ⟨wrap_yes hl, HX.out⟩
    · have hd : decide ((1 : Int) < (least : Int)) = false := by rw [decide_eq_false_iff_not]; omega
      go_wp2_with (go_at_call 70; refine HL5.out.mono ?_; rintro e w9 ⟨rfl, rfl⟩)
      go_ret
      exact ⟨wrap_no hl, HX.out⟩
end
end Go.Proofs.YtejkepihicphlaaGreatDoor
