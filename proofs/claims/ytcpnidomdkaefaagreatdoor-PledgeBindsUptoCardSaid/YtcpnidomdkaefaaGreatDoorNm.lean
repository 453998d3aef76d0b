/- What a table is by its point; whether a list, made longer, is at a place what a column says; sums of products: both sides' contracts. Printed by wip/mknm.py. -/
import Derived.Test.YtcpnidomdkaefaaGreatDoorJm
import Derived.Test.YtcpnidomdkaefaaGreatDoorZx22
import Derived.Test.YtcpnidomdkaefaaGreatDoorZx20
import Derived.BigQuiet
namespace Go.Att
open Go.RowKit
/-- The sum of the first products. -/
def dtU (p : Int) (g : Nat → Int) (l : List Int) : Nat → Int
  | 0 => 0
  | i + 1 => fadd p (dtU p g l i) (fmul p (g i) (nth l i))
/-- The weights of all places. -/
def unitsL (p : Int) (l : List Int) (n : Nat) : List Int := (List.range n).map fun i => wgt l i % p
theorem unitsL_nth (p : Int) (l : List Int) {n i : Nat} (h : i < n) : nth (unitsL p l n) i = wgt l i % p := nth_map_range _ _ _ h
end Go.Att
namespace Go.Proofs.YtcpnidomdkaefaaGreatDoor
open Go.RowKit Go.Att
section
variable {w : World} {p : Int}
end
section
variable {w : World} {bf : Nat} {p g : Int} {fs : List Int}
set_option maxRecDepth 100000 in
set_option maxHeartbeats 8000000 in
theorem agrees_any (hf : Fld w (.pointer (some ⟨bf, 0, none⟩)) p g fs) {ks : Nat} {d : Value} {n sh rt : Int} (k0 : w.cell? ⟨ks, 0, none⟩ = some (.pointer (some ⟨bf, 0, none⟩))) (k1 : w.cell? ⟨ks, 1, none⟩ = some d) (hd : DomOf w d (.pointer (some ⟨bf, 0, none⟩)) n sh rt) {vl vc : Value} {list col : List Int} (hl : Ints w vl list) (hc : Ints w vc col) (hll : list.length ≤ 4294967000) (place : Nat) (hpl : (place : Int) < n) (hn2 : n ≤ 65536) (fid : FuncId) (c1 c2 : Value) (f : Nat → Int) (hfid : ∀ (xs : Array Value) (W : World), (callFunc fid xs).run Tryz.prog W = .ok (.enter fid xs) W)
    (hcl : ∀ (W : World) (i : Nat), Ext w W → i < col.length → Calls Tryz.prog fid #[.int .i64 i, c1, c2] W (Rd W (.int .i64 (f i)))) :
    Calls Tryz.prog 40 #[.pointer (some ⟨ks, 0, none⟩), vl, .int .i64 place, vc, .func (.func fid) #[] #[c1, c2]] w fun e w' => e = .returned (.bool (dtU p f col col.length == ev list (ptAt p sh rt place) % p)) ∧ Ext w w' := by
  have hlc := hc.run_len (P := Tryz.prog) slInts
  have hln := hc.len
  have HF := Lib.hid hf; have HD := Lib.hid hd; have HL := Lib.hid hl; have HCL := Lib.hid hc; have HC := Lib.hid hcl
  have HK0 := Lib.hid k0; have HK1 := Lib.hid k1
  clear hf hd hl hc hcl k0 k1
  go_enter Tryz.func40, Tryz.ntmps40
  go_wp2_with fail
  go_loopw [11, 12, 13, 16] (fun x11 _ _ x16 wr => ∃ i : Nat, i ≤ col.length ∧ x16 = .int .i64 i ∧ x11 = .int .i64 (dtU p f col i) ∧ Hid (Ext w wr)) (fun _ _ _ x16 _ => col.length - (intOf x16).toNat)
  case atStart => exact ⟨0, Nat.zero_le _, rfl, rfl, Lib.hid (Ext.refl _)⟩
  case round =>
    obtain ⟨i, hi, rfl, rfl, HXR⟩ := hrel
    have k0 := HXR.out.cell HK0.out
    have k1 := HXR.out.cell HK1.out
    by_cases hil : i < col.length
    · have hix := HCL.out.run_index (P := Tryz.prog) slInts i hil
      have hcx := HXR.out.cell (HCL.out.cell i hil)
      have HST := Lib.hid (show fadd p (dtU p f col i) (fmul p (f i) (nth col i)) = dtU p f col (i + 1) from rfl)
      have HIL := Lib.hid hil
      obtain ⟨x, hxx⟩ : ∃ x, nth col i = x := ⟨_, rfl⟩
      obtain ⟨s, hss⟩ : ∃ s, dtU p f col i = s := ⟨_, rfl⟩
      rw [hxx] at hcx HST
      rw [hss] at HST ⊢
      clear hxx hss
      go_upto_region 5 with (fail)
      clear hix hcx
      refine wp_region_ext 15 [SP.eq (.pointer (some ⟨ks, 0, none⟩)), SP.eq (.pointer (some ⟨ks, 0, none⟩)), SP.eq (.pointer (some ⟨ks, 0, none⟩)), SP.eq (.pointer (some ⟨bf, 0, none⟩)), SP.eq (.int .i64 s), SP.eq (.pointer (some ⟨ks, 0, none⟩)), SP.eq (.pointer (some ⟨ks, 0, none⟩)), SP.eq (.pointer (some ⟨ks, 0, none⟩)), SP.eq (.pointer (some ⟨bf, 0, none⟩)), SP.eq (.func (.func fid) #[] #[c1, c2]), SP.eq (.int .i64 (i : Int)), SP.eq (.int .i64 (f i)), SP.eq (.int .i64 x), SP.eq (.int .i64 (fmul p (f i) x)), SP.eq (.int .i64 (fadd p s (fmul p (f i) x)))] (by kernel_rfl) (by kernel_rfl) (by kernel_rfl) ?_ ?_
      · refine ⟨?_, ?_, ?_, ?_, ?_, ?_, ?_, ?_, ?_, ?_, ?_, ?_, ?_, ?_, ?_, trivial⟩
        · refine ExtStep.mk rfl fun vs W hx hd => ?_
          clear hd
          simp only [fillA, fillL, dstL, List.take_succ_cons, List.take_zero, List.filterMap_cons, List.filterMap_nil, List.contains_cons, List.contains_nil, Nat.reduceAdd, Nat.zero_add, Nat.reduceBEq, Bool.or_false, Bool.or_true, Bool.false_eq_true, ↓reduceIte]
          go_wp2_with fail
          exact ⟨by trivial, Ext.refl _, rfl⟩
        · refine ExtStep.mk rfl fun vs W hx hd => ?_
          have e21 : vs 21 = (.pointer (some ⟨ks, 0, none⟩)) := hd 0 (by kernel_rfl)
          clear hd
          simp only [fillA, fillL, dstL, List.take_succ_cons, List.take_zero, List.filterMap_cons, List.filterMap_nil, List.contains_cons, List.contains_nil, Nat.reduceAdd, Nat.zero_add, Nat.reduceBEq, Bool.or_false, Bool.or_true, Bool.false_eq_true, ↓reduceIte]
          rw [e21]
          go_wp2_with fail
          exact ⟨by trivial, Ext.refl _, rfl⟩
        · refine ExtStep.mk rfl fun vs W hx hd => ?_
          have e22 : vs 22 = (.pointer (some ⟨ks, 0, none⟩)) := hd 1 (by kernel_rfl)
          clear hd
          simp only [fillA, fillL, dstL, List.take_succ_cons, List.take_zero, List.filterMap_cons, List.filterMap_nil, List.contains_cons, List.contains_nil, Nat.reduceAdd, Nat.zero_add, Nat.reduceBEq, Bool.or_false, Bool.or_true, Bool.false_eq_true, ↓reduceIte]
          rw [e22]
          go_wp2_with fail
          exact ⟨by trivial, Ext.refl _, rfl⟩
        · refine ExtStep.mk rfl fun vs W hx hd => ?_
          have e23 : vs 23 = (.pointer (some ⟨ks, 0, none⟩)) := hd 2 (by kernel_rfl)
          clear hd
          simp only [fillA, fillL, dstL, List.take_succ_cons, List.take_zero, List.filterMap_cons, List.filterMap_nil, List.contains_cons, List.contains_nil, Nat.reduceAdd, Nat.zero_add, Nat.reduceBEq, Bool.or_false, Bool.or_true, Bool.false_eq_true, ↓reduceIte]
          rw [e23]
          have c0 := hx.cell k0
          go_wp2_with fail
          exact ⟨by trivial, Ext.refl _, rfl⟩
        · refine ExtStep.mk rfl fun vs W hx hd => ?_
          clear hd
          simp only [fillA, fillL, dstL, List.take_succ_cons, List.take_zero, List.filterMap_cons, List.filterMap_nil, List.contains_cons, List.contains_nil, Nat.reduceAdd, Nat.zero_add, Nat.reduceBEq, Bool.or_false, Bool.or_true, Bool.false_eq_true, ↓reduceIte]
          go_wp2_with fail
          exact ⟨by trivial, Ext.refl _, rfl⟩
        · refine ExtStep.mk rfl fun vs W hx hd => ?_
          clear hd
          simp only [fillA, fillL, dstL, List.take_succ_cons, List.take_zero, List.filterMap_cons, List.filterMap_nil, List.contains_cons, List.contains_nil, Nat.reduceAdd, Nat.zero_add, Nat.reduceBEq, Bool.or_false, Bool.or_true, Bool.false_eq_true, ↓reduceIte]
          go_wp2_with fail
          exact ⟨by trivial, Ext.refl _, rfl⟩
        · refine ExtStep.mk rfl fun vs W hx hd => ?_
          have e26 : vs 26 = (.pointer (some ⟨ks, 0, none⟩)) := hd 5 (by kernel_rfl)
          clear hd
          simp only [fillA, fillL, dstL, List.take_succ_cons, List.take_zero, List.filterMap_cons, List.filterMap_nil, List.contains_cons, List.contains_nil, Nat.reduceAdd, Nat.zero_add, Nat.reduceBEq, Bool.or_false, Bool.or_true, Bool.false_eq_true, ↓reduceIte]
          rw [e26]
          go_wp2_with fail
          exact ⟨by trivial, Ext.refl _, rfl⟩
        · refine ExtStep.mk rfl fun vs W hx hd => ?_
          have e27 : vs 27 = (.pointer (some ⟨ks, 0, none⟩)) := hd 6 (by kernel_rfl)
          clear hd
          simp only [fillA, fillL, dstL, List.take_succ_cons, List.take_zero, List.filterMap_cons, List.filterMap_nil, List.contains_cons, List.contains_nil, Nat.reduceAdd, Nat.zero_add, Nat.reduceBEq, Bool.or_false, Bool.or_true, Bool.false_eq_true, ↓reduceIte]
          rw [e27]
          go_wp2_with fail
          exact ⟨by trivial, Ext.refl _, rfl⟩
        · refine ExtStep.mk rfl fun vs W hx hd => ?_
          have e28 : vs 28 = (.pointer (some ⟨ks, 0, none⟩)) := hd 7 (by kernel_rfl)
          clear hd
          simp only [fillA, fillL, dstL, List.take_succ_cons, List.take_zero, List.filterMap_cons, List.filterMap_nil, List.contains_cons, List.contains_nil, Nat.reduceAdd, Nat.zero_add, Nat.reduceBEq, Bool.or_false, Bool.or_true, Bool.false_eq_true, ↓reduceIte]
          rw [e28]
          have c0 := hx.cell k0
          go_wp2_with fail
          exact ⟨by trivial, Ext.refl _, rfl⟩
        · refine ExtStep.mk rfl fun vs W hx hd => ?_
          clear hd
          simp only [fillA, fillL, dstL, List.take_succ_cons, List.take_zero, List.filterMap_cons, List.filterMap_nil, List.contains_cons, List.contains_nil, Nat.reduceAdd, Nat.zero_add, Nat.reduceBEq, Bool.or_false, Bool.or_true, Bool.false_eq_true, ↓reduceIte]
          go_wp2_with fail
          exact ⟨by trivial, Ext.refl _, rfl⟩
        · refine ExtStep.mk rfl fun vs W hx hd => ?_
          clear hd
          simp only [fillA, fillL, dstL, List.take_succ_cons, List.take_zero, List.filterMap_cons, List.filterMap_nil, List.contains_cons, List.contains_nil, Nat.reduceAdd, Nat.zero_add, Nat.reduceBEq, Bool.or_false, Bool.or_true, Bool.false_eq_true, ↓reduceIte]
          go_wp2_with fail
          exact ⟨by trivial, Ext.refl _, rfl⟩
        · refine ExtStep.mk rfl fun vs W hx hd => ?_
          have e30 : vs 30 = (.func (.func fid) #[] #[c1, c2]) := hd 9 (by kernel_rfl)
          have e31 : vs 31 = (.int .i64 (i : Int)) := hd 10 (by kernel_rfl)
          clear hd
          simp only [fillA, fillL, dstL, List.take_succ_cons, List.take_zero, List.filterMap_cons, List.filterMap_nil, List.contains_cons, List.contains_nil, Nat.reduceAdd, Nat.zero_add, Nat.reduceBEq, Bool.or_false, Bool.or_true, Bool.false_eq_true, ↓reduceIte]
          rw [e30, e31]
          go_wp2_with fail
          refine (HC.out W i (HXR.out.trans hx) HIL.out).mono ?_
          rintro e w3 ⟨rfl, m3, rfl⟩
          go_wp2_with fail
          exact ⟨by trivial, Ext.drewN _ _, rfl⟩
        · refine ExtStep.mk rfl fun vs W hx hd => ?_
          clear hd
          simp only [fillA, fillL, dstL, List.take_succ_cons, List.take_zero, List.filterMap_cons, List.filterMap_nil, List.contains_cons, List.contains_nil, Nat.reduceAdd, Nat.zero_add, Nat.reduceBEq, Bool.or_false, Bool.or_true, Bool.false_eq_true, ↓reduceIte]
          go_wp2_with fail
          exact ⟨by trivial, Ext.refl _, rfl⟩
        · refine ExtStep.mk rfl fun vs W hx hd => ?_
          have e29 : vs 29 = (.pointer (some ⟨bf, 0, none⟩)) := hd 8 (by kernel_rfl)
          have e32 : vs 32 = (.int .i64 (f i)) := hd 11 (by kernel_rfl)
          have e33 : vs 33 = (.int .i64 x) := hd 12 (by kernel_rfl)
          clear hd
          simp only [fillA, fillL, dstL, List.take_succ_cons, List.take_zero, List.filterMap_cons, List.filterMap_nil, List.contains_cons, List.contains_nil, Nat.reduceAdd, Nat.zero_add, Nat.reduceBEq, Bool.or_false, Bool.or_true, Bool.false_eq_true, ↓reduceIte]
          rw [e29, e32, e33]
          go_wp2_with (go_at_call 94; refine (mul_any (HF.out.ext (HXR.out.trans hx)) _ _).mono ?_; rintro e w3 ⟨rfl, m3, rfl⟩)
          exact ⟨by trivial, Ext.drewN _ _, rfl⟩
        · refine ExtStep.mk rfl fun vs W hx hd => ?_
          have e24 : vs 24 = (.pointer (some ⟨bf, 0, none⟩)) := hd 3 (by kernel_rfl)
          have e25 : vs 25 = (.int .i64 s) := hd 4 (by kernel_rfl)
          have e34 : vs 34 = (.int .i64 (fmul p (f i) x)) := hd 13 (by kernel_rfl)
          clear hd
          simp only [fillA, fillL, dstL, List.take_succ_cons, List.take_zero, List.filterMap_cons, List.filterMap_nil, List.contains_cons, List.contains_nil, Nat.reduceAdd, Nat.zero_add, Nat.reduceBEq, Bool.or_false, Bool.or_true, Bool.false_eq_true, ↓reduceIte]
          rw [e24, e25, e34]
          go_wp2_with (go_at_call 65; refine (add_any (HF.out.ext (HXR.out.trans hx)) _ _).mono ?_; rintro e w3 ⟨rfl, m3, rfl⟩)
          exact ⟨by trivial, Ext.drewN _ _, rfl⟩
      · intro vs w5 hx5 hall
        have e35 : vs 35 = (.int .i64 (fadd p s (fmul p (f i) x))) := hall.at 14 (by omega) rfl
        clear hall
        simp only [fillA, fillL, dstL, List.take_succ_cons, List.take_zero, List.filterMap_cons, List.filterMap_nil, List.contains_cons, List.contains_nil, Nat.reduceAdd, Nat.zero_add, Nat.reduceBEq, Bool.or_false, Bool.or_true, Bool.false_eq_true, ↓reduceIte]
        rw [e35, HST.out]
        clear k0 k1
        go_wp2_with fail
        go_roundw
        case rel => exact ⟨i + 1, by have := HIL.out; omega, by go_num, rfl, Lib.hid (HXR.out.trans hx5)⟩
        case measure => have := HIL.out; simp [intOf]; omega
    · obtain rfl : i = col.length := by omega
      obtain ⟨s, hss⟩ : ∃ s, dtU p f col col.length = s := ⟨_, rfl⟩
      have HSS := Lib.hid hss
      rw [hss]
      clear hss
      go_upto_region 7 with (fail)
      refine wp_region_ext 13 [SP.eq (.int .i64 s), SP.eq (.pointer (some ⟨ks, 0, none⟩)), SP.eq (.pointer (some ⟨ks, 0, none⟩)), SP.eq (.pointer (some ⟨ks, 0, none⟩)), SP.eq (.pointer (some ⟨bf, 0, none⟩)), SP.eq vl, SP.eq (.pointer (some ⟨ks, 0, none⟩)), SP.eq (.pointer (some ⟨ks, 0, none⟩)), SP.eq (.pointer (some ⟨ks, 1, none⟩)), SP.eq d, SP.eq (.int .i64 (place : Int)), SP.eq (.int .i64 (ptAt p sh rt place)), SP.eq (.int .i64 (ev list (ptAt p sh rt place) % p))] (by kernel_rfl) (by kernel_rfl) (by kernel_rfl) ?_ ?_
      · refine ⟨?_, ?_, ?_, ?_, ?_, ?_, ?_, ?_, ?_, ?_, ?_, ?_, ?_, trivial⟩
        · refine ExtStep.mk rfl fun vs W hx hd => ?_
          clear hd
          simp only [fillA, fillL, dstL, List.take_succ_cons, List.take_zero, List.filterMap_cons, List.filterMap_nil, List.contains_cons, List.contains_nil, Nat.reduceAdd, Nat.zero_add, Nat.reduceBEq, Bool.or_false, Bool.or_true, Bool.false_eq_true, ↓reduceIte]
          go_wp2_with fail
          exact ⟨by trivial, Ext.refl _, rfl⟩
        · refine ExtStep.mk rfl fun vs W hx hd => ?_
          clear hd
          simp only [fillA, fillL, dstL, List.take_succ_cons, List.take_zero, List.filterMap_cons, List.filterMap_nil, List.contains_cons, List.contains_nil, Nat.reduceAdd, Nat.zero_add, Nat.reduceBEq, Bool.or_false, Bool.or_true, Bool.false_eq_true, ↓reduceIte]
          go_wp2_with fail
          exact ⟨by trivial, Ext.refl _, rfl⟩
        · refine ExtStep.mk rfl fun vs W hx hd => ?_
          have e38 : vs 38 = (.pointer (some ⟨ks, 0, none⟩)) := hd 1 (by kernel_rfl)
          clear hd
          simp only [fillA, fillL, dstL, List.take_succ_cons, List.take_zero, List.filterMap_cons, List.filterMap_nil, List.contains_cons, List.contains_nil, Nat.reduceAdd, Nat.zero_add, Nat.reduceBEq, Bool.or_false, Bool.or_true, Bool.false_eq_true, ↓reduceIte]
          rw [e38]
          go_wp2_with fail
          exact ⟨by trivial, Ext.refl _, rfl⟩
        · refine ExtStep.mk rfl fun vs W hx hd => ?_
          have e39 : vs 39 = (.pointer (some ⟨ks, 0, none⟩)) := hd 2 (by kernel_rfl)
          clear hd
          simp only [fillA, fillL, dstL, List.take_succ_cons, List.take_zero, List.filterMap_cons, List.filterMap_nil, List.contains_cons, List.contains_nil, Nat.reduceAdd, Nat.zero_add, Nat.reduceBEq, Bool.or_false, Bool.or_true, Bool.false_eq_true, ↓reduceIte]
          rw [e39]
          go_wp2_with fail
          exact ⟨by trivial, Ext.refl _, rfl⟩
        · refine ExtStep.mk rfl fun vs W hx hd => ?_
          have e40 : vs 40 = (.pointer (some ⟨ks, 0, none⟩)) := hd 3 (by kernel_rfl)
          clear hd
          simp only [fillA, fillL, dstL, List.take_succ_cons, List.take_zero, List.filterMap_cons, List.filterMap_nil, List.contains_cons, List.contains_nil, Nat.reduceAdd, Nat.zero_add, Nat.reduceBEq, Bool.or_false, Bool.or_true, Bool.false_eq_true, ↓reduceIte]
          rw [e40]
          have c0 := hx.cell k0
          go_wp2_with fail
          exact ⟨by trivial, Ext.refl _, rfl⟩
        · refine ExtStep.mk rfl fun vs W hx hd => ?_
          clear hd
          simp only [fillA, fillL, dstL, List.take_succ_cons, List.take_zero, List.filterMap_cons, List.filterMap_nil, List.contains_cons, List.contains_nil, Nat.reduceAdd, Nat.zero_add, Nat.reduceBEq, Bool.or_false, Bool.or_true, Bool.false_eq_true, ↓reduceIte]
          go_wp2_with fail
          exact ⟨by trivial, Ext.refl _, rfl⟩
        · refine ExtStep.mk rfl fun vs W hx hd => ?_
          clear hd
          simp only [fillA, fillL, dstL, List.take_succ_cons, List.take_zero, List.filterMap_cons, List.filterMap_nil, List.contains_cons, List.contains_nil, Nat.reduceAdd, Nat.zero_add, Nat.reduceBEq, Bool.or_false, Bool.or_true, Bool.false_eq_true, ↓reduceIte]
          go_wp2_with fail
          exact ⟨by trivial, Ext.refl _, rfl⟩
        · refine ExtStep.mk rfl fun vs W hx hd => ?_
          have e43 : vs 43 = (.pointer (some ⟨ks, 0, none⟩)) := hd 6 (by kernel_rfl)
          clear hd
          simp only [fillA, fillL, dstL, List.take_succ_cons, List.take_zero, List.filterMap_cons, List.filterMap_nil, List.contains_cons, List.contains_nil, Nat.reduceAdd, Nat.zero_add, Nat.reduceBEq, Bool.or_false, Bool.or_true, Bool.false_eq_true, ↓reduceIte]
          rw [e43]
          go_wp2_with fail
          exact ⟨by trivial, Ext.refl _, rfl⟩
        · refine ExtStep.mk rfl fun vs W hx hd => ?_
          have e44 : vs 44 = (.pointer (some ⟨ks, 0, none⟩)) := hd 7 (by kernel_rfl)
          clear hd
          simp only [fillA, fillL, dstL, List.take_succ_cons, List.take_zero, List.filterMap_cons, List.filterMap_nil, List.contains_cons, List.contains_nil, Nat.reduceAdd, Nat.zero_add, Nat.reduceBEq, Bool.or_false, Bool.or_true, Bool.false_eq_true, ↓reduceIte]
          rw [e44]
          go_wp2_with fail
          exact ⟨by trivial, Ext.refl _, rfl⟩
        · refine ExtStep.mk rfl fun vs W hx hd => ?_
          have e45 : vs 45 = (.pointer (some ⟨ks, 1, none⟩)) := hd 8 (by kernel_rfl)
          clear hd
          simp only [fillA, fillL, dstL, List.take_succ_cons, List.take_zero, List.filterMap_cons, List.filterMap_nil, List.contains_cons, List.contains_nil, Nat.reduceAdd, Nat.zero_add, Nat.reduceBEq, Bool.or_false, Bool.or_true, Bool.false_eq_true, ↓reduceIte]
          rw [e45]
          have c0 := hx.cell k1
          go_wp2_with fail
          exact ⟨by trivial, Ext.refl _, rfl⟩
        · refine ExtStep.mk rfl fun vs W hx hd => ?_
          clear hd
          simp only [fillA, fillL, dstL, List.take_succ_cons, List.take_zero, List.filterMap_cons, List.filterMap_nil, List.contains_cons, List.contains_nil, Nat.reduceAdd, Nat.zero_add, Nat.reduceBEq, Bool.or_false, Bool.or_true, Bool.false_eq_true, ↓reduceIte]
          go_wp2_with fail
          exact ⟨by trivial, Ext.refl _, rfl⟩
        · refine ExtStep.mk rfl fun vs W hx hd => ?_
          have e46 : vs 46 = d := hd 9 (by kernel_rfl)
          have e47 : vs 47 = (.int .i64 (place : Int)) := hd 10 (by kernel_rfl)
          clear hd
          simp only [fillA, fillL, dstL, List.take_succ_cons, List.take_zero, List.filterMap_cons, List.filterMap_nil, List.contains_cons, List.contains_nil, Nat.reduceAdd, Nat.zero_add, Nat.reduceBEq, Bool.or_false, Bool.or_true, Bool.false_eq_true, ↓reduceIte]
          rw [e46, e47]
          go_wp2_with (go_at_call 96; refine (dpoint_any (HD.out.ext (HXR.out.trans hx)) (HF.out.ext (HXR.out.trans hx)) place hpl hn2).mono ?_; rintro e w3 ⟨rfl, m3, rfl⟩)
          exact ⟨by trivial, Ext.drewN _ _, rfl⟩
        · refine ExtStep.mk rfl fun vs W hx hd => ?_
          have e41 : vs 41 = (.pointer (some ⟨bf, 0, none⟩)) := hd 4 (by kernel_rfl)
          have e42 : vs 42 = vl := hd 5 (by kernel_rfl)
          have e48 : vs 48 = (.int .i64 (ptAt p sh rt place)) := hd 11 (by kernel_rfl)
          clear hd
          simp only [fillA, fillL, dstL, List.take_succ_cons, List.take_zero, List.filterMap_cons, List.filterMap_nil, List.contains_cons, List.contains_nil, Nat.reduceAdd, Nat.zero_add, Nat.reduceBEq, Bool.or_false, Bool.or_true, Bool.false_eq_true, ↓reduceIte]
          rw [e41, e42, e48]
          go_wp2_with (go_at_call 95; refine (peval_any (HF.out.ext (HXR.out.trans hx)) _ list _ (HL.out.ext (HXR.out.trans hx)) hll).mono ?_; rintro e w3 ⟨v3, rfl, hx3, rfl⟩)
          exact ⟨by trivial, hx3, rfl⟩
      · intro vs w5 hx5 hall
        have e37 : vs 37 = (.int .i64 s) := hall.at 0 (by omega) rfl
        have e49 : vs 49 = (.int .i64 (ev list (ptAt p sh rt place) % p)) := hall.at 12 (by omega) rfl
        clear hall
        simp only [fillA, fillL, dstL, List.take_succ_cons, List.take_zero, List.filterMap_cons, List.filterMap_nil, List.contains_cons, List.contains_nil, Nat.reduceAdd, Nat.zero_add, Nat.reduceBEq, Bool.or_false, Bool.or_true, Bool.false_eq_true, ↓reduceIte]
        rw [e37, e49]
        clear k0 k1
        go_wp2_with fail
        go_ret
        exact ⟨by rw [HSS.out]; rfl, HXR.out.trans hx5⟩
end
end Go.Proofs.YtcpnidomdkaefaaGreatDoor
