/- What a table is by its point; whether a list, made longer, is at a place what a column says; sums of products: both sides' contracts. Printed by wip/mknm.py. -/
import Derived.Test.YtfepefbehgbjpaaGreatDoorJm
import Derived.Test.YtfepefbehgbjpaaGreatDoorZx18
import Derived.Test.YtfepefbehgbjpaaGreatDoorZx3
import Derived.BigQuiet
namespace Go.Att
open Go.RowKit
def dtU (p : Int) (g : Nat → Int) (l : List Int) : Nat → Int
  | 0 => 0
  | i + 1 => fadd p (dtU p g l i) (fmul p (g i) (nth l i))
theorem dtU_bd {p : Int} (hp : 2 ≤ p) (g : Nat → Int) (l : List Int) : ∀ i, 0 ≤ dtU p g l i ∧ dtU p g l i < p
  | 0 => ⟨Int.le_refl _, by show (0 : Int) < p; omega⟩
  | i + 1 => fadd_bd hp _ _
def unitsL (p : Int) (l : List Int) (n : Nat) : List Int := (List.range n).map fun i => wgt l i % p
theorem unitsL_length (p : Int) (l : List Int) (n : Nat) : (unitsL p l n).length = n := by simp [unitsL]
theorem unitsL_snoc (p : Int) (l : List Int) (n : Nat) : unitsL p l (n + 1) = unitsL p l n ++ [wgt l n % p] := by simp [unitsL, List.range_succ]
theorem unitsL_nth (p : Int) (l : List Int) {n i : Nat} (h : i < n) : nth (unitsL p l n) i = wgt l i % p := nth_map_range _ _ _ h
end Go.Att
namespace Go.Proofs.YtfepefbehgbjpaaGreatDoor
open Go.RowKit Go.Att
section
variable {w : World} {p : Int}
set_option maxRecDepth 100000 in
set_option maxHeartbeats 2000000 in
theorem rdot_any (hp : 2 ≤ p) (hp2 : p ≤ 2147483647) {va vb : Value} {a b : List Int} (ha : Ints w va a) (hb : Ints w vb b) (hl : a.length ≤ b.length) :
    Calls Tryz.prog 54 #[.int .i64 p, va, vb] w fun e w' => e = .returned (.int .i64 (dtU p (nth a) b a.length)) ∧ Ext w w' := by
  have hla := ha.run_len (P := Tryz.prog) slInts
  have hln := ha.len
  have HA := Lib.hid ha; have HB := Lib.hid hb
  clear ha hb
  go_enter Tryz.func54, Tryz.ntmps54
  go_wp2_with fail
  go_loopw [7, 8, 9] (fun x7 x8 _ wr => ∃ i : Nat, i ≤ a.length ∧ x8 = .int .i64 i ∧ x7 = .int .i64 (dtU p (nth a) b i) ∧ Hid (Ext w wr)) (fun _ x8 _ _ => a.length - (intOf x8).toNat)
  case atStart => exact ⟨0, Nat.zero_le _, rfl, rfl, Lib.hid (Ext.refl _)⟩
  case round =>
    obtain ⟨i, hi, rfl, rfl, HX⟩ := hrel
    by_cases hil : i < a.length
    · have hia := HA.out.run_index (P := Tryz.prog) slInts i hil
      have hca := (HA.out.ext HX.out).cell i hil
      have hib := HB.out.run_index (P := Tryz.prog) slInts i (by omega)
      have hcb := (HB.out.ext HX.out).cell i (by omega)
      have S := Lib.hid (show fadd p (dtU p (nth a) b i) (fmul p (nth a i) (nth b i)) = dtU p (nth a) b (i + 1) from rfl)
      obtain ⟨x, hx⟩ : ∃ x, nth a i = x := ⟨_, rfl⟩
      obtain ⟨y, hy⟩ : ∃ y, nth b i = y := ⟨_, rfl⟩
      obtain ⟨s, hs⟩ : ∃ s, dtU p (nth a) b i = s := ⟨_, rfl⟩
      rw [hx] at hca S
      rw [hy] at hcb S
      rw [hs] at S ⊢
      have HIL := Lib.hid hil
      obtain ⟨ia, hiae⟩ : ∃ q, elt va i 1 = q := ⟨_, rfl⟩
      obtain ⟨ib, hibe⟩ : ∃ q, elt vb i 1 = q := ⟨_, rfl⟩
      rw [hiae] at hia hca
      rw [hibe] at hib hcb
      clear hx hy hs hiae hibe
      go_wp2_with fail
      go_quiet ((go_at_call 102; exact (rmul_any _ _ _ _ hp hp2).mono fun _ _ h => ⟨h.1, _, h.2.symm⟩))
      go_wp2_with (go_at_call 103; refine (radd_any _ _ _ _ hp hp2).mono ?_; rw [S.out]; rintro e w' ⟨rfl, rfl⟩)
      go_roundw
      case rel => exact ⟨i + 1, by have := HIL.out; omega, by go_num, rfl, Lib.hid (HX.out.trans (Ext.drewN _ _))⟩
      case measure => simp [intOf]; omega
    · obtain rfl : i = a.length := by omega
      go_wp2_with fail
      go_ret
      exact ⟨rfl, HX.out⟩
set_option maxRecDepth 100000 in
set_option maxHeartbeats 2000000 in
theorem runits_any (hp : 2 ≤ p) (hp2 : p ≤ 2147483647) {v : Value} {l : List Int} (h : Ints w v l) (hl : l.length ≤ 12) :
    Calls Tryz.prog 51 #[.int .i64 p, v] w (Gives w fun u w' => Ints w' u (unitsL p l (2 ^ l.length))) := by
  have hlv := h.run_len (P := Tryz.prog) slInts
  have hpb : (2 : Nat) ^ l.length ≤ 4096 := Nat.le_trans (Nat.pow_le_pow_right (by decide) hl) (by decide)
  have HPC := Lib.hid (show (2 : Int) ^ l.length = ((2 ^ l.length : Nat) : Int) by simp)
  have CU := Lib.hid (fun W (hx : Ext w W) (i : Nat) (hi : i < 2 ^ l.length) => runit_any p v l i W hp hp2 (h.ext hx) (by omega) hi)
  obtain ⟨N, hN⟩ : ∃ N, (2 : Nat) ^ l.length = N := ⟨_, rfl⟩
  rw [hN] at hpb HPC CU ⊢
  clear h hN
  go_enter Tryz.func51, Tryz.ntmps51
  go_wp2_with (go_at_call 41; refine (rtwo_any _ _ (by omega)).mono ?_; rw [HPC.out]; rintro e w' ⟨rfl, rfl⟩)
  go_loopw [6, 7, 8] (fun x6 x7 _ wr => ∃ i : Nat, i ≤ N ∧ x7 = .int .i64 i ∧ Hid (wr.ownsRow w.heap.size 3 1 x6 i ((unitsL p l i).map (Value.int .i64))) ∧ Hid (Ext w wr)) (fun _ x7 _ _ => N - (intOf x7).toNat)
  case atStart => exact ⟨0, Nat.zero_le _, rfl, Lib.hid (World.ownsRow_nil _ _ _ _), Lib.hid (Ext.refl _)⟩
  case round =>
    obtain ⟨i, hi, rfl, HO, HX⟩ := hrel
    by_cases hlt : i < N
    · have ST := Lib.hid (unitsL_snoc p l i)
      obtain ⟨x, hx⟩ : ∃ x, wgt l i % p = x := ⟨_, rfl⟩
      have CUI := Lib.hid (CU.out wr HX.out i hlt)
      rw [hx] at ST CUI
      clear hx
      go_wp2_with (first | (go_at_call 104; refine CUI.out.mono ?_; rintro e w1 ⟨rfl, hx1⟩; have HX1 := HX.out.trans hx1; have HO1 := own_ext HO.out hx1) | (at_builtin; refine wpList_app1 rfl _ _ 22 rfl slInts rfl HX1 HO1 rfl _ rfl rfl (by omega) (by omega) ?_; intro v' w2 HO' HX' _))
      go_roundw
      case rel => exact ⟨i + 1, by omega, by go_num, Lib.hid (by rw [ST.out, List.map_append]; exact HO'), Lib.hid HX'⟩
      case measure => simp [intOf]; omega
    · obtain rfl : i = N := by omega
      go_wp2_with fail
      go_ret
      exact .mk _ rfl HX.out (Ints.of_own HO.out)
end
section
variable {w : World} {bf : Nat} {p g : Int} {fs : List Int}
set_option maxRecDepth 100000 in
set_option maxHeartbeats 8000000 in
theorem agrees_any (hf : Fld w (.pointer (some ⟨bf, 0, none⟩)) p g fs) {ks : Nat} {d : Value} {n sh rt : Int} (k0 : w.cell? ⟨ks, 0, none⟩ = some (.pointer (some ⟨bf, 0, none⟩))) (k1 : w.cell? ⟨ks, 1, none⟩ = some d) (hd : DomOf w d (.pointer (some ⟨bf, 0, none⟩)) n sh rt) {vl vc : Value} {list col : List Int} (hl : Ints w vl list) (hc : Ints w vc col) (hll : list.length ≤ 4294967000) (place : Nat) (hpl : (place : Int) < n) (hn2 : n ≤ 65536) (fid : FuncId) (c1 c2 : Value) (f : Nat → Int) (hfid : ∀ (xs : Array Value) (W : World), (callFunc fid xs).run Tryz.prog W = .ok (.enter fid xs) W)
    (hcl : ∀ (W : World) (i : Nat), Ext w W → i < col.length → Calls Tryz.prog fid #[.int .i64 i, c1, c2] W (Rd W (.int .i64 (f i)))) :
    Calls Tryz.prog 61 #[.pointer (some ⟨ks, 0, none⟩), vl, .int .i64 place, vc, .func (.func fid) #[] #[c1, c2]] w fun e w' => e = .returned (.bool (dtU p f col col.length == ev list (ptAt p sh rt place) % p)) ∧ Ext w w' := by
  have hlc := hc.run_len (P := Tryz.prog) slInts
  have hln := hc.len
  have HF := Lib.hid hf; have HD := Lib.hid hd; have HL := Lib.hid hl; have HCL := Lib.hid hc; have HC := Lib.hid hcl
  have HK0 := Lib.hid k0; have HK1 := Lib.hid k1
  clear hf hd hl hc hcl k0 k1
  go_enter Tryz.func61, Tryz.ntmps61
  go_wp2_with fail
  go_loopw [11, 12, 13, 16] (fun x11 _ _ x16 wr => ∃ i : Nat, i ≤ col.length ∧ x16 = .int .i64 i ∧ x11 = .int .i64 (dtU p f col i) ∧ Hid (Ext w wr)) (fun _ _ _ x16 _ => col.length - (intOf x16).toNat)
  case atStart => exact ⟨0, Nat.zero_le _, rfl, rfl, Lib.hid (Ext.refl _)⟩
  case round =>
    obtain ⟨i, hi, rfl, rfl, HXR⟩ := hrel
    have k0 := HXR.out.cell HK0.out
    have k1 := HXR.out.cell HK1.out
    by_cases hil : i < col.length
    · have hix := HCL.out.run_index (P := Tryz.prog) slInts i hil
      have hcx := HXR.out.cell (HCL.out.cell i hil)
      have HST := Lib.hid (show fadd p (dtU p f col i) (fmul p (f i) (nth col i)) = dtU p f col (i + 1) from rfl)
      have HIL := Lib.hid hil
      obtain ⟨x, hxx⟩ : ∃ x, nth col i = x := ⟨_, rfl⟩
      obtain ⟨s, hss⟩ : ∃ s, dtU p f col i = s := ⟨_, rfl⟩
      rw [hxx] at hcx HST
      rw [hss] at HST ⊢
      clear hxx hss
      go_upto_region 5 with (fail)
      clear hix hcx
      refine wp_region_ext 15 [SP.eq (.pointer (some ⟨ks, 0, none⟩)), SP.eq (.pointer (some ⟨ks, 0, none⟩)), SP.eq (.pointer (some ⟨ks, 0, none⟩)), SP.eq (.pointer (some ⟨bf, 0, none⟩)), SP.eq (.int .i64 s), SP.eq (.pointer (some ⟨ks, 0, none⟩)), SP.eq (.pointer (some ⟨ks, 0, none⟩)), SP.eq (.pointer (some ⟨ks, 0, none⟩)), SP.eq (.pointer (some ⟨bf, 0, none⟩)), SP.eq (.func (.func fid) #[] #[c1, c2]), SP.eq (.int .i64 (i : Int)), SP.eq (.int .i64 (f i)), SP.eq (.int .i64 x), SP.eq (.int .i64 (fmul p (f i) x)), SP.eq (.int .i64 (fadd p s (fmul p (f i) x)))] (by kernel_rfl) (by kernel_rfl) (by kernel_rfl) ?_ ?_
      · refine ⟨?_, ?_, ?_, ?_, ?_, ?_, ?_, ?_, ?_, ?_, ?_, ?_, ?_, ?_, ?_, trivial⟩
        · refine ExtStep.mk rfl fun vs W hx hd => ?_
          clear hd
          simp only [fillA, fillL, dstL, List.take_succ_cons, List.take_zero, List.filterMap_cons, List.filterMap_nil, List.contains_cons, List.contains_nil, Nat.reduceAdd, Nat.zero_add, Nat.reduceBEq, Bool.or_false, Bool.or_true, Bool.false_eq_true, ↓reduceIte]
          go_wp2_with fail
          exact ⟨by trivial, Ext.refl _, rfl⟩
        · refine ExtStep.mk rfl fun vs W hx hd => ?_
          have e21 : vs 21 = (.pointer (some ⟨ks, 0, none⟩)) := hd 0 (by kernel_rfl)
          clear hd
          simp only [fillA, fillL, dstL, List.take_succ_cons, List.take_zero, List.filterMap_cons, List.filterMap_nil, List.contains_cons, List.contains_nil, Nat.reduceAdd, Nat.zero_add, Nat.reduceBEq, Bool.or_false, Bool.or_true, Bool.false_eq_true, ↓reduceIte]
          rw [e21]
          go_wp2_with fail
          exact ⟨by trivial, Ext.refl _, rfl⟩
        · refine ExtStep.mk rfl fun vs W hx hd => ?_
          have e22 : vs 22 = (.pointer (some ⟨ks, 0, none⟩)) := hd 1 (by kernel_rfl)
          clear hd
          simp only [fillA, fillL, dstL, List.take_succ_cons, List.take_zero, List.filterMap_cons, List.filterMap_nil, List.contains_cons, List.contains_nil, Nat.reduceAdd, Nat.zero_add, Nat.reduceBEq, Bool.or_false, Bool.or_true, Bool.false_eq_true, ↓reduceIte]
          rw [e22]
          go_wp2_with fail
          exact ⟨by trivial, Ext.refl _, rfl⟩
        · refine ExtStep.mk rfl fun vs W hx hd => ?_
          have e23 : vs 23 = (.pointer (some ⟨ks, 0, none⟩)) := hd 2 (by kernel_rfl)
          clear hd
          simp only [fillA, fillL, dstL, List.take_succ_cons, List.take_zero, List.filterMap_cons, List.filterMap_nil, List.contains_cons, List.contains_nil, Nat.reduceAdd, Nat.zero_add, Nat.reduceBEq, Bool.or_false, Bool.or_true, Bool.false_eq_true, ↓reduceIte]
          rw [e23]
          have c0 := hx.cell k0
          go_wp2_with fail
          exact ⟨by trivial, Ext.refl _, rfl⟩
        · refine ExtStep.mk rfl fun vs W hx hd => ?_
          clear hd
          simp only [fillA, fillL, dstL, List.take_succ_cons, List.take_zero, List.filterMap_cons, List.filterMap_nil, List.contains_cons, List.contains_nil, Nat.reduceAdd, Nat.zero_add, Nat.reduceBEq, Bool.or_false, Bool.or_true, Bool.false_eq_true, ↓reduceIte]
          go_wp2_with fail
          exact ⟨by trivial, Ext.refl _, rfl⟩
        · refine ExtStep.mk rfl fun vs W hx hd => ?_
          clear hd
          simp only [fillA, fillL, dstL, List.take_succ_cons, List.take_zero, List.filterMap_cons, List.filterMap_nil, List.contains_cons, List.contains_nil, Nat.reduceAdd, Nat.zero_add, Nat.reduceBEq, Bool.or_false, Bool.or_true, Bool.false_eq_true, ↓reduceIte]
          go_wp2_with fail
          exact ⟨by trivial, Ext.refl _, rfl⟩
        · refine ExtStep.mk rfl fun vs W hx hd => ?_
          have e26 : vs 26 = (.pointer (some ⟨ks, 0, none⟩)) := hd 5 (by kernel_rfl)
          clear hd
          simp only [fillA, fillL, dstL, List.take_succ_cons, List.take_zero, List.filterMap_cons, List.filterMap_nil, List.contains_cons, List.contains_nil, Nat.reduceAdd, Nat.zero_add, Nat.reduceBEq, Bool.or_false, Bool.or_true, Bool.false_eq_true, ↓reduceIte]
          rw [e26]
          go_wp2_with fail
          exact ⟨by trivial, Ext.refl _, rfl⟩
        · refine ExtStep.mk rfl fun vs W hx hd => ?_
          have e27 : vs 27 = (.pointer (some ⟨ks, 0, none⟩)) := hd 6 (by kernel_rfl)
          clear hd
          simp only [fillA, fillL, dstL, List.take_succ_cons, List.take_zero, List.filterMap_cons, List.filterMap_nil, List.contains_cons, List.contains_nil, Nat.reduceAdd, Nat.zero_add, Nat.reduceBEq, Bool.or_false, Bool.or_true, Bool.false_eq_true, ↓reduceIte]
          rw [e27]
          go_wp2_with fail
          exact ⟨by trivial, Ext.refl _, rfl⟩
        · refine ExtStep.mk rfl fun vs W hx hd => ?_
          have e28 : vs 28 = (.pointer (some ⟨ks, 0, none⟩)) := hd 7 (by kernel_rfl)
          clear hd
          simp only [fillA, fillL, dstL, List.take_succ_cons, List.take_zero, List.filterMap_cons, List.filterMap_nil, List.contains_cons, List.contains_nil, Nat.reduceAdd, Nat.zero_add, Nat.reduceBEq, Bool.or_false, Bool.or_true, Bool.false_eq_true, ↓reduceIte]
          rw [e28]
          have c0 := hx.cell k0
          go_wp2_with fail
          exact ⟨by trivial, Ext.refl _, rfl⟩
        · refine ExtStep.mk rfl fun vs W hx hd => ?_
          clear hd
          simp only [fillA, fillL, dstL, List.take_succ_cons, List.take_zero, List.filterMap_cons, List.filterMap_nil, List.contains_cons, List.contains_nil, Nat.reduceAdd, Nat.zero_add, Nat.reduceBEq, Bool.or_false, Bool.or_true, Bool.false_eq_true, ↓reduceIte]
          go_wp2_with fail
          exact ⟨by trivial, Ext.refl _, rfl⟩
        · refine ExtStep.mk rfl fun vs W hx hd => ?_
          clear hd
          simp only [fillA, fillL, dstL, List.take_succ_cons, List.take_zero, List.filterMap_cons, List.filterMap_nil, List.contains_cons, List.contains_nil, Nat.reduceAdd, Nat.zero_add, Nat.reduceBEq, Bool.or_false, Bool.or_true, Bool.false_eq_true, ↓reduceIte]
          go_wp2_with fail
          exact ⟨by trivial, Ext.refl _, rfl⟩
        · refine ExtStep.mk rfl fun vs W hx hd => ?_
          have e30 : vs 30 = (.func (.func fid) #[] #[c1, c2]) := hd 9 (by kernel_rfl)
          have e31 : vs 31 = (.int .i64 (i : Int)) := hd 10 (by kernel_rfl)
          clear hd
          simp only [fillA, fillL, dstL, List.take_succ_cons, List.take_zero, List.filterMap_cons, List.filterMap_nil, List.contains_cons, List.contains_nil, Nat.reduceAdd, Nat.zero_add, Nat.reduceBEq, Bool.or_false, Bool.or_true, Bool.false_eq_true, ↓reduceIte]
          rw [e30, e31]
          go_wp2_with fail
          refine (HC.out W i (HXR.out.trans hx) HIL.out).mono ?_
          rintro e w3 ⟨rfl, m3, rfl⟩
          go_wp2_with fail
          exact ⟨by trivial, Ext.drewN _ _, rfl⟩
        · refine ExtStep.mk rfl fun vs W hx hd => ?_
          clear hd
          simp only [fillA, fillL, dstL, List.take_succ_cons, List.take_zero, List.filterMap_cons, List.filterMap_nil, List.contains_cons, List.contains_nil, Nat.reduceAdd, Nat.zero_add, Nat.reduceBEq, Bool.or_false, Bool.or_true, Bool.false_eq_true, ↓reduceIte]
          go_wp2_with fail
          exact ⟨by trivial, Ext.refl _, rfl⟩
        · refine ExtStep.mk rfl fun vs W hx hd => ?_
          have e29 : vs 29 = (.pointer (some ⟨bf, 0, none⟩)) := hd 8 (by kernel_rfl)
          have e32 : vs 32 = (.int .i64 (f i)) := hd 11 (by kernel_rfl)
          have e33 : vs 33 = (.int .i64 x) := hd 12 (by kernel_rfl)
          clear hd
          simp only [fillA, fillL, dstL, List.take_succ_cons, List.take_zero, List.filterMap_cons, List.filterMap_nil, List.contains_cons, List.contains_nil, Nat.reduceAdd, Nat.zero_add, Nat.reduceBEq, Bool.or_false, Bool.or_true, Bool.false_eq_true, ↓reduceIte]
          rw [e29, e32, e33]
          go_wp2_with (go_at_call 79; refine (mul_any (HF.out.ext (HXR.out.trans hx)) _ _).mono ?_; rintro e w3 ⟨rfl, m3, rfl⟩)
          exact ⟨by trivial, Ext.drewN _ _, rfl⟩
        · refine ExtStep.mk rfl fun vs W hx hd => ?_
          have e24 : vs 24 = (.pointer (some ⟨bf, 0, none⟩)) := hd 3 (by kernel_rfl)
          have e25 : vs 25 = (.int .i64 s) := hd 4 (by kernel_rfl)
          have e34 : vs 34 = (.int .i64 (fmul p (f i) x)) := hd 13 (by kernel_rfl)
          clear hd
          simp only [fillA, fillL, dstL, List.take_succ_cons, List.take_zero, List.filterMap_cons, List.filterMap_nil, List.contains_cons, List.contains_nil, Nat.reduceAdd, Nat.zero_add, Nat.reduceBEq, Bool.or_false, Bool.or_true, Bool.false_eq_true, ↓reduceIte]
          rw [e24, e25, e34]
          go_wp2_with (go_at_call 78; refine (add_any (HF.out.ext (HXR.out.trans hx)) _ _).mono ?_; rintro e w3 ⟨rfl, m3, rfl⟩)
          exact ⟨by trivial, Ext.drewN _ _, rfl⟩
      · intro vs w5 hx5 hall
        have e35 : vs 35 = (.int .i64 (fadd p s (fmul p (f i) x))) := hall.at 14 (by omega) rfl
        clear hall
        simp only [fillA, fillL, dstL, List.take_succ_cons, List.take_zero, List.filterMap_cons, List.filterMap_nil, List.contains_cons, List.contains_nil, Nat.reduceAdd, Nat.zero_add, Nat.reduceBEq, Bool.or_false, Bool.or_true, Bool.false_eq_true, ↓reduceIte]
        rw [e35, HST.out]
        clear k0 k1
        go_wp2_with fail
        go_roundw
        case rel => exact ⟨i + 1, by have := HIL.out; omega, by go_num, rfl, Lib.hid (HXR.out.trans hx5)⟩
        case measure => have := HIL.out; simp [intOf]; omega
    · obtain rfl : i = col.length := by omega
      obtain ⟨s, hss⟩ : ∃ s, dtU p f col col.length = s := ⟨_, rfl⟩
      have HSS := Lib.hid hss
      rw [hss]
      clear hss
      go_upto_region 7 with (fail)
      refine wp_region_ext 13 [SP.eq (.int .i64 s), SP.eq (.pointer (some ⟨ks, 0, none⟩)), SP.eq (.pointer (some ⟨ks, 0, none⟩)), SP.eq (.pointer (some ⟨ks, 0, none⟩)), SP.eq (.pointer (some ⟨bf, 0, none⟩)), SP.eq vl, SP.eq (.pointer (some ⟨ks, 0, none⟩)), SP.eq (.pointer (some ⟨ks, 0, none⟩)), SP.eq (.pointer (some ⟨ks, 1, none⟩)), SP.eq d, SP.eq (.int .i64 (place : Int)), SP.eq (.int .i64 (ptAt p sh rt place)), SP.eq (.int .i64 (ev list (ptAt p sh rt place) % p))] (by kernel_rfl) (by kernel_rfl) (by kernel_rfl) ?_ ?_
      · refine ⟨?_, ?_, ?_, ?_, ?_, ?_, ?_, ?_, ?_, ?_, ?_, ?_, ?_, trivial⟩
        · refine ExtStep.mk rfl fun vs W hx hd => ?_
          clear hd
          simp only [fillA, fillL, dstL, List.take_succ_cons, List.take_zero, List.filterMap_cons, List.filterMap_nil, List.contains_cons, List.contains_nil, Nat.reduceAdd, Nat.zero_add, Nat.reduceBEq, Bool.or_false, Bool.or_true, Bool.false_eq_true, ↓reduceIte]
          go_wp2_with fail
          exact ⟨by trivial, Ext.refl _, rfl⟩
        · refine ExtStep.mk rfl fun vs W hx hd => ?_
          clear hd
          simp only [fillA, fillL, dstL, List.take_succ_cons, List.take_zero, List.filterMap_cons, List.filterMap_nil, List.contains_cons, List.contains_nil, Nat.reduceAdd, Nat.zero_add, Nat.reduceBEq, Bool.or_false, Bool.or_true, Bool.false_eq_true, ↓reduceIte]
          go_wp2_with fail
          exact ⟨by trivial, Ext.refl _, rfl⟩
        · refine ExtStep.mk rfl fun vs W hx hd => ?_
          have e38 : vs 38 = (.pointer (some ⟨ks, 0, none⟩)) := hd 1 (by kernel_rfl)
          clear hd
          simp only [fillA, fillL, dstL, List.take_succ_cons, List.take_zero, List.filterMap_cons, List.filterMap_nil, List.contains_cons, List.contains_nil, Nat.reduceAdd, Nat.zero_add, Nat.reduceBEq, Bool.or_false, Bool.or_true, Bool.false_eq_true, ↓reduceIte]
          rw [e38]
          go_wp2_with fail
          exact ⟨by trivial, Ext.refl _, rfl⟩
        · refine ExtStep.mk rfl fun vs W hx hd => ?_
          have e39 : vs 39 = (.pointer (some ⟨ks, 0, none⟩)) := hd 2 (by kernel_rfl)
          clear hd
          simp only [fillA, fillL, dstL, List.take_succ_cons, List.take_zero, List.filterMap_cons, List.filterMap_nil, List.contains_cons, List.contains_nil, Nat.reduceAdd, Nat.zero_add, Nat.reduceBEq, Bool.or_false, Bool.or_true, Bool.false_eq_true, ↓reduceIte]
          rw [e39]
          go_wp2_with fail
          exact ⟨by trivial, Ext.refl _, rfl⟩
        · refine ExtStep.mk rfl fun vs W hx hd => ?_
          have e40 : vs 40 = (.pointer (some ⟨ks, 0, none⟩)) := hd 3 (by kernel_rfl)
          clear hd
          simp only [fillA, fillL, dstL, List.take_succ_cons, List.take_zero, List.filterMap_cons, List.filterMap_nil, List.contains_cons, List.contains_nil, Nat.reduceAdd, Nat.zero_add, Nat.reduceBEq, Bool.or_false, Bool.or_true, Bool.false_eq_true, ↓reduceIte]
          rw [e40]
          have c0 := hx.cell k0
          go_wp2_with fail
          exact ⟨by trivial, Ext.refl _, rfl⟩
        · refine ExtStep.mk rfl fun vs W hx hd => ?_
          clear hd
          simp only [fillA, fillL, dstL, List.take_succ_cons, List.take_zero, List.filterMap_cons, List.filterMap_nil, List.contains_cons, List.contains_nil, Nat.reduceAdd, Nat.zero_add, Nat.reduceBEq, Bool.or_false, Bool.or_true, Bool.false_eq_true, ↓reduceIte]
          go_wp2_with fail
          exact ⟨by trivial, Ext.refl _, rfl⟩
        · refine ExtStep.mk rfl fun vs W hx hd => ?_
          clear hd
          simp only [fillA, fillL, dstL, List.take_succ_cons, List.take_zero, List.filterMap_cons, List.filterMap_nil, List.contains_cons, List.contains_nil, Nat.reduceAdd, Nat.zero_add, Nat.reduceBEq, Bool.or_false, Bool.or_true, Bool.false_eq_true, ↓reduceIte]
          go_wp2_with fail
          exact ⟨by trivial, Ext.refl _, rfl⟩
        · refine ExtStep.mk rfl fun vs W hx hd => ?_
          have e43 : vs 43 = (.pointer (some ⟨ks, 0, none⟩)) := hd 6 (by kernel_rfl)
          clear hd
          simp only [fillA, fillL, dstL, List.take_succ_cons, List.take_zero, List.filterMap_cons, List.filterMap_nil, List.contains_cons, List.contains_nil, Nat.reduceAdd, Nat.zero_add, Nat.reduceBEq, Bool.or_false, Bool.or_true, Bool.false_eq_true, ↓reduceIte]
          rw [e43]
          go_wp2_with fail
          exact ⟨by trivial, Ext.refl _, rfl⟩
        · refine ExtStep.mk rfl fun vs W hx hd => ?_
          have e44 : vs 44 = (.pointer (some ⟨ks, 0, none⟩)) := hd 7 (by kernel_rfl)
          clear hd
          simp only [fillA, fillL, dstL, List.take_succ_cons, List.take_zero, List.filterMap_cons, List.filterMap_nil, List.contains_cons, List.contains_nil, Nat.reduceAdd, Nat.zero_add, Nat.reduceBEq, Bool.or_false, Bool.or_true, Bool.false_eq_true, ↓reduceIte]
          rw [e44]
          go_wp2_with fail
          exact ⟨by trivial, Ext.refl _, rfl⟩
        · refine ExtStep.mk rfl fun vs W hx hd => ?_
          have e45 : vs 45 = (.pointer (some ⟨ks, 1, none⟩)) := hd 8 (by kernel_rfl)
          clear hd
          simp only [fillA, fillL, dstL, List.take_succ_cons, List.take_zero, List.filterMap_cons, List.filterMap_nil, List.contains_cons, List.contains_nil, Nat.reduceAdd, Nat.zero_add, Nat.reduceBEq, Bool.or_false, Bool.or_true, Bool.false_eq_true, ↓reduceIte]
          rw [e45]
          have c0 := hx.cell k1
          go_wp2_with fail
          exact ⟨by trivial, Ext.refl _, rfl⟩
        · refine ExtStep.mk rfl fun vs W hx hd => ?_
          clear hd
          simp only [fillA, fillL, dstL, List.take_succ_cons, List.take_zero, List.filterMap_cons, List.filterMap_nil, List.contains_cons, List.contains_nil, Nat.reduceAdd, Nat.zero_add, Nat.reduceBEq, Bool.or_false, Bool.or_true, Bool.false_eq_true, ↓reduceIte]
          go_wp2_with fail
          exact ⟨by trivial, Ext.refl _, rfl⟩
        · refine ExtStep.mk rfl fun vs W hx hd => ?_
          have e46 : vs 46 = d := hd 9 (by kernel_rfl)
          have e47 : vs 47 = (.int .i64 (place : Int)) := hd 10 (by kernel_rfl)
          clear hd
          simp only [fillA, fillL, dstL, List.take_succ_cons, List.take_zero, List.filterMap_cons, List.filterMap_nil, List.contains_cons, List.contains_nil, Nat.reduceAdd, Nat.zero_add, Nat.reduceBEq, Bool.or_false, Bool.or_true, Bool.false_eq_true, ↓reduceIte]
          rw [e46, e47]
          go_wp2_with (go_at_call 113; refine (dpoint_any (HD.out.ext (HXR.out.trans hx)) (HF.out.ext (HXR.out.trans hx)) place hpl hn2).mono ?_; rintro e w3 ⟨rfl, m3, rfl⟩)
          exact ⟨by trivial, Ext.drewN _ _, rfl⟩
        · refine ExtStep.mk rfl fun vs W hx hd => ?_
          have e41 : vs 41 = (.pointer (some ⟨bf, 0, none⟩)) := hd 4 (by kernel_rfl)
          have e42 : vs 42 = vl := hd 5 (by kernel_rfl)
          have e48 : vs 48 = (.int .i64 (ptAt p sh rt place)) := hd 11 (by kernel_rfl)
          clear hd
          simp only [fillA, fillL, dstL, List.take_succ_cons, List.take_zero, List.filterMap_cons, List.filterMap_nil, List.contains_cons, List.contains_nil, Nat.reduceAdd, Nat.zero_add, Nat.reduceBEq, Bool.or_false, Bool.or_true, Bool.false_eq_true, ↓reduceIte]
          rw [e41, e42, e48]
          go_wp2_with (go_at_call 112; refine (peval_any (HF.out.ext (HXR.out.trans hx)) _ list _ (HL.out.ext (HXR.out.trans hx)) hll).mono ?_; rintro e w3 ⟨v3, rfl, hx3, rfl⟩)
          exact ⟨by trivial, hx3, rfl⟩
      · intro vs w5 hx5 hall
        have e37 : vs 37 = (.int .i64 s) := hall.at 0 (by omega) rfl
        have e49 : vs 49 = (.int .i64 (ev list (ptAt p sh rt place) % p)) := hall.at 12 (by omega) rfl
        clear hall
        simp only [fillA, fillL, dstL, List.take_succ_cons, List.take_zero, List.filterMap_cons, List.filterMap_nil, List.contains_cons, List.contains_nil, Nat.reduceAdd, Nat.zero_add, Nat.reduceBEq, Bool.or_false, Bool.or_true, Bool.false_eq_true, ↓reduceIte]
        rw [e37, e49]
        clear k0 k1
        go_wp2_with fail
        go_ret
        exact ⟨by rw [HSS.out]; rfl, HXR.out.trans hx5⟩
end
end Go.Proofs.YtfepefbehgbjpaaGreatDoor
