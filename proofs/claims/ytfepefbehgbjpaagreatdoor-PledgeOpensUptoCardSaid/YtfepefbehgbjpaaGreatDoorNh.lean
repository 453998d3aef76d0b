/- What an opening shows is worked out, the program's side: tree.way.work, a group that is not shown, and one row: contracts. Printed by wip/mknh.py. -/
import Derived.Test.YtfepefbehgbjpaaGreatDoorZx16
import Derived.Test.YtfepefbehgbjpaaGreatDoorZx20
import Derived.BigQuiet
namespace Go.Proofs.YtfepefbehgbjpaaGreatDoor
open Go.RowKit Go.Att
def WorkGot (w0 W : World) (wb mb lb : Nat) (p : Int) (k : Nat) (pl : List Int) (rows : List (List Int)) (f a n : Nat) (nodes : List (List Int)) (N : Nat) (D L : Int → Int → Option (List Int)) (e : Ending) (w' : World) : Prop :=
  ∃ u NR' D' L', e = .returned u ∧ RwsAt w0 u (nodes.drop (hidN pl f a n)) NR' ∧ Turned mb lb W w' ∧ WayAt w' wb mb lb (N + (2 * n - 1)) D' L' ∧ Wkd p k pl rows D' L' f a n nodes ∧
    ∀ x y, x < y → ¬ ((a : Int) ≤ x ∧ y ≤ (a : Int) + n) → D' x y = D x y ∧ L' x y = L x y
section
variable {w0 : World} {bs : Nat} {p : Int} {k : Nat} {pv rv nvo : Value} {pl : List Int} {rows : List (List Int)} {RR : Nat → Value} {wb mb lb : Nat}
set_option maxRecDepth 100000 in
set_option maxHeartbeats 16000000 in
theorem work_no (hs : Spg w0 (.pointer (some ⟨bs, 0, none⟩)) p k) (hp : Ints w0 pv pl) (hasc : Asc pl) (hpl : pl.length ≤ 1000000) (_hmb : w0.heap.size ≤ mb) (_hlb : w0.heap.size ≤ lb)
    (f n a : Nat) (h1 : 1 ≤ n) (h3 : a + n ≤ 65536) (hsh : sho pl a ((a : Int) + n) = false) (W : World) (nv : Value) (nodes : List (List Int)) (NR : Nat → Value) (N : Nat) (D L : Int → Int → Option (List Int)) (hW : Ext w0 W) (hway : WayAt W wb mb lb N D L) (hn : RwsAt w0 nv nodes NR) (hcnt : hidN pl (f + 1) a n ≤ nodes.length) (hd4 : ∀ d ∈ nodes, d.length = 4) (hN : N + 2 * n ≤ 1000000) (hLn : ∀ x y, (a : Int) ≤ x → y ≤ (a : Int) + n → x < y → L x y = none) :
    Calls Tryz.prog 145 #[.pointer (some ⟨wb, 0, none⟩), .pointer (some ⟨bs, 0, none⟩), .agg #[pv, rv, nvo], .agg #[.int .i64 a, .int .i64 ((a : Int) + n)], nv] W (WorkGot w0 W wb mb lb p k pl rows (f + 1) a n nodes N D L) := by
  have hhid : hidN pl (f + 1) a n = 1 := by simp only [hidN]; rw [if_neg (by rw [hsh]; decide)]
  have hL0 := hLn a ((a : Int) + n) (Int.le_refl _) (Int.le_refl _) (by omega)
  rw [hhid] at hcnt
  match nodes, hcnt, hn, hd4 with
  | d :: r, _, hn, hd4 =>
    have hd := hd4 d (List.mem_cons_self ..)
    obtain ⟨sb, bf, rt, g, fs, he, hsp, hf, -⟩ := hs
    obtain rfl : bs = sb := by simpa using he
    have hix := hn.run_index (P := Tryz.prog) slRows 0 (by simp)
    have hcx := hn.cell 0 (by simp)
    have hrow := hn.row 0 (by simp)
    rw [show nthL (d :: r) 0 = d from rfl] at hrow
    have htl := rows_tail hn (P := Tryz.prog) slRows
    rw [show ((0 : Nat) : Int) = 0 from rfl] at hix
    obtain ⟨ea, hea⟩ : ∃ ea, elt nv 0 1 = ea := ⟨_, rfl⟩
    rw [hea] at hix hcx
    obtain ⟨b, hb⟩ : ∃ b : Int, (a : Int) + n = b := ⟨_, rfl⟩
    have HSHE := Lib.hid hsh
    rw [hb] at hsh hL0 ⊢
    have hdl : (d.map (fof p)).length = 4 := by rw [List.length_map]; exact hd
    obtain ⟨y0, hy0⟩ : ∃ y, nth (d.map (fof p)) 0 = y := ⟨_, rfl⟩
    obtain ⟨y1, hy1⟩ : ∃ y, nth (d.map (fof p)) 1 = y := ⟨_, rfl⟩
    obtain ⟨y2, hy2⟩ : ∃ y, nth (d.map (fof p)) 2 = y := ⟨_, rfl⟩
    obtain ⟨y3, hy3⟩ : ∃ y, nth (d.map (fof p)) 3 = y := ⟨_, rfl⟩
    have HY0 := Lib.hid hy0; have HY1 := Lib.hid hy1; have HY2 := Lib.hid hy2; have HY3 := Lib.hid hy3
    have HDL := Lib.hid hdl; have HD4 := Lib.hid hd; have HF := Lib.hid hf; have HIX := Lib.hid hix; have HROW := Lib.hid hrow; have HTL := Lib.hid htl; have HL0 := Lib.hid hL0; have HHID := Lib.hid hhid; have HBE := Lib.hid hb; have HNB := Lib.hid hN; have H1 := Lib.hid h1
    have HWF := Lib.hid (show Wf64 (a : Int) ∧ Wf64 b from by unfold Wf64; omega)
    have CS := Lib.hid (fun W (h : Ints W pv pl) => by have := shows_any h hasc.le hpl (a : Int) b; rw [hsh] at this; exact this)
    have hX1 := (Ext.alloc W (Obj.cells #[pv, rv, nvo] 31)).trans (Ext.alloc _ (Obj.cells #[.int .i64 a, .int .i64 b] 127))
    have k0 := (Ext.alloc _ (Obj.cells #[.int .i64 a, .int .i64 b] 127)).cell (cell_new W #[pv, rv, nvo] 31 0)
    have k3 := cell_new (W.alloc (Obj.cells #[pv, rv, nvo] 31)) #[.int .i64 a, .int .i64 b] 127 0
    have k4 := cell_new (W.alloc (Obj.cells #[pv, rv, nvo] 31)) #[.int .i64 a, .int .i64 b] 127 1
    rw [World.size_alloc] at k3 k4
    have HX1 := Lib.hid hX1; have HK0 := Lib.hid k0; have HK3 := Lib.hid k3; have HK4 := Lib.hid k4
    have HXW := Lib.hid (hW.trans hX1); have HWAY := Lib.hid hway; have HP := Lib.hid hp; have HSC := Lib.hid hsp.c0; have HCX0 := Lib.hid hcx
    clear hp hasc hW hway hn hcnt hd4 hLn hhid he hsp hf hix hcx hrow htl hea hsh hb hdl hd hy0 hy1 hy2 hy3 hX1 k0 k3 k4 hL0
    go_enter Tryz.func145, Tryz.ntmps145
    go_upto_region 1 with (fail)
    generalize (W.alloc (Obj.cells #[pv, rv, nvo] 31)).alloc (Obj.cells #[.int .i64 a, .int .i64 b] 127) = W1 at *
    have k0 : W1.cell? ⟨W.heap.size, 0, none⟩ = some pv := HK0.out
    have k3 : W1.cell? ⟨W.heap.size + 1, 0, none⟩ = some (.int .i64 a) := HK3.out
    have k4 : W1.cell? ⟨W.heap.size + 1, 1, none⟩ = some (.int .i64 b) := HK4.out
    clear HK0 HK3 HK4
    go_upto_region 2 with (go_at_call 130; refine (CS.out _ (HP.out.ext HXW.out)).mono ?_; rintro e w1 ⟨rfl, hx1⟩; have q3 := hx1.cell k3; have q4 := hx1.cell k4; have HXA := Lib.hid (HXW.out.trans hx1); have HXT := Lib.hid (HX1.out.trans hx1); clear hx1 k0 k3 k4 CS)
    have HWE := Lib.hid (HWAY.out.ext HXT.out)
    have d0 : w1.cell? ⟨wb, 0, none⟩ = some (.map (some mb)) := HWE.out.blk.cell 0
    have sc := HXA.out.cell HSC.out
    have HCX := Lib.hid (HXA.out.cell HCX0.out)
    refine wp_region_ext 13 [SP.eq (.pointer (some ⟨wb, 0, none⟩)), SP.eq (.pointer (some ⟨wb, 0, none⟩)), SP.eq (.pointer (some ⟨wb, 0, none⟩)), SP.eq (.map (some mb)), SP.eq (.agg #[.int .i64 (a : Int), .int .i64 b]), SP.eq (.pointer (some ⟨bs, 0, none⟩)), SP.eq (.pointer (some ⟨bf, 0, none⟩)), SP.eq nv, SP.eq (.pointer (some ea)), SP.eq (NR 0), SP.ints (d.map (fof p)), SP.arr (d.map (fof p)), SP.eq (.agg #[.int .i64 y0, .int .i64 y1, .int .i64 y2, .int .i64 y3])] (by kernel_rfl) (by kernel_rfl) (by kernel_rfl) ?_ ?_
    · refine ⟨?_, ?_, ?_, ?_, ?_, ?_, ?_, ?_, ?_, ?_, ?_, ?_, ?_, trivial⟩
      · refine ExtStep.mk rfl fun vs W hx hd => ?_
        clear hd
        simp only [fillA, fillL, dstL, List.take_succ_cons, List.take_zero, List.filterMap_cons, List.filterMap_nil, List.contains_cons, List.contains_nil, Nat.reduceAdd, Nat.zero_add, Nat.reduceBEq, Bool.or_false, Bool.or_true, Bool.false_eq_true, ↓reduceIte]
        go_wp2_with fail
        exact ⟨by trivial, Ext.refl _, rfl⟩
      · refine ExtStep.mk rfl fun vs W hx hd => ?_
        have e23 : vs 23 = (.pointer (some ⟨wb, 0, none⟩)) := hd 0 (by kernel_rfl)
        clear hd
        simp only [fillA, fillL, dstL, List.take_succ_cons, List.take_zero, List.filterMap_cons, List.filterMap_nil, List.contains_cons, List.contains_nil, Nat.reduceAdd, Nat.zero_add, Nat.reduceBEq, Bool.or_false, Bool.or_true, Bool.false_eq_true, ↓reduceIte]
        rw [e23]
        go_wp2_with fail
        exact ⟨by trivial, Ext.refl _, rfl⟩
      · refine ExtStep.mk rfl fun vs W hx hd => ?_
        have e24 : vs 24 = (.pointer (some ⟨wb, 0, none⟩)) := hd 1 (by kernel_rfl)
        clear hd
        simp only [fillA, fillL, dstL, List.take_succ_cons, List.take_zero, List.filterMap_cons, List.filterMap_nil, List.contains_cons, List.contains_nil, Nat.reduceAdd, Nat.zero_add, Nat.reduceBEq, Bool.or_false, Bool.or_true, Bool.false_eq_true, ↓reduceIte]
        rw [e24]
        go_wp2_with fail
        exact ⟨by trivial, Ext.refl _, rfl⟩
      · refine ExtStep.mk rfl fun vs W hx hd => ?_
        have e25 : vs 25 = (.pointer (some ⟨wb, 0, none⟩)) := hd 2 (by kernel_rfl)
        clear hd
        simp only [fillA, fillL, dstL, List.take_succ_cons, List.take_zero, List.filterMap_cons, List.filterMap_nil, List.contains_cons, List.contains_nil, Nat.reduceAdd, Nat.zero_add, Nat.reduceBEq, Bool.or_false, Bool.or_true, Bool.false_eq_true, ↓reduceIte]
        rw [e25]
        have hk := hx.cell d0
        go_wp2_with fail
        exact ⟨by trivial, Ext.refl _, rfl⟩
      · refine ExtStep.mk rfl fun vs W hx hd => ?_
        clear hd
        simp only [fillA, fillL, dstL, List.take_succ_cons, List.take_zero, List.filterMap_cons, List.filterMap_nil, List.contains_cons, List.contains_nil, Nat.reduceAdd, Nat.zero_add, Nat.reduceBEq, Bool.or_false, Bool.or_true, Bool.false_eq_true, ↓reduceIte]
        have hk0 := hx.cell q3
        have hk1 := hx.cell q4
        go_wp2_with fail
        exact ⟨by trivial, Ext.refl _, rfl⟩
      · refine ExtStep.mk rfl fun vs W hx hd => ?_
        clear hd
        simp only [fillA, fillL, dstL, List.take_succ_cons, List.take_zero, List.filterMap_cons, List.filterMap_nil, List.contains_cons, List.contains_nil, Nat.reduceAdd, Nat.zero_add, Nat.reduceBEq, Bool.or_false, Bool.or_true, Bool.false_eq_true, ↓reduceIte]
        go_wp2_with fail
        exact ⟨by trivial, Ext.refl _, rfl⟩
      · refine ExtStep.mk rfl fun vs W hx hd => ?_
        have e28 : vs 28 = (.pointer (some ⟨bs, 0, none⟩)) := hd 5 (by kernel_rfl)
        clear hd
        simp only [fillA, fillL, dstL, List.take_succ_cons, List.take_zero, List.filterMap_cons, List.filterMap_nil, List.contains_cons, List.contains_nil, Nat.reduceAdd, Nat.zero_add, Nat.reduceBEq, Bool.or_false, Bool.or_true, Bool.false_eq_true, ↓reduceIte]
        rw [e28]
        go_wp2_with (go_at_call 18; refine (sfieldof_any (hx.cell sc)).mono ?_; rintro e w3 ⟨rfl, rfl⟩)
        exact ⟨by trivial, Ext.refl _, rfl⟩
      · refine ExtStep.mk rfl fun vs W hx hd => ?_
        clear hd
        simp only [fillA, fillL, dstL, List.take_succ_cons, List.take_zero, List.filterMap_cons, List.filterMap_nil, List.contains_cons, List.contains_nil, Nat.reduceAdd, Nat.zero_add, Nat.reduceBEq, Bool.or_false, Bool.or_true, Bool.false_eq_true, ↓reduceIte]
        go_wp2_with fail
        exact ⟨by trivial, Ext.refl _, rfl⟩
      · refine ExtStep.mk rfl fun vs W hx hd => ?_
        have e30 : vs 30 = nv := hd 7 (by kernel_rfl)
        clear hd
        simp only [fillA, fillL, dstL, List.take_succ_cons, List.take_zero, List.filterMap_cons, List.filterMap_nil, List.contains_cons, List.contains_nil, Nat.reduceAdd, Nat.zero_add, Nat.reduceBEq, Bool.or_false, Bool.or_true, Bool.false_eq_true, ↓reduceIte]
        rw [e30]
        have hix := HIX.out
        go_wp2_with fail
        exact ⟨by trivial, Ext.refl _, rfl⟩
      · refine ExtStep.mk rfl fun vs W hx hd => ?_
        have e31 : vs 31 = (.pointer (some ea)) := hd 8 (by kernel_rfl)
        clear hd
        simp only [fillA, fillL, dstL, List.take_succ_cons, List.take_zero, List.filterMap_cons, List.filterMap_nil, List.contains_cons, List.contains_nil, Nat.reduceAdd, Nat.zero_add, Nat.reduceBEq, Bool.or_false, Bool.or_true, Bool.false_eq_true, ↓reduceIte]
        rw [e31]
        have hcx := hx.cell HCX.out
        go_wp2_with fail
        exact ⟨by trivial, Ext.refl _, rfl⟩
      · refine ExtStep.mk rfl fun vs W hx hd => ?_
        have e29 : vs 29 = (.pointer (some ⟨bf, 0, none⟩)) := hd 6 (by kernel_rfl)
        have e32 : vs 32 = (NR 0) := hd 9 (by kernel_rfl)
        clear hd
        simp only [fillA, fillL, dstL, List.take_succ_cons, List.take_zero, List.filterMap_cons, List.filterMap_nil, List.contains_cons, List.contains_nil, Nat.reduceAdd, Nat.zero_add, Nat.reduceBEq, Bool.or_false, Bool.or_true, Bool.false_eq_true, ↓reduceIte]
        rw [e29, e32]
        go_wp2_with (go_at_call 88; refine (elements_any (HF.out.ext (HXA.out.trans hx)) (HROW.out.ext (HXA.out.trans hx)) (by have := HD4.out; omega)).mono ?_; rintro e w3 ⟨v3, rfl, hx3, ho3⟩)
        exact ⟨by trivial, hx3, Ints.of_own ho3⟩
      · refine ExtStep.mk rfl fun vs W hx hd => ?_
        have h33 : Ints W (vs 33) (d.map (fof p)) := hd 10 (by kernel_rfl)
        clear hd
        simp only [fillA, fillL, dstL, List.take_succ_cons, List.take_zero, List.filterMap_cons, List.filterMap_nil, List.contains_cons, List.contains_nil, Nat.reduceAdd, Nat.zero_add, Nat.reduceBEq, Bool.or_false, Bool.or_true, Bool.false_eq_true, ↓reduceIte]
        obtain ⟨aq, af, ac, ae, acl⟩ := arr_of h33 (by rw [HDL.out]; omega)
        rw [ae, HDL.out]
        have har := run_arr4 aq af ac W
        go_wp2_with fail
        exact ⟨by trivial, Ext.refl _, ⟨aq, af, rfl, acl⟩⟩
      · refine ExtStep.mk rfl fun vs W hx hd => ?_
        have h34 : (SP.arr (d.map (fof p))).p (vs 34) W := hd 11 (by kernel_rfl)
        clear hd
        simp only [fillA, fillL, dstL, List.take_succ_cons, List.take_zero, List.filterMap_cons, List.filterMap_nil, List.contains_cons, List.contains_nil, Nat.reduceAdd, Nat.zero_add, Nat.reduceBEq, Bool.or_false, Bool.or_true, Bool.false_eq_true, ↓reduceIte]
        obtain ⟨aq, af, ae, acl⟩ := h34
        have ac0 := acl 0 (by rw [HDL.out]; omega)
        have ac1 := acl 1 (by rw [HDL.out]; omega)
        have ac2 := acl 2 (by rw [HDL.out]; omega)
        have ac3 := acl 3 (by rw [HDL.out]; omega)
        rw [HY0.out] at ac0
        rw [HY1.out] at ac1
        rw [HY2.out] at ac2
        rw [HY3.out] at ac3
        rw [Nat.add_zero] at ac0
        rw [ae]
        clear acl
        go_wp2_with fail
        exact ⟨by trivial, Ext.refl _, rfl⟩
    · intro vs w5 hx5 hall
      have e26 : vs 26 = (.map (some mb)) := hall.at 3 (by omega) rfl
      have e27 : vs 27 = (.agg #[.int .i64 (a : Int), .int .i64 b]) := hall.at 4 (by omega) rfl
      have e35 : vs 35 = (.agg #[.int .i64 y0, .int .i64 y1, .int .i64 y2, .int .i64 y3]) := hall.at 12 (by omega) rfl
      clear hall
      simp only [fillA, fillL, dstL, List.take_succ_cons, List.take_zero, List.filterMap_cons, List.filterMap_nil, List.contains_cons, List.contains_nil, Nat.reduceAdd, Nat.zero_add, Nat.reduceBEq, Bool.or_false, Bool.or_true, Bool.false_eq_true, ↓reduceIte]
      rw [e26, e27, e35]
      obtain ⟨w6, hr6, hg6, hw6⟩ := (HWE.out.ext hx5).put (by have := HNB.out; omega) HWF.out.1 HWF.out.2 (d.map (fof p))
      rw [digV_four HDL.out, HY0.out, HY1.out, HY2.out, HY3.out] at hr6
      have HG6 := Lib.hid hg6; have HW6 := Lib.hid hw6; have HX5 := Lib.hid hx5
      have hsl := HTL.out.1
      clear hg6 hw6 hx5 d0 q3 q4 sc
      go_wp2_with fail
      go_ret
      refine ⟨_, _, _, _, rfl, by rw [HHID.out]; exact HTL.out.2, ((Turned.of_ext HXT.out).trans (Turned.of_ext HX5.out)).trans (Turned.one HG6.out), HW6.out.mono (by have := H1.out; omega), ?_, fun x y hxy hn => ⟨updP_other _ _ (fun h => hn (by have := HBE.out; omega)), rfl⟩⟩
      simp only [Wkd]
      rw [if_neg (by rw [HSHE.out]; decide)]
      exact ⟨d, r, rfl, HD4.out, by rw [HBE.out]; exact updP_same _ _ _ _, by rw [HBE.out]; exact HL0.out⟩
set_option maxRecDepth 100000 in
set_option maxHeartbeats 16000000 in
theorem work_one (hs : Spg w0 (.pointer (some ⟨bs, 0, none⟩)) p k) (hp : Ints w0 pv pl) (hr : RwsAt w0 rv rows RR) (hasc : Asc pl) (hpl : pl.length ≤ 1000000) (hrl : rows.length = pl.length) (hrw : ∀ i, i < rows.length → (nthL rows i).length ≤ 4294960000) (hmb : w0.heap.size ≤ mb) (hlb : w0.heap.size ≤ lb)
    (f a : Nat) (h3 : a + 1 ≤ 65536) (hsh : sho pl a ((a : Int) + (1 : Nat)) = true) (W : World) (nv : Value) (nodes : List (List Int)) (NR : Nat → Value) (N : Nat) (D L : Int → Int → Option (List Int)) (hW : Ext w0 W) (hway : WayAt W wb mb lb N D L) (hn : RwsAt w0 nv nodes NR) (hN : N + 2 * 1 ≤ 1000000) :
    Calls Tryz.prog 145 #[.pointer (some ⟨wb, 0, none⟩), .pointer (some ⟨bs, 0, none⟩), .agg #[pv, rv, nvo], .agg #[.int .i64 a, .int .i64 ((a : Int) + (1 : Nat))], nv] W (WorkGot w0 W wb mb lb p k pl rows (f + 1) a 1 nodes N D L) := by
  have hhid : hidN pl (f + 1) a 1 = 0 := by simp only [hidN]; rw [if_pos hsh]; rfl
  obtain ⟨sb, bf, rt, g, fs, he, hsp, hf, hkk⟩ := hs
  obtain rfl : bs = sb := by simpa using he
  have HS := Lib.hid (show Spg w0 (.pointer (some ⟨bs, 0, none⟩)) p k from ⟨bs, bf, rt, g, fs, rfl, hsp, hf, hkk⟩)
  obtain ⟨c, hc⟩ : ∃ c, pl.countP (· < (a : Int)) = c := ⟨_, rfl⟩
  have hso := hsh
  rw [sho_search hasc.le, hc, Bool.and_eq_true, decide_eq_true_eq] at hso
  have hcr : c < rows.length := by omega
  obtain ⟨row, hrow0⟩ : ∃ row, nthL rows c = row := ⟨_, rfl⟩
  have hix := hr.run_index (P := Tryz.prog) slRows c hcr
  have hcx := hr.cell c hcr
  have hrow := hr.row c hcr
  have hrl2 := hrw c hcr
  rw [hrow0] at hrow hrl2
  obtain ⟨ea, hea⟩ : ∃ ea, elt rv c 1 = ea := ⟨_, rfl⟩
  rw [hea] at hix hcx
  have HROWE := Lib.hid (show rowOf pl rows a = row from by unfold rowOf; rw [hc]; exact hrow0)
  have HSHE := Lib.hid hsh
  obtain ⟨b, hb⟩ : ∃ b : Int, (a : Int) + (1 : Nat) = b := ⟨_, rfl⟩
  rw [hb] at hsh ⊢
  have hbb : (a : Int) < b ∧ b ≤ 65536 := by omega
  have hb1 : ((b - (a : Int)) == 1) = true := by rw [beq_iff_eq]; omega
  obtain ⟨rm, hrm⟩ : ∃ rm, row.map (fof p) = rm := ⟨_, rfl⟩
  have hrml : rm.length = row.length := by rw [← hrm, List.length_map]
  obtain ⟨ls, hls⟩ : ∃ ls, (0 : Int) :: rm = ls := ⟨_, rfl⟩
  obtain ⟨y0, hy0⟩ : ∃ y, nth (hashP p k ls) 0 = y := ⟨_, rfl⟩
  obtain ⟨y1, hy1⟩ : ∃ y, nth (hashP p k ls) 1 = y := ⟨_, rfl⟩
  obtain ⟨y2, hy2⟩ : ∃ y, nth (hashP p k ls) 2 = y := ⟨_, rfl⟩
  obtain ⟨y3, hy3⟩ : ∃ y, nth (hashP p k ls) 3 = y := ⟨_, rfl⟩
  have HY0 := Lib.hid hy0; have HY1 := Lib.hid hy1; have HY2 := Lib.hid hy2; have HY3 := Lib.hid hy3
  have HLS := Lib.hid (show ls.length ≤ 4294967000 from by rw [← hls]; simp; omega)
  have HLSE := Lib.hid hls
  have HF := Lib.hid hf; have HIX := Lib.hid hix; have HROW := Lib.hid hrow; have HHID := Lib.hid hhid; have HBE := Lib.hid hb; have HNB := Lib.hid hN; have HRL2 := Lib.hid (show row.length ≤ 4294967000 from by omega); have HNR := Lib.hid hn
  have HRL3 := Lib.hid (show rm.length ≤ 4294960000 from by omega); have HRM := Lib.hid hrm
  have HWF := Lib.hid (show Wf64 (a : Int) ∧ Wf64 b from by unfold Wf64; omega)
  have CS := Lib.hid (fun W (h : Ints W pv pl) => by have := shows_any h hasc.le hpl (a : Int) b; rw [hsh] at this; exact this)
  have CB := Lib.hid (fun W (h : Ints W pv pl) => by have := psearch_any h hasc.le (by omega) (a : Int); rw [hc] at this; exact this)
  have hX1 := (Ext.alloc W (Obj.cells #[pv, rv, nvo] 31)).trans (Ext.alloc _ (Obj.cells #[.int .i64 a, .int .i64 b] 127))
  have k0 := (Ext.alloc _ (Obj.cells #[.int .i64 a, .int .i64 b] 127)).cell (cell_new W #[pv, rv, nvo] 31 0)
  have k1 := (Ext.alloc _ (Obj.cells #[.int .i64 a, .int .i64 b] 127)).cell (cell_new W #[pv, rv, nvo] 31 1)
  have k3 := cell_new (W.alloc (Obj.cells #[pv, rv, nvo] 31)) #[.int .i64 a, .int .i64 b] 127 0
  have k4 := cell_new (W.alloc (Obj.cells #[pv, rv, nvo] 31)) #[.int .i64 a, .int .i64 b] 127 1
  rw [World.size_alloc] at k3 k4
  have HQM := Lib.hid (show mb < W.heap.size ∧ lb < W.heap.size from ⟨hway.dig.lt, let ⟨LV, h1, _⟩ := hway.lst; h1.lt⟩)
  have HX1 := Lib.hid hX1; have HK0 := Lib.hid k0; have HK1 := Lib.hid k1; have HK3 := Lib.hid k3; have HK4 := Lib.hid k4
  have HXW := Lib.hid (hW.trans hX1); have HWAY := Lib.hid hway; have HP := Lib.hid hp; have HSC := Lib.hid hsp.c0; have HCX0 := Lib.hid hcx
  clear hrm hrml hp hr hasc hW hway hn hhid he hsp hf hix hcx hrow hrl hrw hrl2 hea hsh hso hb hc hrow0 hls hy0 hy1 hy2 hy3 hX1 k0 k1 k3 k4 hcr
  go_enter Tryz.func145, Tryz.ntmps145
  go_upto_region 1 with (fail)
  generalize (W.alloc (Obj.cells #[pv, rv, nvo] 31)).alloc (Obj.cells #[.int .i64 a, .int .i64 b] 127) = W1 at *
  generalize W.heap.size = q1 at *
  have k0 : W1.cell? ⟨q1, 0, none⟩ = some pv := HK0.out
  have k1 : W1.cell? ⟨q1, 1, none⟩ = some rv := HK1.out
  have k3 : W1.cell? ⟨q1 + 1, 0, none⟩ = some (.int .i64 a) := HK3.out
  have k4 : W1.cell? ⟨q1 + 1, 1, none⟩ = some (.int .i64 b) := HK4.out
  clear HK0 HK1 HK3 HK4
  go_upto_region 5 with (go_at_call 130; refine (CS.out _ (HP.out.ext HXW.out)).mono ?_; rintro e w1 ⟨rfl, hx1⟩; have q0 := hx1.cell k0; have q1c := hx1.cell k1; have q3 := hx1.cell k3; have q4 := hx1.cell k4; have HXA := Lib.hid (HXW.out.trans hx1); have HXT := Lib.hid (HX1.out.trans hx1); clear hx1 k0 k1 k3 k4 CS)
  go_upto_region 7 with (go_at_call 161; refine (CB.out _ (HP.out.ext HXA.out)).mono ?_; rintro e w2 ⟨rfl, m2, rfl⟩)
  have HXQ := Lib.hid (Ext.drewN w1 m2)
  have HXB := Lib.hid (HXA.out.trans HXQ.out)
  have HXT2 := Lib.hid (HXT.out.trans HXQ.out)
  replace q1c := HXQ.out.cell q1c
  replace q3 := HXQ.out.cell q3
  replace q4 := HXQ.out.cell q4
  generalize w1.drewN m2 = w2 at *
  have HCX := Lib.hid (HXB.out.cell HCX0.out)
  have sc := HXB.out.cell HSC.out
  clear q0
  refine wp_region_ext 10 [SP.eq (.pointer (some ⟨bs, 0, none⟩)), SP.eq (.pointer (some ⟨bf, 0, none⟩)), SP.eq (.pointer (some ⟨q1, 1, none⟩)), SP.eq rv, SP.eq (.int .i64 (c : Int)), SP.eq (.pointer (some ea)), SP.eq (RR c), SP.ints (rm), SP.rows [rm], SP.ints (0 :: rm)] (by kernel_rfl) (by kernel_rfl) (by kernel_rfl) ?_ ?_
  · refine ⟨?_, ?_, ?_, ?_, ?_, ?_, ?_, ?_, ?_, ?_, trivial⟩
    · refine ExtStep.mk rfl fun vs W hx hd => ?_
      clear hd
      simp only [fillA, fillL, dstL, List.take_succ_cons, List.take_zero, List.filterMap_cons, List.filterMap_nil, List.contains_cons, List.contains_nil, Nat.reduceAdd, Nat.zero_add, Nat.reduceBEq, Bool.or_false, Bool.or_true, Bool.false_eq_true, ↓reduceIte]
      go_wp2_with fail
      exact ⟨by trivial, Ext.refl _, rfl⟩
    · refine ExtStep.mk rfl fun vs W hx hd => ?_
      have e52 : vs 52 = (.pointer (some ⟨bs, 0, none⟩)) := hd 0 (by kernel_rfl)
      clear hd
      simp only [fillA, fillL, dstL, List.take_succ_cons, List.take_zero, List.filterMap_cons, List.filterMap_nil, List.contains_cons, List.contains_nil, Nat.reduceAdd, Nat.zero_add, Nat.reduceBEq, Bool.or_false, Bool.or_true, Bool.false_eq_true, ↓reduceIte]
      rw [e52]
      go_wp2_with (go_at_call 18; refine (sfieldof_any (hx.cell sc)).mono ?_; rintro e w3 ⟨rfl, rfl⟩)
      exact ⟨by trivial, Ext.refl _, rfl⟩
    · refine ExtStep.mk rfl fun vs W hx hd => ?_
      clear hd
      simp only [fillA, fillL, dstL, List.take_succ_cons, List.take_zero, List.filterMap_cons, List.filterMap_nil, List.contains_cons, List.contains_nil, Nat.reduceAdd, Nat.zero_add, Nat.reduceBEq, Bool.or_false, Bool.or_true, Bool.false_eq_true, ↓reduceIte]
      go_wp2_with fail
      exact ⟨by trivial, Ext.refl _, rfl⟩
    · refine ExtStep.mk rfl fun vs W hx hd => ?_
      have e54 : vs 54 = (.pointer (some ⟨q1, 1, none⟩)) := hd 2 (by kernel_rfl)
      clear hd
      simp only [fillA, fillL, dstL, List.take_succ_cons, List.take_zero, List.filterMap_cons, List.filterMap_nil, List.contains_cons, List.contains_nil, Nat.reduceAdd, Nat.zero_add, Nat.reduceBEq, Bool.or_false, Bool.or_true, Bool.false_eq_true, ↓reduceIte]
      rw [e54]
      have hk := hx.cell q1c
      go_wp2_with fail
      exact ⟨by trivial, Ext.refl _, rfl⟩
    · refine ExtStep.mk rfl fun vs W hx hd => ?_
      clear hd
      simp only [fillA, fillL, dstL, List.take_succ_cons, List.take_zero, List.filterMap_cons, List.filterMap_nil, List.contains_cons, List.contains_nil, Nat.reduceAdd, Nat.zero_add, Nat.reduceBEq, Bool.or_false, Bool.or_true, Bool.false_eq_true, ↓reduceIte]
      go_wp2_with fail
      exact ⟨by trivial, Ext.refl _, rfl⟩
    · refine ExtStep.mk rfl fun vs W hx hd => ?_
      have e55 : vs 55 = rv := hd 3 (by kernel_rfl)
      have e56 : vs 56 = (.int .i64 (c : Int)) := hd 4 (by kernel_rfl)
      clear hd
      simp only [fillA, fillL, dstL, List.take_succ_cons, List.take_zero, List.filterMap_cons, List.filterMap_nil, List.contains_cons, List.contains_nil, Nat.reduceAdd, Nat.zero_add, Nat.reduceBEq, Bool.or_false, Bool.or_true, Bool.false_eq_true, ↓reduceIte]
      rw [e55, e56]
      have hix := HIX.out
      go_wp2_with fail
      exact ⟨by trivial, Ext.refl _, rfl⟩
    · refine ExtStep.mk rfl fun vs W hx hd => ?_
      have e57 : vs 57 = (.pointer (some ea)) := hd 5 (by kernel_rfl)
      clear hd
      simp only [fillA, fillL, dstL, List.take_succ_cons, List.take_zero, List.filterMap_cons, List.filterMap_nil, List.contains_cons, List.contains_nil, Nat.reduceAdd, Nat.zero_add, Nat.reduceBEq, Bool.or_false, Bool.or_true, Bool.false_eq_true, ↓reduceIte]
      rw [e57]
      have hcx := hx.cell HCX.out
      go_wp2_with fail
      exact ⟨by trivial, Ext.refl _, rfl⟩
    · refine ExtStep.mk rfl fun vs W hx hd => ?_
      have e53 : vs 53 = (.pointer (some ⟨bf, 0, none⟩)) := hd 1 (by kernel_rfl)
      have e58 : vs 58 = (RR c) := hd 6 (by kernel_rfl)
      clear hd
      simp only [fillA, fillL, dstL, List.take_succ_cons, List.take_zero, List.filterMap_cons, List.filterMap_nil, List.contains_cons, List.contains_nil, Nat.reduceAdd, Nat.zero_add, Nat.reduceBEq, Bool.or_false, Bool.or_true, Bool.false_eq_true, ↓reduceIte]
      rw [e53, e58]
      go_wp2_with (go_at_call 88; refine (elements_any (HF.out.ext (HXB.out.trans hx)) (HROW.out.ext (HXB.out.trans hx)) HRL2.out).mono ?_; rintro e w3 ⟨v3, rfl, hx3, ho3⟩)
      exact ⟨by trivial, hx3, by rw [← HRM.out]; exact Ints.of_own ho3⟩
    · refine ExtStep.mk rfl fun vs W hx hd => ?_
      have h59 : Ints W (vs 59) (rm) := hd 7 (by kernel_rfl)
      clear hd
      simp only [fillA, fillL, dstL, List.take_succ_cons, List.take_zero, List.filterMap_cons, List.filterMap_nil, List.contains_cons, List.contains_nil, Nat.reduceAdd, Nat.zero_add, Nat.reduceBEq, Bool.or_false, Bool.or_true, Bool.false_eq_true, ↓reduceIte]
      obtain ⟨a9, c9, e59⟩ := h59.shape
      rw [e59] at h59
      rw [e59]
      go_wp2_with fail
      exact ⟨by trivial, Ext.alloc _ _, ⟨_, rows_lit1 h59 _⟩⟩
    · refine ExtStep.mk rfl fun vs W hx hd => ?_
      have h60 : Rws W (vs 60) [rm] := hd 8 (by kernel_rfl)
      clear hd
      simp only [fillA, fillL, dstL, List.take_succ_cons, List.take_zero, List.filterMap_cons, List.filterMap_nil, List.contains_cons, List.contains_nil, Nat.reduceAdd, Nat.zero_add, Nat.reduceBEq, Bool.or_false, Bool.or_true, Bool.false_eq_true, ↓reduceIte]
      obtain ⟨R60, h60⟩ := h60
      go_wp2_with (go_at_call 126; refine (tjoined_any 0 h60 (by have := HRL3.out; simp; omega) (by simp)).mono ?_; rintro e w3 ⟨v3, rfl, hx3, hi3⟩; replace hi3 : Ints w3 v3 (0 :: rm) := by simpa using hi3)
      exact ⟨by trivial, hx3, hi3⟩
  · intro vs w3 hx3 hall
    have h61 : Ints w3 (vs 61) (0 :: rm) := hall.at 9 (by omega) rfl
    clear hall
    simp only [fillA, fillL, dstL, List.take_succ_cons, List.take_zero, List.filterMap_cons, List.filterMap_nil, List.contains_cons, List.contains_nil, Nat.reduceAdd, Nat.zero_add, Nat.reduceBEq, Bool.or_false, Bool.or_true, Bool.false_eq_true, ↓reduceIte]
    rw [HLSE.out] at h61
    have HVL := Lib.hid h61
    have HXE := Lib.hid (HXB.out.trans hx3)
    have HXT3 := Lib.hid (HXT2.out.trans hx3)
    have HWE := Lib.hid (HWAY.out.ext HXT3.out)
    have HNE := Lib.hid (show N ≤ 1000000 from by have := HNB.out; omega)
    replace q3 := hx3.cell q3
    replace q4 := hx3.cell q4
    have m0 : w3.cell? ⟨wb, 0, none⟩ = some (.map (some mb)) := HWE.out.blk.cell 0
    have m1 : w3.cell? ⟨wb, 1, none⟩ = some (.map (some lb)) := HWE.out.blk.cell 1
    clear h61 hx3 q1c sc
    generalize vs 61 = vl at *
    have HNN := Lib.hid HWE.out.n1
    have HTC : Hid (∀ W, Turned mb lb w3 W → W.cell? ⟨wb, 0, none⟩ = some (.map (some mb)) ∧ W.cell? ⟨wb, 1, none⟩ = some (.map (some lb)) ∧ W.cell? ⟨q1 + 1, 0, none⟩ = some (.int .i64 a) ∧ W.cell? ⟨q1 + 1, 1, none⟩ = some (.int .i64 b) ∧ Ext w0 W ∧ Ints W vl ls ∧ lb < W.heap.size ∧ mb < W.heap.size) := Lib.hid fun W hT => ⟨hT.cell m0 HWE.out.n2 HWE.out.n3, hT.cell m1 HWE.out.n2 HWE.out.n3, hT.cell q3 (by have := HQM.out; show q1 + 1 ≠ mb; omega) (by have := HQM.out; show q1 + 1 ≠ lb; omega), hT.cell q4 (by have := HQM.out; show q1 + 1 ≠ mb; omega) (by have := HQM.out; show q1 + 1 ≠ lb; omega), hT.ext HXE.out hmb hlb, HWE.out.ints_kept hT HVL.out, by have h1 := hT.size; obtain ⟨LV, h2, -⟩ := HWE.out.lst; have := h2.lt; omega, by have h1 := hT.size; have := HWE.out.dig.lt; omega⟩
    obtain ⟨LV, HLV⟩ : ∃ LV, Hid (Mpv Tryz.prog 127 w3 lb N (grpM LV) ∧ ∀ x y, (L x y = none ∧ LV x y = none) ∨ ∃ v l, LV x y = some v ∧ L x y = some l ∧ Ints w3 v l) := (let ⟨LV, h1, h2⟩ := HWE.out.lst; ⟨LV, Lib.hid ⟨h1, h2⟩⟩)
    clear m0 m1 q3 q4
    generalize w3 = wE at *
    go_upto_region 12 with (fail)
    refine wp_region_chain 22 rfl (phiM (mb := mb) (lb := lb) [SM.eq (.pointer (some ⟨wb, 0, none⟩)), SM.eq (.pointer (some ⟨wb, 0, none⟩)), SM.eq (.pointer (some ⟨wb, 1, none⟩)), SM.eq (.map (some lb)), SM.eq (.agg #[.int .i64 (a : Int), .int .i64 b]), SM.eq (.pointer (some ⟨wb, 0, none⟩)), SM.eq (.pointer (some ⟨wb, 0, none⟩)), SM.eq (.pointer (some ⟨wb, 0, none⟩)), SM.eq (.map (some mb)), SM.eq (.agg #[.int .i64 (a : Int), .int .i64 b]), SM.eq vl, SM.eq (.pointer (some ⟨bs, 0, none⟩)), SM.eq vl, SM.ints (hashP p k ls), SM.arr (hashP p k ls), SM.eq (.agg #[.int .i64 y0, .int .i64 y1, .int .i64 y2, .int .i64 y3]), SM.top, SM.top, SM.top, SM.top, SM.top, SM.top]) [16, 17, 18, 19, 20, 21] (PutSta wE mb lb N D LV (a : Int) b vl (hashP p k ls)) (fun c W W' => W.grownBy W' (putB mb lb c)) (by kernel_rfl) (by kernel_rfl) (by kernel_rfl) (fun j _ u W W' hu hg => by rcases hg with hg | ⟨c, _, hg⟩; exact phiM_stab _ j none (.inl rfl) u W W' hu hg; exact phiM_stab _ j _ (putB_in mb lb c) u W W' hu hg) (fun j hj hd u W => by have hj2 : j = 16 ∨ j = 17 ∨ j = 18 ∨ j = 19 ∨ j = 20 ∨ j = 21 := (by simpa using hj); rcases hj2 with rfl | rfl | rfl | rfl | rfl | rfl <;> trivial) (fun k vs vs' W W' h hg hs => h.free hg (hs 0 (by decide) 110 rfl) (hs 1 (by decide) 111 rfl) (hs 3 (by decide) 112 rfl) (hs 4 (by decide) 113 rfl)) ⟨Turned.of_ext (Ext.drew _), HLV.out.1.ext (Ext.drew _), HWE.out.dig.ext (Ext.drew _)⟩ ?_ ?_
    · refine ⟨?_, ?_, ?_, ?_, ?_, ?_, ?_, ?_, ?_, ?_, ?_, ?_, ?_, ?_, ?_, ?_, ?_, ?_, ?_, ?_, ?_, ?_, trivial⟩
      · refine bifF rfl (FreeStep.mk rfl fun vs W hk hd => ?_)
        clear hd
        clear hk
        simp only [fillA, fillL, dstL, List.take_succ_cons, List.take_zero, List.filterMap_cons, List.filterMap_nil, List.contains_cons, List.contains_nil, Nat.reduceAdd, Nat.zero_add, Nat.reduceBEq, Bool.or_false, Bool.or_true, Bool.false_eq_true, ↓reduceIte]
        go_wp2_with fail
        exact ⟨by trivial, World.grownBy.refl _ _, rfl⟩
      · refine bifF rfl (FreeStep.mk rfl fun vs W hk hd => ?_)
        have e94 : vs 94 = (.pointer (some ⟨wb, 0, none⟩)) := hd 0 (by kernel_rfl)
        clear hd
        clear hk
        simp only [fillA, fillL, dstL, List.take_succ_cons, List.take_zero, List.filterMap_cons, List.filterMap_nil, List.contains_cons, List.contains_nil, Nat.reduceAdd, Nat.zero_add, Nat.reduceBEq, Bool.or_false, Bool.or_true, Bool.false_eq_true, ↓reduceIte]
        rw [e94]
        go_wp2_with fail
        exact ⟨by trivial, World.grownBy.refl _ _, rfl⟩
      · refine bifF rfl (FreeStep.mk rfl fun vs W hk hd => ?_)
        have e95 : vs 95 = (.pointer (some ⟨wb, 0, none⟩)) := hd 1 (by kernel_rfl)
        clear hd
        clear hk
        simp only [fillA, fillL, dstL, List.take_succ_cons, List.take_zero, List.filterMap_cons, List.filterMap_nil, List.contains_cons, List.contains_nil, Nat.reduceAdd, Nat.zero_add, Nat.reduceBEq, Bool.or_false, Bool.or_true, Bool.false_eq_true, ↓reduceIte]
        rw [e95]
        go_wp2_with fail
        exact ⟨by trivial, World.grownBy.refl _ _, rfl⟩
      · refine bifF rfl (FreeStep.mk rfl fun vs W hk hd => ?_)
        have e96 : vs 96 = (.pointer (some ⟨wb, 1, none⟩)) := hd 2 (by kernel_rfl)
        clear hd
        obtain ⟨m0, m1, q3, q4, cx, cv, cl, cm⟩ := HTC.out W (hk.elim fun k h => h.turned)
        clear hk
        simp only [fillA, fillL, dstL, List.take_succ_cons, List.take_zero, List.filterMap_cons, List.filterMap_nil, List.contains_cons, List.contains_nil, Nat.reduceAdd, Nat.zero_add, Nat.reduceBEq, Bool.or_false, Bool.or_true, Bool.false_eq_true, ↓reduceIte]
        rw [e96]
        go_wp2_with fail
        exact ⟨by trivial, World.grownBy.refl _ _, rfl⟩
      · refine bifF rfl (FreeStep.mk rfl fun vs W hk hd => ?_)
        clear hd
        obtain ⟨m0, m1, q3, q4, cx, cv, cl, cm⟩ := HTC.out W (hk.elim fun k h => h.turned)
        clear hk
        simp only [fillA, fillL, dstL, List.take_succ_cons, List.take_zero, List.filterMap_cons, List.filterMap_nil, List.contains_cons, List.contains_nil, Nat.reduceAdd, Nat.zero_add, Nat.reduceBEq, Bool.or_false, Bool.or_true, Bool.false_eq_true, ↓reduceIte]
        go_wp2_with fail
        exact ⟨by trivial, World.grownBy.refl _ _, rfl⟩
      · refine bifF rfl (FreeStep.mk rfl fun vs W hk hd => ?_)
        clear hd
        clear hk
        simp only [fillA, fillL, dstL, List.take_succ_cons, List.take_zero, List.filterMap_cons, List.filterMap_nil, List.contains_cons, List.contains_nil, Nat.reduceAdd, Nat.zero_add, Nat.reduceBEq, Bool.or_false, Bool.or_true, Bool.false_eq_true, ↓reduceIte]
        go_wp2_with fail
        exact ⟨by trivial, World.grownBy.refl _ _, rfl⟩
      · refine bifF rfl (FreeStep.mk rfl fun vs W hk hd => ?_)
        have e99 : vs 99 = (.pointer (some ⟨wb, 0, none⟩)) := hd 5 (by kernel_rfl)
        clear hd
        clear hk
        simp only [fillA, fillL, dstL, List.take_succ_cons, List.take_zero, List.filterMap_cons, List.filterMap_nil, List.contains_cons, List.contains_nil, Nat.reduceAdd, Nat.zero_add, Nat.reduceBEq, Bool.or_false, Bool.or_true, Bool.false_eq_true, ↓reduceIte]
        rw [e99]
        go_wp2_with fail
        exact ⟨by trivial, World.grownBy.refl _ _, rfl⟩
      · refine bifF rfl (FreeStep.mk rfl fun vs W hk hd => ?_)
        have e100 : vs 100 = (.pointer (some ⟨wb, 0, none⟩)) := hd 6 (by kernel_rfl)
        clear hd
        clear hk
        simp only [fillA, fillL, dstL, List.take_succ_cons, List.take_zero, List.filterMap_cons, List.filterMap_nil, List.contains_cons, List.contains_nil, Nat.reduceAdd, Nat.zero_add, Nat.reduceBEq, Bool.or_false, Bool.or_true, Bool.false_eq_true, ↓reduceIte]
        rw [e100]
        go_wp2_with fail
        exact ⟨by trivial, World.grownBy.refl _ _, rfl⟩
      · refine bifF rfl (FreeStep.mk rfl fun vs W hk hd => ?_)
        have e101 : vs 101 = (.pointer (some ⟨wb, 0, none⟩)) := hd 7 (by kernel_rfl)
        clear hd
        obtain ⟨m0, m1, q3, q4, cx, cv, cl, cm⟩ := HTC.out W (hk.elim fun k h => h.turned)
        clear hk
        simp only [fillA, fillL, dstL, List.take_succ_cons, List.take_zero, List.filterMap_cons, List.filterMap_nil, List.contains_cons, List.contains_nil, Nat.reduceAdd, Nat.zero_add, Nat.reduceBEq, Bool.or_false, Bool.or_true, Bool.false_eq_true, ↓reduceIte]
        rw [e101]
        go_wp2_with fail
        exact ⟨by trivial, World.grownBy.refl _ _, rfl⟩
      · refine bifF rfl (FreeStep.mk rfl fun vs W hk hd => ?_)
        clear hd
        obtain ⟨m0, m1, q3, q4, cx, cv, cl, cm⟩ := HTC.out W (hk.elim fun k h => h.turned)
        clear hk
        simp only [fillA, fillL, dstL, List.take_succ_cons, List.take_zero, List.filterMap_cons, List.filterMap_nil, List.contains_cons, List.contains_nil, Nat.reduceAdd, Nat.zero_add, Nat.reduceBEq, Bool.or_false, Bool.or_true, Bool.false_eq_true, ↓reduceIte]
        go_wp2_with fail
        exact ⟨by trivial, World.grownBy.refl _ _, rfl⟩
      · refine bifF rfl (FreeStep.mk rfl fun vs W hk hd => ?_)
        clear hd
        clear hk
        simp only [fillA, fillL, dstL, List.take_succ_cons, List.take_zero, List.filterMap_cons, List.filterMap_nil, List.contains_cons, List.contains_nil, Nat.reduceAdd, Nat.zero_add, Nat.reduceBEq, Bool.or_false, Bool.or_true, Bool.false_eq_true, ↓reduceIte]
        go_wp2_with fail
        exact ⟨by trivial, World.grownBy.refl _ _, rfl⟩
      · refine bifF rfl (FreeStep.mk rfl fun vs W hk hd => ?_)
        clear hd
        clear hk
        simp only [fillA, fillL, dstL, List.take_succ_cons, List.take_zero, List.filterMap_cons, List.filterMap_nil, List.contains_cons, List.contains_nil, Nat.reduceAdd, Nat.zero_add, Nat.reduceBEq, Bool.or_false, Bool.or_true, Bool.false_eq_true, ↓reduceIte]
        go_wp2_with fail
        exact ⟨by trivial, World.grownBy.refl _ _, rfl⟩
      · refine bifF rfl (FreeStep.mk rfl fun vs W hk hd => ?_)
        clear hd
        clear hk
        simp only [fillA, fillL, dstL, List.take_succ_cons, List.take_zero, List.filterMap_cons, List.filterMap_nil, List.contains_cons, List.contains_nil, Nat.reduceAdd, Nat.zero_add, Nat.reduceBEq, Bool.or_false, Bool.or_true, Bool.false_eq_true, ↓reduceIte]
        go_wp2_with fail
        exact ⟨by trivial, World.grownBy.refl _ _, rfl⟩
      · refine bifF rfl (FreeStep.mk rfl fun vs W hk hd => ?_)
        have e105 : vs 105 = (.pointer (some ⟨bs, 0, none⟩)) := hd 11 (by kernel_rfl)
        have e106 : vs 106 = vl := hd 12 (by kernel_rfl)
        clear hd
        obtain ⟨m0, m1, q3, q4, cx, cv, cl, cm⟩ := HTC.out W (hk.elim fun k h => h.turned)
        clear hk
        simp only [fillA, fillL, dstL, List.take_succ_cons, List.take_zero, List.filterMap_cons, List.filterMap_nil, List.contains_cons, List.contains_nil, Nat.reduceAdd, Nat.zero_add, Nat.reduceBEq, Bool.or_false, Bool.or_true, Bool.false_eq_true, ↓reduceIte]
        rw [e105, e106]
        go_wp2_with (go_at_call 71; refine (hashG_any (HS.out.ext cx) _ ls cv HLS.out).mono ?_; rintro e w3 ⟨v3, rfl, hx3, hi3, hn3⟩)
        exact ⟨by trivial, hx3.grownBy none, hi3, fun q hq => by have := hn3 q hq; omega⟩
      · refine bifF rfl (FreeStep.mk rfl fun vs W hk hd => ?_)
        have h107 : Ints W (vs 107) (hashP p k ls) ∧ ∀ q, (vs 107).ownBlock = some q → q ≠ lb ∧ q ≠ mb := hd 13 (by kernel_rfl)
        clear hd
        clear hk
        simp only [fillA, fillL, dstL, List.take_succ_cons, List.take_zero, List.filterMap_cons, List.filterMap_nil, List.contains_cons, List.contains_nil, Nat.reduceAdd, Nat.zero_add, Nat.reduceBEq, Bool.or_false, Bool.or_true, Bool.false_eq_true, ↓reduceIte]
        obtain ⟨h107, hne107⟩ := h107
        obtain ⟨aq, af, ac, ae, acl⟩ := arr_of h107 (by rw [hashP_length]; omega)
        rw [ae] at hne107
        rw [ae, hashP_length]
        have har := run_arr4 aq af ac W
        go_wp2_with fail
        exact ⟨by trivial, World.grownBy.refl _ _, ⟨aq, af, rfl, hne107 aq (by rfl), acl⟩⟩
      · refine bifF rfl (FreeStep.mk rfl fun vs W hk hd => ?_)
        have h108 : ∃ q off, vs 108 = .pointer (some ⟨q, off, none⟩) ∧ (q ≠ lb ∧ q ≠ mb) ∧ ∀ i, i < (hashP p k ls).length → W.cell? ⟨q, off + i, none⟩ = some (.int .i64 (nth (hashP p k ls) i)) := hd 14 (by kernel_rfl)
        clear hd
        clear hk
        simp only [fillA, fillL, dstL, List.take_succ_cons, List.take_zero, List.filterMap_cons, List.filterMap_nil, List.contains_cons, List.contains_nil, Nat.reduceAdd, Nat.zero_add, Nat.reduceBEq, Bool.or_false, Bool.or_true, Bool.false_eq_true, ↓reduceIte]
        obtain ⟨aq, af, ae, -, acl⟩ := h108
        have ac0 := acl 0 (by rw [hashP_length]; omega)
        have ac1 := acl 1 (by rw [hashP_length]; omega)
        have ac2 := acl 2 (by rw [hashP_length]; omega)
        have ac3 := acl 3 (by rw [hashP_length]; omega)
        rw [HY0.out] at ac0
        rw [HY1.out] at ac1
        rw [HY2.out] at ac2
        rw [HY3.out] at ac3
        rw [Nat.add_zero] at ac0
        rw [ae]
        clear acl
        go_wp2_with fail
        exact ⟨by trivial, World.grownBy.refl _ _, rfl⟩
      · refine bifT rfl (LinkStep.mk rfl fun vs W hS hd => ?_)
        replace hS : PutSta wE mb lb N D LV (a : Int) b vl (hashP p k ls) 0 vs W := hS
        have e97 : vs 97 = (.map (some lb)) := hd 3 (by kernel_rfl)
        have e98 : vs 98 = (.agg #[.int .i64 (a : Int), .int .i64 b]) := hd 4 (by kernel_rfl)
        clear hd
        obtain ⟨z, st, W1, r1, g1, f1⟩ := PutSta.s0 HNN.out HNE.out HWF.out.1 HWF.out.2 hS
        simp only [fillA, fillL, dstL, List.take_succ_cons, List.take_zero, List.filterMap_cons, List.filterMap_nil, List.contains_cons, List.contains_nil, Nat.reduceAdd, Nat.zero_add, Nat.reduceBEq, Bool.or_false, Bool.or_true, Bool.false_eq_true, ↓reduceIte]
        rw [e97, e98]
        go_wp2_with fail
        exact ⟨by trivial, g1, f1 _ rfl, trivial⟩
      · refine bifT rfl (LinkStep.mk rfl fun vs W hS hd => ?_)
        replace hS : PutSta wE mb lb N D LV (a : Int) b vl (hashP p k ls) 1 vs W := hS
        clear hd
        obtain ⟨hT, ⟨z, st, hv, he⟩, hm⟩ := hS
        simp only [fillA, fillL, dstL, List.take_succ_cons, List.take_zero, List.filterMap_cons, List.filterMap_nil, List.contains_cons, List.contains_nil, Nat.reduceAdd, Nat.zero_add, Nat.reduceBEq, Bool.or_false, Bool.or_true, Bool.false_eq_true, ↓reduceIte]
        rw [hv]
        go_wp2_with fail
        exact ⟨by trivial, World.grownBy.refl _ _, ⟨hT, ⟨st, rfl, he⟩, hm⟩, trivial⟩
      · refine bifT rfl (LinkStep.mk rfl fun vs W hS hd => ?_)
        replace hS : PutSta wE mb lb N D LV (a : Int) b vl (hashP p k ls) 2 vs W := hS
        have e97 : vs 97 = (.map (some lb)) := hd 3 (by kernel_rfl)
        have e104 : vs 104 = vl := hd 10 (by kernel_rfl)
        clear hd
        obtain ⟨st, W1, hv, r1, g1, f1⟩ := PutSta.s2 HNN.out hS
        simp only [fillA, fillL, dstL, List.take_succ_cons, List.take_zero, List.filterMap_cons, List.filterMap_nil, List.contains_cons, List.contains_nil, Nat.reduceAdd, Nat.zero_add, Nat.reduceBEq, Bool.or_false, Bool.or_true, Bool.false_eq_true, ↓reduceIte]
        rw [e97, hv, e104]
        go_wp2_with fail
        exact ⟨by trivial, g1, f1 _, trivial⟩
      · refine bifT rfl (LinkStep.mk rfl fun vs W hS hd => ?_)
        replace hS : PutSta wE mb lb N D LV (a : Int) b vl (hashP p k ls) 3 vs W := hS
        have e102 : vs 102 = (.map (some mb)) := hd 8 (by kernel_rfl)
        have e103 : vs 103 = (.agg #[.int .i64 (a : Int), .int .i64 b]) := hd 9 (by kernel_rfl)
        clear hd
        obtain ⟨z, st, W1, r1, g1, f1⟩ := PutSta.s3 HNN.out HNE.out HWF.out.1 HWF.out.2 hS
        simp only [fillA, fillL, dstL, List.take_succ_cons, List.take_zero, List.filterMap_cons, List.filterMap_nil, List.contains_cons, List.contains_nil, Nat.reduceAdd, Nat.zero_add, Nat.reduceBEq, Bool.or_false, Bool.or_true, Bool.false_eq_true, ↓reduceIte]
        rw [e102, e103]
        go_wp2_with fail
        exact ⟨by trivial, g1, f1 _ rfl, trivial⟩
      · refine bifT rfl (LinkStep.mk rfl fun vs W hS hd => ?_)
        replace hS : PutSta wE mb lb N D LV (a : Int) b vl (hashP p k ls) 4 vs W := hS
        clear hd
        obtain ⟨hT, hm, ⟨z, st, hv, he⟩⟩ := hS
        simp only [fillA, fillL, dstL, List.take_succ_cons, List.take_zero, List.filterMap_cons, List.filterMap_nil, List.contains_cons, List.contains_nil, Nat.reduceAdd, Nat.zero_add, Nat.reduceBEq, Bool.or_false, Bool.or_true, Bool.false_eq_true, ↓reduceIte]
        rw [hv]
        go_wp2_with fail
        exact ⟨by trivial, World.grownBy.refl _ _, ⟨hT, hm, ⟨st, rfl, he⟩⟩, trivial⟩
      · refine bifT rfl (LinkStep.mk rfl fun vs W hS hd => ?_)
        replace hS : PutSta wE mb lb N D LV (a : Int) b vl (hashP p k ls) 5 vs W := hS
        have e102 : vs 102 = (.map (some mb)) := hd 8 (by kernel_rfl)
        have e109 : vs 109 = (.agg #[.int .i64 y0, .int .i64 y1, .int .i64 y2, .int .i64 y3]) := hd 15 (by kernel_rfl)
        clear hd
        obtain ⟨st, W1, hv, r1, g1, f1⟩ := PutSta.s5 HNN.out hS
        rw [digV_four (hashP_length _ _ _), HY0.out, HY1.out, HY2.out, HY3.out] at r1
        simp only [fillA, fillL, dstL, List.take_succ_cons, List.take_zero, List.filterMap_cons, List.filterMap_nil, List.contains_cons, List.contains_nil, Nat.reduceAdd, Nat.zero_add, Nat.reduceBEq, Bool.or_false, Bool.or_true, Bool.false_eq_true, ↓reduceIte]
        rw [e102, hv, e109]
        go_wp2_with fail
        exact ⟨by trivial, g1, f1 _, trivial⟩
    · intro vs w5 hall hS
      replace hS : PutSta wE mb lb N D LV (a : Int) b vl (hashP p k ls) 6 vs w5 := hS
      have HT := Lib.hid hS.turned; have HWAY5 := Lib.hid (HWE.out.done HLV.out.2 HVL.out hS)
      clear hall hS
      simp only [fillA, fillL, dstL, List.take_succ_cons, List.take_zero, List.filterMap_cons, List.filterMap_nil, List.contains_cons, List.contains_nil, Nat.reduceAdd, Nat.zero_add, Nat.reduceBEq, Bool.or_false, Bool.or_true, Bool.false_eq_true, ↓reduceIte]
      go_wp2_with fail
      go_ret
      refine ⟨_, _, _, _, rfl, by rw [HHID.out]; exact HNR.out, (Turned.of_ext HXT3.out).trans HT.out, HWAY5.out.mono (by omega), ?_, fun x y hxy hn => ⟨updP_other _ _ (fun h => hn (by have := HBE.out; omega)), updP_other _ _ (fun h => hn (by have := HBE.out; omega))⟩⟩
      simp only [Wkd]
      rw [if_pos HSHE.out, if_pos trivial, HBE.out, updP_same, updP_same, HROWE.out, HRM.out]
      exact ⟨by rw [← HLSE.out, ← HRM.out, hashP_cons_map], by rw [HLSE.out]⟩
end
end Go.Proofs.YtfepefbehgbjpaaGreatDoor
