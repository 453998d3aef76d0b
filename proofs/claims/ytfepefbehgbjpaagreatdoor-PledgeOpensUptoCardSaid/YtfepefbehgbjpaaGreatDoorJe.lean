/- The root of rows, the program's side: contracts. -/
import Derived.Test.YtfepefbehgbjpaaGreatDoorZx14
import Derived.Test.YtfepefbehgbjpaaGreatDoorSn
import Derived.Test.YtfepefbehgbjpaaGreatDoorZx3
namespace Go.Att
open Go.RowKit
def rootF (p : Int) (k : Nat) : Nat → List (List Int) → List Int
  | 0, _ => []
  | f + 1, L => if L.length = 1 then hashP p k (0 :: nthL L 0) else hashP p k (1 :: (rootF p k f (L.take (lfN L.length)) ++ rootF p k f (L.drop (lfN L.length))))
theorem rootF_len (p : Int) (k : Nat) : ∀ f L, (rootF p k f L).length ≤ 4
  | 0, _ => by simp [rootF]
  | f + 1, L => by
    simp only [rootF]
    split
    · exact Nat.le_of_eq (hashP_length _ _ _)
    · exact Nat.le_of_eq (hashP_length _ _ _)
theorem cut_take (L : List (List Int)) (a n m : Nat) (h : m ≤ n) : ((L.drop a).take n).take m = (L.drop a).take m := by rw [List.take_take, Nat.min_eq_left h]
theorem cut_drop (L : List (List Int)) (a n m : Nat) : ((L.drop a).take n).drop m = (L.drop (a + m)).take (n - m) := by rw [List.drop_take, List.drop_drop]
theorem cut_nth (L : List (List Int)) (a n : Nat) (_h : a < L.length) (hn : 0 < n) : nthL ((L.drop a).take n) 0 = nthL L a := by
  unfold nthL
  simp [List.getD_eq_getElem?_getD, hn]
end Go.Att
namespace Go.Proofs.YtfepefbehgbjpaaGreatDoor
open Go.RowKit Go.Att
section
variable {w0 : World} {bs : Nat} {p : Int} {k : Nat} {vr : Value} {rows : List (List Int)} {R : Nat → Value}
set_option maxRecDepth 100000 in
set_option maxHeartbeats 8000000 in
theorem troot_any (hs : Spg w0 (.pointer (some ⟨bs, 0, none⟩)) p k) (hr : RwsAt w0 vr rows R) (hl : rows.length ≤ 65536) (hrl : ∀ i, i < rows.length → (nthL rows i).length ≤ 4294960000) : ∀ (f n a : Nat), 1 ≤ n → n ≤ f → a + n ≤ rows.length → ∀ W, Ext w0 W →
    Calls Tryz.prog 77 #[.pointer (some ⟨bs, 0, none⟩), vr, .agg #[.int .i64 a, .int .i64 ((a : Int) + n)]] W (Gives W fun u w' => Ints w' u (rootF p k f ((rows.drop a).take n)))
  | 0, n, a, h1, h2, h3, W, hW => by omega
  | f + 1, n, a, h1, h2, h3, W, hW => by
    have HS := Lib.hid hs; have HR := Lib.hid hr; have HRL := Lib.hid hrl; have HW := Lib.hid hW
    have hcl : ((rows.drop a).take n).length = n := by rw [List.length_take, List.length_drop]; omega
    obtain ⟨b, hb⟩ : ∃ b : Int, (a : Int) + n = b := ⟨_, rfl⟩
    rw [hb]
    have HBN := Lib.hid hb
    have hbb : (a : Int) < b ∧ b ≤ 65536 := by omega
    have hX0 := Ext.alloc W (Obj.cells #[.int .i64 a, .int .i64 b] 127)
    have HX0 := Lib.hid (hW.trans hX0)
    have k0 := cell_new W #[.int .i64 a, .int .i64 b] 127 0
    have k1 := cell_new W #[.int .i64 a, .int .i64 b] 127 1
    have HK0 := Lib.hid k0; have HK1 := Lib.hid k1
    have HXW := Lib.hid hX0
    clear k0 k1 hX0
    by_cases hn1 : n = 1
    · have e1 : (b - (a : Int) == 1) = true := by rw [beq_iff_eq]; omega
      have HRF := Lib.hid (show rootF p k (f + 1) ((rows.drop a).take n) = hashP p k (0 :: nthL rows a) from by
        subst hn1
        simp only [rootF]; rw [if_pos hcl, cut_nth _ _ _ (by omega) (by omega)])
      have ha : a < rows.length := by omega
      have HIX := Lib.hid (hr.run_index (P := Tryz.prog) slRows a ha)
      have HCX := Lib.hid (HX0.out.cell (hr.cell a ha))
      have hrow := (hr.row a ha).ext HX0.out
      have HLA := Lib.hid (hrl a ha)
      obtain ⟨ai, ci, hsh⟩ := hrow.shape
      rw [hsh] at hrow HCX
      have HROW := Lib.hid hrow
      clear hs hr hrl hW hrow hsh hb hn1 hcl
      go_enter Tryz.func77, Tryz.ntmps77
      go_upto_region 1 with (fail)
      generalize W.alloc (Obj.cells #[.int .i64 a, .int .i64 b] 127) = w1 at *
      have k0 : w1.cell? ⟨W.heap.size, 0, none⟩ = some (.int .i64 a) := HK0.out
      have k1 : w1.cell? ⟨W.heap.size, 1, none⟩ = some (.int .i64 b) := HK1.out
      have hix := HIX.out; have hcx := HCX.out
      have HRR := Lib.hid (rows_lit1 HROW.out 22)
      have HX2 := Lib.hid (Ext.alloc w1 (Obj.cells #[.slice ai (nthL rows a).length ci] 22))
      go_wp2_with (first | (go_at_call 126; refine (tjoined_any 0 HRR.out (by have := HLA.out; simp; omega) (by simp)).mono ?_; rintro e w3 ⟨v3, rfl, hx3, hi3⟩; have HX3 := Lib.hid (HX2.out.trans hx3); have HI3 := Lib.hid (show Ints w3 v3 (0 :: nthL rows a) from by simpa using hi3); clear hx3 hi3) | (go_at_call 71; refine (hashG_any (HS.out.ext (HX0.out.trans HX3.out)) _ (0 :: nthL rows a) HI3.out (by have := HLA.out; simp; omega)).mono ?_; rintro e w4 ⟨v4, rfl, hx4, hi4, -⟩))
      go_ret
      exact .mk _ rfl (HXW.out.trans (HX3.out.trans hx4)) (by rw [HRF.out]; exact hi4)
    · have hn2 : 2 ≤ n := by omega
      have hLB := lfN_bd hn2
      obtain ⟨A, hA⟩ : ∃ A, rootF p k f ((rows.drop a).take (lfN n)) = A := ⟨_, rfl⟩
      obtain ⟨B, hB⟩ : ∃ B, rootF p k f ((rows.drop (a + lfN n)).take (n - lfN n)) = B := ⟨_, rfl⟩
      have HRF := Lib.hid (show rootF p k (f + 1) ((rows.drop a).take n) = hashP p k (1 :: (A ++ B)) from by
        simp only [rootF]; rw [if_neg (by rw [hcl]; exact hn1), hcl, cut_take _ _ _ _ (by omega), cut_drop, hA, hB])
      have hlA : A.length ≤ 4 := by rw [← hA]; exact rootF_len _ _ _ _
      have hlB : B.length ≤ 4 := by rw [← hB]; exact rootF_len _ _ _ _
      obtain ⟨c, hc⟩ : ∃ c : Int, (a : Int) + lfN n = c := ⟨_, rfl⟩
      have CA := Lib.hid (fun W' (h : Ext w0 W') => by have := troot_any hs hr hl hrl f (lfN n) a hLB.1 (by omega) (by omega) W' h; rw [hA, hc] at this; exact this)
      have CB := Lib.hid (fun W' (h : Ext w0 W') => by
        have := troot_any hs hr hl hrl f (n - lfN n) (a + lfN n) (by omega) (by omega) (by omega) W' h
        rw [hB, show ((a + lfN n : Nat) : Int) + ((n - lfN n : Nat) : Int) = b by omega, show ((a + lfN n : Nat) : Int) = c by omega] at this
        exact this)
      have e1 : (b - (a : Int) == 1) = false := by rw [beq_eq_false_iff_ne]; omega
      have CH := Lib.hid (fun (W' : World) => by
        have := thalves_any (w := W') a n hn2 (by omega)
        rw [hb, hc] at this
        exact this)
      have hcb : (a : Int) < c ∧ c < b := by omega
      clear hs hr hrl hW hn1 hA hB hcl hb hc hLB
      go_enter Tryz.func77, Tryz.ntmps77
      go_upto_region 1 with (fail)
      generalize W.alloc (Obj.cells #[.int .i64 a, .int .i64 b] 127) = w1 at *
      have k0 : w1.cell? ⟨W.heap.size, 0, none⟩ = some (.int .i64 a) := HK0.out
      have k1 : w1.cell? ⟨W.heap.size, 1, none⟩ = some (.int .i64 b) := HK1.out
      go_upto_region 4 with (go_at_call 127; refine (CH.out _).mono ?_; rintro e w2 ⟨v2, rfl, hx2, rfl⟩)
      have hq1 := Ext.alloc w2 (Obj.cells #[.int .i64 (a : Int), .int .i64 c] 127)
      have q0 := cell_new w2 #[.int .i64 (a : Int), .int .i64 c] 127 0
      have q1 := cell_new w2 #[.int .i64 (a : Int), .int .i64 c] 127 1
      have e3 : (w2.alloc (Obj.cells #[.int .i64 (a : Int), .int .i64 c] 127)).heap.size = w2.heap.size + 1 := Array.size_push _
      generalize w2.alloc (Obj.cells #[.int .i64 (a : Int), .int .i64 c] 127) = w3 at *
      have hq2 := Ext.alloc w3 (Obj.cells #[.int .i64 c, .int .i64 b] 127)
      have r0 := cell_new w3 #[.int .i64 c, .int .i64 b] 127 0
      have r1 := cell_new w3 #[.int .i64 c, .int .i64 b] 127 1
      have g0 := hq2.cell q0
      have g1 := hq2.cell q1
      generalize w3.alloc (Obj.cells #[.int .i64 c, .int .i64 b] 127) = w4 at *
      rw [e3] at r0 r1
      have g2 : w4.cell? ⟨w2.heap.size + 1, 0, none⟩ = some (.int .i64 c) := r0
      have g3 : w4.cell? ⟨w2.heap.size + 1, 1, none⟩ = some (.int .i64 b) := r1
      replace g0 : w4.cell? ⟨w2.heap.size, 0, none⟩ = some (.int .i64 a) := g0
      replace g1 : w4.cell? ⟨w2.heap.size, 1, none⟩ = some (.int .i64 c) := g1
      have hxw4 := hx2.trans (hq1.trans hq2)
      replace HXW := Lib.hid (HXW.out.trans hxw4)
      replace HX0 := Lib.hid (HX0.out.trans hxw4)
      clear hxw4 hq1 hq2 hx2 q0 q1 r0 r1 e3 k0 k1 HK0 HK1 hbb hcb
      refine wp_region_ext 12 [SP.eq (.pointer (some ⟨bs, 0, none⟩)), SP.eq (.pointer (some ⟨bs, 0, none⟩)), SP.eq vr, SP.eq (.agg #[.int .i64 (a : Int), .int .i64 c]), SP.ints A, SP.eq (.pointer (some ⟨bs, 0, none⟩)), SP.eq vr, SP.eq (.agg #[.int .i64 c, .int .i64 b]), SP.ints B, SP.rows [A, B], SP.ints (1 :: (A ++ B)), SP.ints (hashP p k (1 :: (A ++ B)))] (by kernel_rfl) (by kernel_rfl) (by kernel_rfl) ?_ ?_
      · refine ⟨?_, ?_, ?_, ?_, ?_, ?_, ?_, ?_, ?_, ?_, ?_, ?_, trivial⟩
        · refine ExtStep.mk rfl fun vs W hx hd => ?_
          clear hd
          simp only [fillA, fillL, dstL, List.take_succ_cons, List.take_zero, List.filterMap_cons, List.filterMap_nil, List.contains_cons, List.contains_nil, Nat.reduceAdd, Nat.zero_add, Nat.reduceBEq, Bool.or_false, Bool.or_true, Bool.false_eq_true, ↓reduceIte]
          go_wp2_with fail
          exact ⟨by trivial, Ext.refl _, rfl⟩
        · refine ExtStep.mk rfl fun vs W hx hd => ?_
          clear hd
          simp only [fillA, fillL, dstL, List.take_succ_cons, List.take_zero, List.filterMap_cons, List.filterMap_nil, List.contains_cons, List.contains_nil, Nat.reduceAdd, Nat.zero_add, Nat.reduceBEq, Bool.or_false, Bool.or_true, Bool.false_eq_true, ↓reduceIte]
          go_wp2_with fail
          exact ⟨by trivial, Ext.refl _, rfl⟩
        · refine ExtStep.mk rfl fun vs W hx hd => ?_
          clear hd
          simp only [fillA, fillL, dstL, List.take_succ_cons, List.take_zero, List.filterMap_cons, List.filterMap_nil, List.contains_cons, List.contains_nil, Nat.reduceAdd, Nat.zero_add, Nat.reduceBEq, Bool.or_false, Bool.or_true, Bool.false_eq_true, ↓reduceIte]
          go_wp2_with fail
          exact ⟨by trivial, Ext.refl _, rfl⟩
        · refine ExtStep.mk rfl fun vs W hx hd => ?_
          clear hd
          simp only [fillA, fillL, dstL, List.take_succ_cons, List.take_zero, List.filterMap_cons, List.filterMap_nil, List.contains_cons, List.contains_nil, Nat.reduceAdd, Nat.zero_add, Nat.reduceBEq, Bool.or_false, Bool.or_true, Bool.false_eq_true, ↓reduceIte]
          have hk0 := hx.cell g0
          have hk1 := hx.cell g1
          go_wp2_with fail
          exact ⟨by trivial, Ext.refl _, rfl⟩
        · refine ExtStep.mk rfl fun vs W hx hd => ?_
          have e30 : vs 30 = (.pointer (some ⟨bs, 0, none⟩)) := hd 1 (by kernel_rfl)
          have e31 : vs 31 = vr := hd 2 (by kernel_rfl)
          have e32 : vs 32 = (.agg #[.int .i64 (a : Int), .int .i64 c]) := hd 3 (by kernel_rfl)
          clear hd
          simp only [fillA, fillL, dstL, List.take_succ_cons, List.take_zero, List.filterMap_cons, List.filterMap_nil, List.contains_cons, List.contains_nil, Nat.reduceAdd, Nat.zero_add, Nat.reduceBEq, Bool.or_false, Bool.or_true, Bool.false_eq_true, ↓reduceIte]
          rw [e30, e31, e32]
          go_wp2_with (go_at_call 77; refine (CA.out _ (HX0.out.trans hx)).mono ?_; rintro e w3 ⟨v3, rfl, hx3, hi3⟩)
          exact ⟨by trivial, hx3, hi3⟩
        · refine ExtStep.mk rfl fun vs W hx hd => ?_
          clear hd
          simp only [fillA, fillL, dstL, List.take_succ_cons, List.take_zero, List.filterMap_cons, List.filterMap_nil, List.contains_cons, List.contains_nil, Nat.reduceAdd, Nat.zero_add, Nat.reduceBEq, Bool.or_false, Bool.or_true, Bool.false_eq_true, ↓reduceIte]
          go_wp2_with fail
          exact ⟨by trivial, Ext.refl _, rfl⟩
        · refine ExtStep.mk rfl fun vs W hx hd => ?_
          clear hd
          simp only [fillA, fillL, dstL, List.take_succ_cons, List.take_zero, List.filterMap_cons, List.filterMap_nil, List.contains_cons, List.contains_nil, Nat.reduceAdd, Nat.zero_add, Nat.reduceBEq, Bool.or_false, Bool.or_true, Bool.false_eq_true, ↓reduceIte]
          go_wp2_with fail
          exact ⟨by trivial, Ext.refl _, rfl⟩
        · refine ExtStep.mk rfl fun vs W hx hd => ?_
          clear hd
          simp only [fillA, fillL, dstL, List.take_succ_cons, List.take_zero, List.filterMap_cons, List.filterMap_nil, List.contains_cons, List.contains_nil, Nat.reduceAdd, Nat.zero_add, Nat.reduceBEq, Bool.or_false, Bool.or_true, Bool.false_eq_true, ↓reduceIte]
          have hk0 := hx.cell g2
          have hk1 := hx.cell g3
          go_wp2_with fail
          exact ⟨by trivial, Ext.refl _, rfl⟩
        · refine ExtStep.mk rfl fun vs W hx hd => ?_
          have e34 : vs 34 = (.pointer (some ⟨bs, 0, none⟩)) := hd 5 (by kernel_rfl)
          have e35 : vs 35 = vr := hd 6 (by kernel_rfl)
          have e36 : vs 36 = (.agg #[.int .i64 c, .int .i64 b]) := hd 7 (by kernel_rfl)
          clear hd
          simp only [fillA, fillL, dstL, List.take_succ_cons, List.take_zero, List.filterMap_cons, List.filterMap_nil, List.contains_cons, List.contains_nil, Nat.reduceAdd, Nat.zero_add, Nat.reduceBEq, Bool.or_false, Bool.or_true, Bool.false_eq_true, ↓reduceIte]
          rw [e34, e35, e36]
          go_wp2_with (go_at_call 77; refine (CB.out _ (HX0.out.trans hx)).mono ?_; rintro e w3 ⟨v3, rfl, hx3, hi3⟩)
          exact ⟨by trivial, hx3, hi3⟩
        · refine ExtStep.mk rfl fun vs W hx hd => ?_
          have h33 : Ints W (vs 33) A := hd 4 (by kernel_rfl)
          have h37 : Ints W (vs 37) B := hd 8 (by kernel_rfl)
          clear hd
          simp only [fillA, fillL, dstL, List.take_succ_cons, List.take_zero, List.filterMap_cons, List.filterMap_nil, List.contains_cons, List.contains_nil, Nat.reduceAdd, Nat.zero_add, Nat.reduceBEq, Bool.or_false, Bool.or_true, Bool.false_eq_true, ↓reduceIte]
          obtain ⟨a3, c3, e33⟩ := h33.shape
          obtain ⟨a7, c7, e37⟩ := h37.shape
          rw [e33] at h33
          rw [e37] at h37
          rw [e33, e37]
          go_wp2_with fail
          exact ⟨by trivial, Ext.alloc _ _, ⟨_, rows_lit2 h33 h37 _⟩⟩
        · refine ExtStep.mk rfl fun vs W hx hd => ?_
          have h38 : Rws W (vs 38) [A, B] := hd 9 (by kernel_rfl)
          clear hd
          simp only [fillA, fillL, dstL, List.take_succ_cons, List.take_zero, List.filterMap_cons, List.filterMap_nil, List.contains_cons, List.contains_nil, Nat.reduceAdd, Nat.zero_add, Nat.reduceBEq, Bool.or_false, Bool.or_true, Bool.false_eq_true, ↓reduceIte]
          obtain ⟨R38, h38⟩ := h38
          go_wp2_with (go_at_call 126; refine (tjoined_any 1 h38 (by simp; omega) (by simp)).mono ?_; rintro e w3 ⟨v3, rfl, hx3, hi3⟩; replace hi3 : Ints w3 v3 (1 :: (A ++ B)) := by simpa using hi3)
          exact ⟨by trivial, hx3, hi3⟩
        · refine ExtStep.mk rfl fun vs W hx hd => ?_
          have e29 : vs 29 = (.pointer (some ⟨bs, 0, none⟩)) := hd 0 (by kernel_rfl)
          have h39 : Ints W (vs 39) (1 :: (A ++ B)) := hd 10 (by kernel_rfl)
          clear hd
          simp only [fillA, fillL, dstL, List.take_succ_cons, List.take_zero, List.filterMap_cons, List.filterMap_nil, List.contains_cons, List.contains_nil, Nat.reduceAdd, Nat.zero_add, Nat.reduceBEq, Bool.or_false, Bool.or_true, Bool.false_eq_true, ↓reduceIte]
          rw [e29]
          go_wp2_with (go_at_call 71; refine (hashG_any (HS.out.ext (HX0.out.trans hx)) _ (1 :: (A ++ B)) h39 (by simp; omega)).mono ?_; rintro e w3 ⟨v3, rfl, hx3, hi3, -⟩)
          exact ⟨by trivial, hx3, hi3⟩
      · intro vs w5 hx5 hall
        have h40 : Ints w5 (vs 40) (hashP p k (1 :: (A ++ B))) := hall.at 11 (by omega) rfl
        clear hall
        simp only [fillA, fillL, dstL, List.take_succ_cons, List.take_zero, List.filterMap_cons, List.filterMap_nil, List.contains_cons, List.contains_nil, Nat.reduceAdd, Nat.zero_add, Nat.reduceBEq, Bool.or_false, Bool.or_true, Bool.false_eq_true, ↓reduceIte]
        have H40 := Lib.hid h40
        clear h40
        go_wp2_with fail
        go_ret
        exact .mk _ rfl (HXW.out.trans hx5) (by rw [HRF.out]; exact H40.out)
end
end Go.Proofs.YtfepefbehgbjpaaGreatDoor
