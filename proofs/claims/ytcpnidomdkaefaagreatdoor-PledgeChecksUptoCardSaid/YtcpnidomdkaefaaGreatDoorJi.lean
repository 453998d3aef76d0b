/- A table's columns, the document's side: contract. -/
import Derived.Test.YtcpnidomdkaefaaGreatDoorWw
import Derived.Test.YtcpnidomdkaefaaGreatDoorZx15
import Derived.Test.YtcpnidomdkaefaaGreatDoorZx20
import Derived.Test.YtcpnidomdkaefaaGreatDoorZx10
import Derived.Test.YtcpnidomdkaefaaGreatDoorZx13
namespace Go.Att
open Go.RowKit
def longL (p sh r : Int) (n : Nat) (rows : List (List Int)) : List (List Int) := rows.map (valsL p sh r n)
/-- The columns of rows made longer. -/
def colOf (p sh r : Int) (rows : List (List Int)) (j : Nat) : List Int := rows.map fun l => ev l (ptAt p sh r j) % p
def colsL (p sh r : Int) (n : Nat) (rows : List (List Int)) : List (List Int) := (List.range n).map (colOf p sh r rows)
theorem longL_length (p sh r : Int) (n : Nat) (rows : List (List Int)) : (longL p sh r n rows).length = rows.length := by simp [longL]
theorem longL_nth (p sh r : Int) (n : Nat) (rows : List (List Int)) {i : Nat} (h : i < rows.length) : nthL (longL p sh r n rows) i = valsL p sh r n (nthL rows i) := by
  rw [nthL_eq h, nthL_eq (by rw [longL_length]; exact h)]; simp [longL]
theorem longL_snoc (p sh r : Int) (n : Nat) (rows : List (List Int)) {i : Nat} (h : i < rows.length) : (longL p sh r n rows).take (i + 1) = (longL p sh r n rows).take i ++ [valsL p sh r n (nthL rows i)] := by
  rw [List.take_succ_eq_append_getElem (by rw [longL_length]; exact h), ← nthL_eq, longL_nth _ _ _ _ _ h]
theorem colOf_length (p sh r : Int) (rows : List (List Int)) (j : Nat) : (colOf p sh r rows j).length = rows.length := by simp [colOf]
theorem colOf_snoc (p sh r : Int) (rows : List (List Int)) (j : Nat) {i : Nat} (h : i < rows.length) : (colOf p sh r rows j).take (i + 1) = (colOf p sh r rows j).take i ++ [ev (nthL rows i) (ptAt p sh r j) % p] := by
  rw [List.take_succ_eq_append_getElem (by rw [colOf_length]; exact h), nthL_eq h]; simp [colOf]
theorem colsL_length (p sh r : Int) (n : Nat) (rows : List (List Int)) : (colsL p sh r n rows).length = n := by simp [colsL]
theorem colsL_snoc (p sh r : Int) (n : Nat) (rows : List (List Int)) {j : Nat} (h : j < n) : (colsL p sh r n rows).take (j + 1) = (colsL p sh r n rows).take j ++ [colOf p sh r rows j] := by
  rw [List.take_succ_eq_append_getElem (by rw [colsL_length]; exact h)]; simp [colsL]
end Go.Att
namespace Go.Proofs.YtcpnidomdkaefaaGreatDoor
open Go.RowKit Go.Att
section
variable {w : World} {p sh r : Int}
set_option maxRecDepth 100000 in
set_option maxHeartbeats 8000000 in
theorem rcols_any (hp : 2 ≤ p) (hp2 : p ≤ 2147483647) (hsh : 0 ≤ sh ∧ sh < p) (N : Nat) (h1 : 1 ≤ N) (h2 : N ≤ 65536) {vr : Value} {rows : List (List Int)} {R : Nat → Value} (hr : RwsAt w vr rows R) (hrl : rows.length ≤ 4096) :
    Calls Tryz.prog 77 #[.agg #[.int .i64 p, .int .i64 (N : Int), .int .i64 sh, .int .i64 r], vr] w (Gives w fun u w' => Rws w' u (colsL p sh r N rows)) := by
  have hll := hr.run_len (P := Tryz.prog) slRows
  have HR0 := Lib.hid hr
  have HB := Lib.hid (BlkOf.new w [.int .i64 p, .int .i64 (N : Int), .int .i64 sh, .int .i64 r] 37)
  have HX0 := Lib.hid (Ext.alloc w (Obj.cells #[.int .i64 p, .int .i64 (N : Int), .int .i64 sh, .int .i64 r] 37))
  clear hr
  go_enter Tryz.func77, Tryz.ntmps77
  go_wp2_with fail
  generalize w.alloc (Obj.cells #[.int .i64 p, .int .i64 (N : Int), .int .i64 sh, .int .i64 r] 37) = W0 at *
  have HR := Lib.hid (HR0.out.ext HX0.out)
  go_loopw [5, 6, 7] (fun x5 x6 _ wr => ∃ (i : Nat) (E : Nat → List Value), i ≤ rows.length ∧ x6 = .int .i64 i ∧ Hid (Lst rgInts W0.heap.size wr 22 1 x5 ((longL p sh r N rows).take i) E) ∧ Hid (Ext W0 wr)) (fun _ x6 _ _ => rows.length - (intOf x6).toNat)
  case atStart => exact ⟨0, fun _ => [], Nat.zero_le _, rfl, Lib.hid (Lst.nil _ _ _ _ (World.ownsRow_nil _ _ _ _)), Lib.hid (Ext.refl _)⟩
  case round =>
    obtain ⟨i, E, hi, rfl, HLI, HX⟩ := hrel
    by_cases hil : i < rows.length
    · have HIX := Lib.hid (HR.out.run_index (P := Tryz.prog) slRows i hil)
      have HCX := Lib.hid (HX.out.cell (HR.out.cell i hil))
      have HROW := Lib.hid ((HR.out.row i hil).ext HX.out)
      have HTK := Lib.hid (longL_snoc p sh r N rows hil)
      have HTL := Lib.hid (show ((longL p sh r N rows).take i).length = i by rw [List.length_take, longL_length]; omega)
      have HB1 := HB.out.ext HX.out
      have HE0 := Lib.hid (show wr.cell? ⟨w.heap.size, 0, none⟩ = some (.int .i64 p) from HB1.cell 0)
      have HE1 := Lib.hid (show wr.cell? ⟨w.heap.size, 1, none⟩ = some (.int .i64 (N : Int)) from HB1.cell 1)
      have HE2 := Lib.hid (show wr.cell? ⟨w.heap.size, 2, none⟩ = some (.int .i64 sh) from HB1.cell 2)
      have HE3 := Lib.hid (show wr.cell? ⟨w.heap.size, 3, none⟩ = some (.int .i64 r) from HB1.cell 3)
      clear HB1
      go_upto_region 5 with (fail)
      refine wp_region_ext 6 [SP.eq (.agg #[.int .i64 p, .int .i64 (N : Int), .int .i64 sh, .int .i64 r]), SP.eq vr, SP.eq (.int .i64 (i : Int)), SP.eq (.pointer (some (elt vr i 1))), SP.eq (R i), SP.both (SP.ints (valsL p sh r N (nthL rows i))) (SP.is (NewIn wr))] (by kernel_rfl) (by kernel_rfl) (by kernel_rfl) ?_ ?_
      · refine ⟨?_, ?_, ?_, ?_, ?_, ?_, trivial⟩
        · refine ExtStep.mk rfl fun vs W hx hd => ?_
          clear hd
          simp only [fillA, fillL, dstL, List.take_succ_cons, List.take_zero, List.filterMap_cons, List.filterMap_nil, List.contains_cons, List.contains_nil, Nat.reduceAdd, Nat.zero_add, Nat.reduceBEq, Bool.or_false, Bool.or_true, Bool.false_eq_true, ↓reduceIte]
          have hk0 := hx.cell HE0.out
          have hk1 := hx.cell HE1.out
          have hk2 := hx.cell HE2.out
          have hk3 := hx.cell HE3.out
          go_wp2_with fail
          exact ⟨by trivial, Ext.refl _, rfl⟩
        · refine ExtStep.mk rfl fun vs W hx hd => ?_
          clear hd
          simp only [fillA, fillL, dstL, List.take_succ_cons, List.take_zero, List.filterMap_cons, List.filterMap_nil, List.contains_cons, List.contains_nil, Nat.reduceAdd, Nat.zero_add, Nat.reduceBEq, Bool.or_false, Bool.or_true, Bool.false_eq_true, ↓reduceIte]
          go_wp2_with fail
          exact ⟨by trivial, Ext.refl _, rfl⟩
        · refine ExtStep.mk rfl fun vs W hx hd => ?_
          clear hd
          simp only [fillA, fillL, dstL, List.take_succ_cons, List.take_zero, List.filterMap_cons, List.filterMap_nil, List.contains_cons, List.contains_nil, Nat.reduceAdd, Nat.zero_add, Nat.reduceBEq, Bool.or_false, Bool.or_true, Bool.false_eq_true, ↓reduceIte]
          go_wp2_with fail
          exact ⟨by trivial, Ext.refl _, rfl⟩
        · refine ExtStep.mk rfl fun vs W hx hd => ?_
          have e19 : vs 19 = vr := hd 1 (by kernel_rfl)
          have e20 : vs 20 = (.int .i64 (i : Int)) := hd 2 (by kernel_rfl)
          clear hd
          simp only [fillA, fillL, dstL, List.take_succ_cons, List.take_zero, List.filterMap_cons, List.filterMap_nil, List.contains_cons, List.contains_nil, Nat.reduceAdd, Nat.zero_add, Nat.reduceBEq, Bool.or_false, Bool.or_true, Bool.false_eq_true, ↓reduceIte]
          rw [e19, e20]
          have hix2 := HIX.out
          go_wp2_with fail
          exact ⟨by trivial, Ext.refl _, rfl⟩
        · refine ExtStep.mk rfl fun vs W hx hd => ?_
          have e21 : vs 21 = (.pointer (some (elt vr i 1))) := hd 3 (by kernel_rfl)
          clear hd
          simp only [fillA, fillL, dstL, List.take_succ_cons, List.take_zero, List.filterMap_cons, List.filterMap_nil, List.contains_cons, List.contains_nil, Nat.reduceAdd, Nat.zero_add, Nat.reduceBEq, Bool.or_false, Bool.or_true, Bool.false_eq_true, ↓reduceIte]
          rw [e21]
          have hc2 := hx.cell HCX.out
          go_wp2_with fail
          exact ⟨by trivial, Ext.refl _, rfl⟩
        · refine ExtStep.mk rfl fun vs W hx hd => ?_
          have e18 : vs 18 = (.agg #[.int .i64 p, .int .i64 (N : Int), .int .i64 sh, .int .i64 r]) := hd 0 (by kernel_rfl)
          have e22 : vs 22 = (R i) := hd 4 (by kernel_rfl)
          clear hd
          simp only [fillA, fillL, dstL, List.take_succ_cons, List.take_zero, List.filterMap_cons, List.filterMap_nil, List.contains_cons, List.contains_nil, Nat.reduceAdd, Nat.zero_add, Nat.reduceBEq, Bool.or_false, Bool.or_true, Bool.false_eq_true, ↓reduceIte]
          rw [e18, e22]
          go_wp2_with (go_at_call 55; refine (rvals_any p N sh r (R i) (nthL rows i) W hp hp2 (by omega) (by omega) hsh (HROW.out.ext hx)).mono ?_; rw [Int.toNat_natCast]; rintro e w3 ⟨v3, rfl, hx3, hi3, hn3⟩)
          exact ⟨by trivial, hx3, hi3, hn3.mono hx.size⟩
      · intro vs W5 hx5 hall
        obtain ⟨h23, hn23⟩ : Ints W5 (vs 23) (valsL p sh r N (nthL rows i)) ∧ NewIn wr (vs 23) := hall.at 5 (by omega) rfl
        clear hall
        simp only [fillA, fillL, dstL, List.take_succ_cons, List.take_zero, List.filterMap_cons, List.filterMap_nil, List.contains_cons, List.contains_nil, Nat.reduceAdd, Nat.zero_add, Nat.reduceBEq, Bool.or_false, Bool.or_true, Bool.false_eq_true, ↓reduceIte]
        obtain ⟨a3, c3, e23⟩ := h23.shape
        rw [e23] at h23 hn23 ⊢
        have hlt := ints_lt9 h23 (by rw [valsL_length]; omega)
        have H23 := Lib.hid h23; have HN23 := Lib.hid hn23; have HLT := Lib.hid hlt
        have hown := own_ext HLI.out.own hx5
        rw [HTL.out] at hown
        have HOWN := Lib.hid hown
        have hsz : W0.heap.size ≤ W5.heap.size := Nat.le_trans HX.out.size hx5.size
        clear h23 hn23 hlt hown
        generalize (valsL p sh r N (nthL rows i)) = nl at *
        go_wp2_with (at_builtin; refine wpList_appNw rfl _ _ 23 rfl slRows rfl hsz HOWN.out rfl #[.slice a3 nl.length c3] rfl (by intro u hu; simp at hu; subst hu; rfl) rfl (by omega) (by omega) ?_; intro v4 w4 HO4 HG4 HM4)
        go_roundw
        case rel =>
          have HS : rgInts.sat wr.heap.size W5.heap.size W5 nl [.slice a3 nl.length c3] := ⟨_, rfl, H23.out, fun k hk => ⟨HN23.out k hk, HLT.out k hk⟩⟩
          have hfar : ∀ k, _ → k < wr.heap.size ∨ W5.heap.size ≤ k := fun k hk => .inl (HLI.out.own.lt k hk).2
          exact ⟨i + 1, _, by omega, by go_num, Lib.hid (by rw [HTK.out]; exact (HLI.out.ext hx5).push HX.out.size (Nat.le_refl _) hfar HS (by rw [HTL.out]; exact HO4) HG4 HM4), Lib.hid (Ext.own_grown (HX.out.trans hx5) HOWN.out HG4)⟩
        case measure => simp [intOf]; omega
    · obtain rfl : i = rows.length := by omega
      have HLO := Lib.hid (show Lst rgInts W0.heap.size wr 22 1 u5 (longL p sh r N rows) E from by
        have h := HLI.out; rw [show (longL p sh r N rows).take rows.length = longL p sh r N rows from by rw [← longL_length p sh r N rows, List.take_length]] at h; exact h)
      obtain ⟨R2, hR2, hb2⟩ := HLO.out.rws
      have HR2 := Lib.hid hR2
      have hl5 := hR2.run_len (P := Tryz.prog) slRows
      rw [longL_length] at hl5
      have hB1 := HB.out.ext HX.out
      have HE1 := Lib.hid (show wr.cell? ⟨w.heap.size, 1, none⟩ = some (.int .i64 (N : Int)) from hB1.cell 1)
      have HXX := Lib.hid (HX0.out.trans HX.out)
      clear HLI hR2 hb2 hB1 HLO HR HX HX0 HB HR0
      generalize u5 = v5 at *
      generalize wr = W1 at *
      go_wp2_with fail
      go_loopw [8, 9, 10, 11] (fun x8 x9 _ _ wr => ∃ (j : Nat) (E : Nat → List Value), j ≤ N ∧ x9 = .int .i64 j ∧ Hid (Lst rgInts W1.heap.size wr 22 1 x8 ((colsL p sh r N rows).take j) E) ∧ Hid (Ext W1 wr)) (fun _ x9 _ _ _ => N - (intOf x9).toNat)
      case atStart => exact ⟨0, fun _ => [], Nat.zero_le _, rfl, Lib.hid (Lst.nil _ _ _ _ (World.ownsRow_nil _ _ _ _)), Lib.hid (Ext.refl _)⟩
      case round =>
        obtain ⟨j, E2, hj, rfl, HLJ, HX⟩ := hrel
        have hk1 := HX.out.cell HE1.out
        by_cases hjl : j < N
        · have HTK := Lib.hid (colsL_snoc p sh r N rows hjl)
          have HTL := Lib.hid (show ((colsL p sh r N rows).take j).length = j by rw [List.length_take, colsL_length]; omega)
          have HCL := Lib.hid (colOf_length p sh r rows j)
          have HCS := Lib.hid (fun t (h : t < rows.length) => colOf_snoc p sh r rows j h)
          generalize hco : colOf p sh r rows j = co at *
          generalize wr = w7 at *
          go_wp2_with fail
          go_loopw [10, 11] (fun x10 x11 wq => ∃ t : Nat, t ≤ rows.length ∧ x11 = .int .i64 t ∧ Hid (wq.ownsRow w7.heap.size 3 1 x10 t ((co.take t).map (Value.int .i64))) ∧ Hid (Ext w7 wq)) (fun _ x11 _ => rows.length - (intOf x11).toNat)
          case atStart => exact ⟨0, Nat.zero_le _, rfl, Lib.hid (World.ownsRow_nil _ _ _ _), Lib.hid (Ext.refl _)⟩
          case round =>
            obtain ⟨t, ht, rfl, HO, HXQ⟩ := hrel
            by_cases htl : t < rows.length
            · have htl2 : t < (longL p sh r N rows).length := by rw [longL_length]; exact htl
              have hxx := HX.out.trans HXQ.out
              have hix := HR2.out.run_index (P := Tryz.prog) slRows t htl2
              have hcx := hxx.cell (HR2.out.cell t htl2)
              have hrow := (HR2.out.row t htl2).ext hxx
              rw [longL_nth _ _ _ _ _ htl] at hrow
              have hlv := valsL_length p sh r N (nthL rows t)
              have hiy := hrow.run_index (P := Tryz.prog) slInts j (by rw [hlv]; exact hjl)
              have hcy := hrow.cell j (by rw [hlv]; exact hjl)
              rw [valsL_nth _ _ _ _ _ hjl] at hcy
              have HS := Lib.hid (HCS.out t htl)
              clear hrow hlv htl2 hxx
              generalize ev (nthL rows t) (ptAt p sh r j) % p = y at *
              go_wp2_with (at_builtin; refine wpList_app1 rfl _ _ 22 rfl slInts rfl HXQ.out HO.out rfl _ rfl rfl (by omega) (by omega) ?_; intro v' w2 HO' HX' _; have HO2 := Lib.hid HO'; clear HO')
              go_roundw
              case rel => exact ⟨t + 1, by omega, by go_num, Lib.hid (by rw [HS.out, List.map_append]; exact HO2.out), Lib.hid HX'⟩
              case measure => simp [intOf]; omega
            · obtain rfl : t = rows.length := by omega
              have HO1 := Lib.hid (show wr.ownsRow w7.heap.size 3 1 u10 co.length (co.map (Value.int .i64)) from by
                have h := HO.out; rw [show co.take rows.length = co from by rw [← HCL.out, List.take_length], ← HCL.out] at h; exact h)
              obtain ⟨au, cu, hsh10⟩ := own_shape HO1.out
              generalize u10 = v10 at *
              subst hsh10
              have hown := own_ext HLJ.out.own HXQ.out
              rw [HTL.out] at hown
              have HOWN := Lib.hid hown
              have hsz : W1.heap.size ≤ wr.heap.size := Nat.le_trans HX.out.size HXQ.out.size
              clear hown HO
              go_wp2_with (at_builtin; refine wpList_appNw rfl _ _ 23 rfl slRows rfl hsz HOWN.out rfl #[.slice au co.length cu] rfl (by intro u hu; simp at hu; subst hu; rfl) rfl (by omega) (by omega) ?_; intro v4 w4 HO4 HG4 HM4)
              go_roundw
              case rel =>
                have HS : rgInts.sat w7.heap.size wr.heap.size wr co [.slice au co.length cu] := ⟨_, rfl, Ints.of_own HO1.out, fun k hk => HO1.out.lt k hk⟩
                have hfar : ∀ k, _ → k < w7.heap.size ∨ wr.heap.size ≤ k := fun k hk => .inl (HLJ.out.own.lt k hk).2
                exact ⟨j + 1, _, by omega, by go_num, Lib.hid (by rw [HTK.out]; exact (HLJ.out.ext HXQ.out).push HX.out.size (Nat.le_refl _) hfar HS (by rw [HTL.out]; exact HO4) HG4 HM4), Lib.hid (Ext.own_grown (HX.out.trans HXQ.out) HOWN.out HG4)⟩
              case measure => simp [intOf]; omega
        · obtain rfl : j = N := by omega
          go_wp2_with fail
          go_ret
          exact .mk _ rfl (HXX.out.trans HX.out) (by have h := HLJ.out; rw [show (colsL p sh r j rows).take j = colsL p sh r j rows from by conv => lhs; rw [← colsL_length p sh r j rows, colsL_length p sh r j rows, List.take_of_length_le (by rw [colsL_length]; exact Nat.le_refl _)]] at h; obtain ⟨R, hR, _⟩ := h.rws; exact ⟨R, hR⟩)
end
end Go.Proofs.YtcpnidomdkaefaaGreatDoor
