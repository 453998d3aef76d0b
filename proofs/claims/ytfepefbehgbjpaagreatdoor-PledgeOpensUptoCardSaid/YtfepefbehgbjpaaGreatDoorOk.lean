/- Rows, columns and sums of a table, and where they lie, the document's side: contracts. Printed by wip/mkok.py. -/
import Derived.Test.YtfepefbehgbjpaaGreatDoorOi
import Derived.Test.YtfepefbehgbjpaaGreatDoorJh
import Derived.Test.YtfepefbehgbjpaaGreatDoorJi
import Derived.Test.YtfepefbehgbjpaaGreatDoorZx18
namespace Go.Att
open Go.RowKit
theorem sectV_blk {v : Value} {i j q : Nat} (h : (sectV v i j).ownBlock = some q) : v.ownBlock = some q := by
  unfold sectV at h
  split at h
  · rename_i a _ c
    cases a with
    | none => simp [sliced, Value.ownBlock] at h
    | some ad =>
      rcases ad with ⟨b, o, s⟩
      simp only [sliced] at h
      split at h
      · simpa [Value.ownBlock] using h
      · have h2 : (Addr.add ⟨b, o, s⟩ (i * 1)).block = q := by simpa [Value.ownBlock] using h
        have h3 : (Addr.add ⟨b, o, s⟩ (i * 1)).block = b := by unfold Addr.add; split <;> rfl
        have h4 : b = q := h3.symm.trans h2
        rw [h4]; rfl
  · exact h
def RwsV (B : Nat) (v : Value) (W : World) (u : Value) (L : List (List Int)) : Prop := ∃ T, RwsAt W u L T ∧ (∀ q, u.ownBlock = some q → B ≤ q) ∧ ∀ i, i < L.length → ∀ q, (T i).ownBlock = some q → v.ownBlock = some q
theorem RwsV.ext {B : Nat} {v : Value} {W W' : World} {u : Value} {L : List (List Int)} (h : RwsV B v W u L) (hx : Ext W W') : RwsV B v W' u L := let ⟨T, h1, h2⟩ := h; ⟨T, h1.ext hx, h2⟩
theorem RwsV.grown {B b : Nat} {v : Value} {W W' : World} {u : Value} {L : List (List Int)} (h : RwsV B v W u L) (hg : W.grownBy W' (some b)) (hb : b < B) (hv : ∀ q, v.ownBlock = some q → q ≠ b) : RwsV B v W' u L := by
  obtain ⟨T, h1, h2, h3⟩ := h
  exact ⟨T, ⟨h1.sl.grown hg (fun q hq e => by have := h2 q hq; have := Option.some.inj e; omega), fun i hi => (h1.row i hi).grown hg (fun q hq e => hv q (h3 i hi q hq) (Option.some.inj e))⟩, h2, h3⟩
end Go.Att
namespace Go.Proofs.YtfepefbehgbjpaaGreatDoor
open Go.RowKit Go.Att
section
variable {w : World}
set_option maxRecDepth 100000 in
set_option maxHeartbeats 4000000 in
theorem rrowsN_any {vt : Value} {l : List Int} (hv : Ints w vt l) (k : Nat) (hk : k ≤ 12) (hl : l.length = 2 ^ k) :
    Calls Tryz.prog 45 #[vt, .int .i64 k] w (Gives w fun u w' => RwsV w.heap.size vt w' u (rowsL l (2 ^ (k - k / 2)) (2 ^ (k / 2)))) := by
  have hq : (k : Int).tdiv 2 = ((k / 2 : Nat) : Int) := by rw [Int.tdiv_eq_ediv_of_nonneg (by omega)]; omega
  obtain ⟨a, ha⟩ : ∃ a, k / 2 = a := ⟨_, rfl⟩
  have hs : (k : Int) - (a : Int) = ((k - a : Nat) : Int) := by omega
  obtain ⟨c, hc⟩ : ∃ c, k - a = c := ⟨_, rfl⟩
  have hc6 : c ≤ 60 := by omega
  have CT := Lib.hid (rtwo_any c · hc6)
  rw [ha, hc]
  rw [ha] at hq
  rw [hc] at hs
  have hcc : l.length = 2 ^ a * 2 ^ c := by rw [hl, ← Nat.pow_add]; congr 1; omega
  have hlb : l.length ≤ 4096 := by
    rw [hl]
    exact Nat.le_trans (Nat.pow_le_pow_right (by decide) hk) (by decide)
  have hM1 : 1 ≤ 2 ^ c := Nat.one_le_two_pow
  rw [show (2 : Int) ^ c = ((2 ^ c : Nat) : Int) by simp] at CT
  generalize 2 ^ c = M at *
  generalize 2 ^ a = C at *
  have HV := Lib.hid hv
  have HLC := Lib.hid hcc
  have hll := hv.run_len (P := Tryz.prog) slInts
  obtain ⟨N, hN⟩ : ∃ N, l.length = N := ⟨_, rfl⟩
  have HN := Lib.hid hN
  rw [hN] at hll hlb
  have HNC := Lib.hid (hN.symm.trans hcc)
  have HM := Lib.hid hM1
  clear hv ha hc hcc hl hN
  go_enter Tryz.func45, Tryz.ntmps45
  go_wp2_with (go_at_call 41; refine (CT.out _).mono ?_; rintro e w' ⟨rfl, rfl⟩)
  go_loopw [6, 7] (fun x6 x7 wr => ∃ i j : Nat, i ≤ C ∧ j = i * M ∧ x7 = .int .i64 j ∧ Hid (wr.ownsRow w.heap.size 22 1 x6 i ((List.range i).map fun q => sectV vt (q * M) (q * M + M))) ∧ Hid (Ext w wr)) (fun _ x7 _ => N - (intOf x7).toNat)
  case atStart => exact ⟨0, 0, Nat.zero_le _, by simp, rfl, Lib.hid (World.ownsRow_nil _ _ _ _), Lib.hid (Ext.refl _)⟩
  case round =>
    obtain ⟨i, j, hi, hj, rfl, HO, HX⟩ := hrel
    by_cases hlt : i < C
    · have hjM : j + M ≤ N := by
        have h1 := Nat.mul_le_mul_right M (show i + 1 ≤ C from hlt)
        rw [Nat.succ_mul, ← hj] at h1
        have h2 := HNC.out; omega
      have hM1 := HM.out
      have hpt := fun w' => HV.out.run_part (P := Tryz.prog) slInts j (j + M) (by omega) (by rw [HN.out]; exact hjM) w'
      obtain ⟨ap, cp, hsh⟩ := (HV.out.part j (j + M) (by omega) (by rw [HN.out]; exact hjM)).shape
      generalize ((l.drop j).take (j + M - j)).length = np at hsh
      rw [hsh] at hpt
      rw [show ((j + M : Nat) : Int) = (j : Int) + (M : Int) by omega] at hpt
      have HJ := Lib.hid (show Value.slice ap np cp = sectV vt (i * M) (i * M + M) by rw [← hsh, hj])
      have HJ2 := Lib.hid (show j + M = (i + 1) * M by rw [hj, Nat.succ_mul])
      have hC : C ≤ 4294967290 := by
        have h3 := Nat.le_mul_of_pos_right C (show 0 < M by omega)
        have h2 := HNC.out; omega
      clear hj hsh
      go_wp2_with (at_builtin; refine wpList_app1 rfl _ _ 29 rfl slRows rfl HX.out HO.out rfl _ rfl rfl (by omega) (by omega) ?_; intro v' w2 HO' HX' _; have HO2 := Lib.hid HO'; clear HO')
      go_roundw
      case rel => exact ⟨i + 1, j + M, by omega, HJ2.out, by go_num, Lib.hid (by rw [range_snocV, ← HJ.out]; exact HO2.out), Lib.hid HX'⟩
      case measure => simp [intOf]; omega
    · obtain rfl : i = C := by omega
      have hjN : j = N := by rw [hj]; exact HNC.out.symm
      have HJ := Lib.hid hj
      subst hjN
      clear hj
      go_wp2_with fail
      go_ret
      refine .mk _ rfl HX.out ⟨fun q => sectV vt (q * M) (q * M + M), ⟨by rw [rowsL_length]; exact Sl.of_own HO.out (by omega), fun q hq => ?_⟩, fun q hq => (HO.out.lt q hq).1, fun t _ q hq => sectV_blk hq⟩
      rw [rowsL_length] at hq
      rw [rowsL_nth _ _ _ _ hq]
      have h1 := Nat.mul_le_mul_right M (show q + 1 ≤ i from hq)
      rw [Nat.succ_mul] at h1
      have h3 := HM.out
      have := (HV.out.ext HX.out).part (q * M) (q * M + M) (by omega) (by rw [HN.out, HJ.out]; exact h1)
      rw [Nat.add_sub_cancel_left] at this
      exact this
end
section
variable {w : World} {p sh r : Int}
set_option maxRecDepth 100000 in
set_option maxHeartbeats 8000000 in
theorem rcolsN_any (hp : 2 ≤ p) (hp2 : p ≤ 2147483647) (hsh : 0 ≤ sh ∧ sh < p) (N : Nat) (h1 : 1 ≤ N) (h2 : N ≤ 65536) {vr : Value} {rows : List (List Int)} {R : Nat → Value} (hr : RwsAt w vr rows R) (hrl : rows.length ≤ 4096) :
    Calls Tryz.prog 46 #[.agg #[.int .i64 p, .int .i64 (N : Int), .int .i64 sh, .int .i64 r], vr] w (Gives w fun u w' => RwsN w.heap.size w' u (colsL p sh r N rows)) := by
  have hll := hr.run_len (P := Tryz.prog) slRows
  have HR0 := Lib.hid hr
  have HB := Lib.hid (BlkOf.new w [.int .i64 p, .int .i64 (N : Int), .int .i64 sh, .int .i64 r] 39)
  have HX0 := Lib.hid (Ext.alloc w (Obj.cells #[.int .i64 p, .int .i64 (N : Int), .int .i64 sh, .int .i64 r] 39))
  clear hr
  go_enter Tryz.func46, Tryz.ntmps46
  go_wp2_with fail
  generalize w.alloc (Obj.cells #[.int .i64 p, .int .i64 (N : Int), .int .i64 sh, .int .i64 r] 39) = W0 at *
  have HR := Lib.hid (HR0.out.ext HX0.out)
  go_loopw [5, 6, 7] (fun x5 x6 _ wr => ∃ (i : Nat) (E : Nat → List Value), i ≤ rows.length ∧ x6 = .int .i64 i ∧ Hid (Lst rgInts W0.heap.size wr 22 1 x5 ((longL p sh r N rows).take i) E) ∧ Hid (Ext W0 wr)) (fun _ x6 _ _ => rows.length - (intOf x6).toNat)
  case atStart => exact ⟨0, fun _ => [], Nat.zero_le _, rfl, Lib.hid (Lst.nil _ _ _ _ (World.ownsRow_nil _ _ _ _)), Lib.hid (Ext.refl _)⟩
  case round =>
    obtain ⟨i, E, hi, rfl, HLI, HX⟩ := hrel
    by_cases hil : i < rows.length
    · have HIX := Lib.hid (HR.out.run_index (P := Tryz.prog) slRows i hil)
      have HCX := Lib.hid (HX.out.cell (HR.out.cell i hil))
      have HROW := Lib.hid ((HR.out.row i hil).ext HX.out)
      have HTK := Lib.hid (longL_snoc p sh r N rows hil)
      have HTL := Lib.hid (show ((longL p sh r N rows).take i).length = i by rw [List.length_take, longL_length]; omega)
      have HB1 := HB.out.ext HX.out
      have HE0 := Lib.hid (show wr.cell? ⟨w.heap.size, 0, none⟩ = some (.int .i64 p) from HB1.cell 0)
      have HE1 := Lib.hid (show wr.cell? ⟨w.heap.size, 1, none⟩ = some (.int .i64 (N : Int)) from HB1.cell 1)
      have HE2 := Lib.hid (show wr.cell? ⟨w.heap.size, 2, none⟩ = some (.int .i64 sh) from HB1.cell 2)
      have HE3 := Lib.hid (show wr.cell? ⟨w.heap.size, 3, none⟩ = some (.int .i64 r) from HB1.cell 3)
      clear HB1
      go_upto_region 5 with (fail)
      refine wp_region_ext 6 [SP.eq (.agg #[.int .i64 p, .int .i64 (N : Int), .int .i64 sh, .int .i64 r]), SP.eq vr, SP.eq (.int .i64 (i : Int)), SP.eq (.pointer (some (elt vr i 1))), SP.eq (R i), SP.both (SP.ints (valsL p sh r N (nthL rows i))) (SP.is (NewIn wr))] (by kernel_rfl) (by kernel_rfl) (by kernel_rfl) ?_ ?_
      · refine ⟨?_, ?_, ?_, ?_, ?_, ?_, trivial⟩
        · refine ExtStep.mk rfl fun vs W hx hd => ?_
          clear hd
          simp only [fillA, fillL, dstL, List.take_succ_cons, List.take_zero, List.filterMap_cons, List.filterMap_nil, List.contains_cons, List.contains_nil, Nat.reduceAdd, Nat.zero_add, Nat.reduceBEq, Bool.or_false, Bool.or_true, Bool.false_eq_true, ↓reduceIte]
          have hk0 := hx.cell HE0.out
          have hk1 := hx.cell HE1.out
          have hk2 := hx.cell HE2.out
          have hk3 := hx.cell HE3.out
          go_wp2_with fail
          exact ⟨by trivial, Ext.refl _, rfl⟩
        · refine ExtStep.mk rfl fun vs W hx hd => ?_
          clear hd
          simp only [fillA, fillL, dstL, List.take_succ_cons, List.take_zero, List.filterMap_cons, List.filterMap_nil, List.contains_cons, List.contains_nil, Nat.reduceAdd, Nat.zero_add, Nat.reduceBEq, Bool.or_false, Bool.or_true, Bool.false_eq_true, ↓reduceIte]
          go_wp2_with fail
          exact ⟨by trivial, Ext.refl _, rfl⟩
        · refine ExtStep.mk rfl fun vs W hx hd => ?_
          clear hd
          simp only [fillA, fillL, dstL, List.take_succ_cons, List.take_zero, List.filterMap_cons, List.filterMap_nil, List.contains_cons, List.contains_nil, Nat.reduceAdd, Nat.zero_add, Nat.reduceBEq, Bool.or_false, Bool.or_true, Bool.false_eq_true, ↓reduceIte]
          go_wp2_with fail
          exact ⟨by trivial, Ext.refl _, rfl⟩
        · refine ExtStep.mk rfl fun vs W hx hd => ?_
          have e19 : vs 19 = vr := hd 1 (by kernel_rfl)
          have e20 : vs 20 = (.int .i64 (i : Int)) := hd 2 (by kernel_rfl)
          clear hd
          simp only [fillA, fillL, dstL, List.take_succ_cons, List.take_zero, List.filterMap_cons, List.filterMap_nil, List.contains_cons, List.contains_nil, Nat.reduceAdd, Nat.zero_add, Nat.reduceBEq, Bool.or_false, Bool.or_true, Bool.false_eq_true, ↓reduceIte]
          rw [e19, e20]
          have hix2 := HIX.out
          go_wp2_with fail
          exact ⟨by trivial, Ext.refl _, rfl⟩
        · refine ExtStep.mk rfl fun vs W hx hd => ?_
          have e21 : vs 21 = (.pointer (some (elt vr i 1))) := hd 3 (by kernel_rfl)
          clear hd
          simp only [fillA, fillL, dstL, List.take_succ_cons, List.take_zero, List.filterMap_cons, List.filterMap_nil, List.contains_cons, List.contains_nil, Nat.reduceAdd, Nat.zero_add, Nat.reduceBEq, Bool.or_false, Bool.or_true, Bool.false_eq_true, ↓reduceIte]
          rw [e21]
          have hc2 := hx.cell HCX.out
          go_wp2_with fail
          exact ⟨by trivial, Ext.refl _, rfl⟩
        · refine ExtStep.mk rfl fun vs W hx hd => ?_
          have e18 : vs 18 = (.agg #[.int .i64 p, .int .i64 (N : Int), .int .i64 sh, .int .i64 r]) := hd 0 (by kernel_rfl)
          have e22 : vs 22 = (R i) := hd 4 (by kernel_rfl)
          clear hd
          simp only [fillA, fillL, dstL, List.take_succ_cons, List.take_zero, List.filterMap_cons, List.filterMap_nil, List.contains_cons, List.contains_nil, Nat.reduceAdd, Nat.zero_add, Nat.reduceBEq, Bool.or_false, Bool.or_true, Bool.false_eq_true, ↓reduceIte]
          rw [e18, e22]
          go_wp2_with (go_at_call 98; refine (rvals_any p N sh r (R i) (nthL rows i) W hp hp2 (by omega) (by omega) hsh (HROW.out.ext hx)).mono ?_; rw [Int.toNat_natCast]; rintro e w3 ⟨v3, rfl, hx3, hi3, hn3⟩)
          exact ⟨by trivial, hx3, hi3, hn3.mono hx.size⟩
      · intro vs W5 hx5 hall
        obtain ⟨h23, hn23⟩ : Ints W5 (vs 23) (valsL p sh r N (nthL rows i)) ∧ NewIn wr (vs 23) := hall.at 5 (by omega) rfl
        clear hall
        simp only [fillA, fillL, dstL, List.take_succ_cons, List.take_zero, List.filterMap_cons, List.filterMap_nil, List.contains_cons, List.contains_nil, Nat.reduceAdd, Nat.zero_add, Nat.reduceBEq, Bool.or_false, Bool.or_true, Bool.false_eq_true, ↓reduceIte]
        obtain ⟨a3, c3, e23⟩ := h23.shape
        rw [e23] at h23 hn23 ⊢
        have hlt := ints_lt9 h23 (by rw [valsL_length]; omega)
        have H23 := Lib.hid h23; have HN23 := Lib.hid hn23; have HLT := Lib.hid hlt
        have hown := own_ext HLI.out.own hx5
        rw [HTL.out] at hown
        have HOWN := Lib.hid hown
        have hsz : W0.heap.size ≤ W5.heap.size := Nat.le_trans HX.out.size hx5.size
        clear h23 hn23 hlt hown
        generalize (valsL p sh r N (nthL rows i)) = nl at *
        go_wp2_with (at_builtin; refine wpList_appNw rfl _ _ 29 rfl slRows rfl hsz HOWN.out rfl #[.slice a3 nl.length c3] rfl (by intro u hu; simp at hu; subst hu; rfl) rfl (by omega) (by omega) ?_; intro v4 w4 HO4 HG4 HM4)
        go_roundw
        case rel =>
          have HS : rgInts.sat wr.heap.size W5.heap.size W5 nl [.slice a3 nl.length c3] := ⟨_, rfl, H23.out, fun k hk => ⟨HN23.out k hk, HLT.out k hk⟩⟩
          have hfar : ∀ k, _ → k < wr.heap.size ∨ W5.heap.size ≤ k := fun k hk => .inl (HLI.out.own.lt k hk).2
          exact ⟨i + 1, _, by omega, by go_num, Lib.hid (by rw [HTK.out]; exact (HLI.out.ext hx5).push HX.out.size (Nat.le_refl _) hfar HS (by rw [HTL.out]; exact HO4) HG4 HM4), Lib.hid (Ext.own_grown (HX.out.trans hx5) HOWN.out HG4)⟩
        case measure => simp [intOf]; omega
    · obtain rfl : i = rows.length := by omega
      have HLO := Lib.hid (show Lst rgInts W0.heap.size wr 22 1 u5 (longL p sh r N rows) E from by
        have h := HLI.out; rw [show (longL p sh r N rows).take rows.length = longL p sh r N rows from by rw [← longL_length p sh r N rows, List.take_length]] at h; exact h)
      obtain ⟨R2, hR2, hb2⟩ := HLO.out.rws
      have HR2 := Lib.hid hR2
      have hl5 := hR2.run_len (P := Tryz.prog) slRows
      rw [longL_length] at hl5
      have hB1 := HB.out.ext HX.out
      have HE1 := Lib.hid (show wr.cell? ⟨w.heap.size, 1, none⟩ = some (.int .i64 (N : Int)) from hB1.cell 1)
      have HXX := Lib.hid (HX0.out.trans HX.out)
      clear HLI hR2 hb2 hB1 HLO HR HX HX0 HB HR0
      generalize u5 = v5 at *
      generalize wr = W1 at *
      go_wp2_with fail
      go_loopw [8, 9, 10, 11] (fun x8 x9 _ _ wr => ∃ (j : Nat) (E : Nat → List Value), j ≤ N ∧ x9 = .int .i64 j ∧ Hid (Lst rgInts W1.heap.size wr 22 1 x8 ((colsL p sh r N rows).take j) E) ∧ Hid (Ext W1 wr)) (fun _ x9 _ _ _ => N - (intOf x9).toNat)
      case atStart => exact ⟨0, fun _ => [], Nat.zero_le _, rfl, Lib.hid (Lst.nil _ _ _ _ (World.ownsRow_nil _ _ _ _)), Lib.hid (Ext.refl _)⟩
      case round =>
        obtain ⟨j, E2, hj, rfl, HLJ, HX⟩ := hrel
        have hk1 := HX.out.cell HE1.out
        by_cases hjl : j < N
        · have HTK := Lib.hid (colsL_snoc p sh r N rows hjl)
          have HTL := Lib.hid (show ((colsL p sh r N rows).take j).length = j by rw [List.length_take, colsL_length]; omega)
          have HCL := Lib.hid (colOf_length p sh r rows j)
          have HCS := Lib.hid (fun t (h : t < rows.length) => colOf_snoc p sh r rows j h)
          generalize hco : colOf p sh r rows j = co at *
          generalize wr = w7 at *
          go_wp2_with fail
          go_loopw [10, 11] (fun x10 x11 wq => ∃ t : Nat, t ≤ rows.length ∧ x11 = .int .i64 t ∧ Hid (wq.ownsRow w7.heap.size 3 1 x10 t ((co.take t).map (Value.int .i64))) ∧ Hid (Ext w7 wq)) (fun _ x11 _ => rows.length - (intOf x11).toNat)
          case atStart => exact ⟨0, Nat.zero_le _, rfl, Lib.hid (World.ownsRow_nil _ _ _ _), Lib.hid (Ext.refl _)⟩
          case round =>
            obtain ⟨t, ht, rfl, HO, HXQ⟩ := hrel
            by_cases htl : t < rows.length
            · have htl2 : t < (longL p sh r N rows).length := by rw [longL_length]; exact htl
              have hxx := HX.out.trans HXQ.out
              have hix := HR2.out.run_index (P := Tryz.prog) slRows t htl2
              have hcx := hxx.cell (HR2.out.cell t htl2)
              have hrow := (HR2.out.row t htl2).ext hxx
              rw [longL_nth _ _ _ _ _ htl] at hrow
              have hlv := valsL_length p sh r N (nthL rows t)
              have hiy := hrow.run_index (P := Tryz.prog) slInts j (by rw [hlv]; exact hjl)
              have hcy := hrow.cell j (by rw [hlv]; exact hjl)
              rw [valsL_nth _ _ _ _ _ hjl] at hcy
              have HS := Lib.hid (HCS.out t htl)
              clear hrow hlv htl2 hxx
              generalize ev (nthL rows t) (ptAt p sh r j) % p = y at *
              go_wp2_with (at_builtin; refine wpList_app1 rfl _ _ 22 rfl slInts rfl HXQ.out HO.out rfl _ rfl rfl (by omega) (by omega) ?_; intro v' w2 HO' HX' _; have HO2 := Lib.hid HO'; clear HO')
              go_roundw
              case rel => exact ⟨t + 1, by omega, by go_num, Lib.hid (by rw [HS.out, List.map_append]; exact HO2.out), Lib.hid HX'⟩
              case measure => simp [intOf]; omega
            · obtain rfl : t = rows.length := by omega
              have HO1 := Lib.hid (show wr.ownsRow w7.heap.size 3 1 u10 co.length (co.map (Value.int .i64)) from by
                have h := HO.out; rw [show co.take rows.length = co from by rw [← HCL.out, List.take_length], ← HCL.out] at h; exact h)
              obtain ⟨au, cu, hsh10⟩ := own_shape HO1.out
              generalize u10 = v10 at *
              subst hsh10
              have hown := own_ext HLJ.out.own HXQ.out
              rw [HTL.out] at hown
              have HOWN := Lib.hid hown
              have hsz : W1.heap.size ≤ wr.heap.size := Nat.le_trans HX.out.size HXQ.out.size
              clear hown HO
              go_wp2_with (at_builtin; refine wpList_appNw rfl _ _ 29 rfl slRows rfl hsz HOWN.out rfl #[.slice au co.length cu] rfl (by intro u hu; simp at hu; subst hu; rfl) rfl (by omega) (by omega) ?_; intro v4 w4 HO4 HG4 HM4)
              go_roundw
              case rel =>
                have HS : rgInts.sat w7.heap.size wr.heap.size wr co [.slice au co.length cu] := ⟨_, rfl, Ints.of_own HO1.out, fun k hk => HO1.out.lt k hk⟩
                have hfar : ∀ k, _ → k < w7.heap.size ∨ wr.heap.size ≤ k := fun k hk => .inl (HLJ.out.own.lt k hk).2
                exact ⟨j + 1, _, by omega, by go_num, Lib.hid (by rw [HTK.out]; exact (HLJ.out.ext HXQ.out).push HX.out.size (Nat.le_refl _) hfar HS (by rw [HTL.out]; exact HO4) HG4 HM4), Lib.hid (Ext.own_grown (HX.out.trans HXQ.out) HOWN.out HG4)⟩
              case measure => simp [intOf]; omega
        · obtain rfl : j = N := by omega
          go_wp2_with fail
          go_ret
          exact .mk _ rfl (HXX.out.trans HX.out) (by have h := HLJ.out; rw [show (colsL p sh r j rows).take j = colsL p sh r j rows from by conv => lhs; rw [← colsL_length p sh r j rows, colsL_length p sh r j rows, List.take_of_length_le (by rw [colsL_length]; exact Nat.le_refl _)]] at h; obtain ⟨R, hR, hI⟩ := h.rws; exact ⟨R, hR, fun q hq => Nat.le_trans HXX.out.size (h.own.lt q hq).1, fun t ht q hq => Nat.le_trans HXX.out.size (hI t ht q hq).1⟩)
end
section
variable {w : World} {p : Int}
set_option maxRecDepth 100000 in
set_option maxHeartbeats 8000000 in
theorem rsumN_any (hp : 2 ≤ p) (hp2 : p ≤ 2147483647) (vr vb : Value) (rows : List (List Int)) (by_ : List Int) (R : Nat → Value) (hr : RwsAt w vr rows R) (hb : Ints w vb by_) (m : Nat) (h0 : 0 < rows.length) (hm : ∀ i, i < rows.length → (nthL rows i).length = m) (hm2 : m ≤ 4294967290) (hbl : rows.length ≤ by_.length) :
    Calls Tryz.prog 50 #[.int .i64 p, vr, vb] w (Gives w fun u w' => w'.ownsRow w.heap.size 3 1 u m ((mxU p (nth by_) rows m rows.length).map (Value.int .i64))) := by
  have hlr := hr.run_len (P := Tryz.prog) slRows
  have hrl := hr.len
  have hi0 := hr.run_index (P := Tryz.prog) slRows 0 h0
  have hc0 := hr.cell 0 h0
  have hl0 := (hr.row 0 h0).run_len (P := Tryz.prog) slInts
  rw [hm 0 h0] at hl0
  rw [show ((0 : Nat) : Int) = 0 from rfl] at hi0
  have HR := Lib.hid hr; have HM := Lib.hid hm; have HB := Lib.hid hb; have HBL := Lib.hid hbl
  have HML := Lib.hid (fun i (hi : i ≤ rows.length) => mxU_length p (nth by_) rows m hm i hi)
  clear hr hm hb hbl
  go_enter Tryz.func50, Tryz.ntmps50
  go_wp2_with (refine wpList_mkn rfl _ _ 22 rfl slInts (Ext.refl _) rfl rfl (by omega) (by omega) (by omega) ?_; intro v7 w7 HN1 HX1 HG1)
  have HO0 := Lib.hid (show w7.ownsRow w.heap.size 3 1 v7 m ((mxU p (nth by_) rows m 0).map (Value.int .i64)) from by
    rw [Int.toNat_natCast, zeros_made, List.append_nil] at HN1
    exact HN1)
  have HX7 := Lib.hid HX1
  have HVB := Lib.hid (show ∀ q, v7.ownBlock = some q → w.heap.size ≤ q from fun q hq => (HN1.lt q hq).1)
  have hl7 := (Sl.of_own HN1 (by omega)).run_len (P := Tryz.prog) slInts
  rw [Int.toNat_natCast] at hl7
  clear HN1 HX1 HG1 hi0 hc0 hl0
  go_loopw [8, 9, 10] (fun x8 _ _ wr => ∃ i : Nat, i ≤ rows.length ∧ x8 = .int .i64 i ∧ Hid (wr.ownsRow w.heap.size 3 1 v7 m ((mxU p (nth by_) rows m i).map (Value.int .i64))) ∧ Hid (w7.grownBy wr v7.ownBlock)) (fun x8 _ _ _ => rows.length - (intOf x8).toNat)
  case atStart => exact ⟨0, Nat.zero_le _, rfl, HO0, Lib.hid (World.grownBy.refl _ _)⟩
  case round =>
    obtain ⟨i, hi, rfl, HOW, HXQ⟩ := hrel
    have HXR := Lib.hid (Ext.own_grown HX7.out HO0.out HXQ.out)
    by_cases hin : i < rows.length
    · have hix := HR.out.run_index (P := Tryz.prog) slRows i hin
      have HCX := Lib.hid (HR.out.cell i hin)
      have HROW := Lib.hid (HR.out.row i hin)
      have HRL := Lib.hid (HM.out i hin)
      have hib := HB.out.run_index (P := Tryz.prog) slInts i (Nat.lt_of_lt_of_le hin HBL.out)
      have HCB := Lib.hid (HB.out.cell i (Nat.lt_of_lt_of_le hin HBL.out))
      have HUL := Lib.hid (HML.out i hi)
      have HUN := Lib.hid (show mxU p (nth by_) rows m (i + 1) = addc p (nth by_ i) (mxU p (nth by_) rows m i) (nthL rows i) from rfl)
      generalize mxU p (nth by_) rows m i = sm at *
      generalize nthL rows i = pt at *
      generalize R i = ri at *
      generalize nth by_ i = c at *
      have HA0 := Lib.hid (show wr.ownsRow w.heap.size 3 1 v7 m ((adRow p c sm pt 0).map (Value.int .i64)) from by rw [adRow_zero]; exact HOW.out)
      have HX8 := Lib.hid HXR.out
      clear HOW HXR
      generalize wr = w9 at *
      go_wp2_with fail
      go_loopw [9, 10] (fun x9 _ wq => ∃ t : Nat, t ≤ m ∧ x9 = .int .i64 t ∧ Hid (wq.ownsRow w.heap.size 3 1 v7 m ((adRow p c sm pt t).map (Value.int .i64))) ∧ Hid (w9.grownBy wq v7.ownBlock)) (fun x9 _ _ => m - (intOf x9).toNat)
      case atStart => exact ⟨0, Nat.zero_le _, rfl, HA0, Lib.hid (World.grownBy.refl _ _)⟩
      case round =>
        obtain ⟨t, ht, rfl, HOT, HXT⟩ := hrel
        have HXTW := Lib.hid (show Ext w wr from Below.grown HX8.out.below HXT.out HX8.out.size (fun q e => HVB.out q e))
        by_cases htn : t < m
        · have HPW := Lib.hid (HROW.out.ext HXTW.out)
          have hip := HPW.out.run_index (P := Tryz.prog) slInts t (by rw [HRL.out]; exact htn)
          have hcp := HPW.out.cell t (by rw [HRL.out]; exact htn)
          have hcx := HXTW.out.cell HCX.out
          have hcb := HXTW.out.cell HCB.out
          have hlr2 : (adRow p c sm pt t).length = m := by rw [adRow_length]; exact HUL.out
          have HIT := Lib.hid (Ints.of_own HOT.out)
          have his := HIT.out.run_index (P := Tryz.prog) slInts t (by rw [hlr2]; exact htn)
          have hcs := HIT.out.cell t (by rw [hlr2]; exact htn)
          rw [adRow_nth _ _ _ _ _ (by rw [HUL.out]; exact htn)] at hcs
          have HST := Lib.hid (adRow_step p c sm pt t (by rw [HUL.out]; exact htn))
          have HLR := Lib.hid hlr2
          clear hlr2
          generalize nth pt t = y at *
          generalize nth sm t = sy at *
          go_wp2_with fail
          go_quiet ((go_at_call 102; exact rmul_q _ _ _ _ _ hp hp2))
          have HO4 := Lib.hid (own_ext HOT.out (Ext.drewN wr nq))
          have HXT4 := Lib.hid (HXT.out.trans ((Ext.drewN wr nq).grownBy _))
          replace hcs := (Ext.drewN wr nq).cell hcs
          clear hip hcp hcx hcb HPW HXTW HIT HOT HXT
          generalize wr.drewN nq = w6 at *
          go_wp2_with (first | (go_at_call 103; refine (radd_any _ _ _ _ hp hp2).mono ?_; rintro e w' ⟨rfl, rfl⟩) | (refine wpList_set rfl rfl _ _ 3 rfl slInts HO4.out t htn rfl (.int .i64 (fadd p sy (fmul p c y))) rfl rfl (by intro u hu; simp [Value.cells] at hu; subst hu; rfl) ?_; intro w5 HO5 HG5))
          rw [ints_setC _ _ (by rw [HLR.out]; exact htn), HST.out] at HO5
          have HO5H := Lib.hid HO5
          clear HO5
          go_roundw
          case rel => exact ⟨t + 1, by omega, by go_num, HO5H, Lib.hid (HXT4.out.trans HG5)⟩
          case measure => simp [intOf]; omega
        · obtain rfl : m = t := by omega
          have HSF := Lib.hid (show wr.ownsRow w.heap.size 3 1 v7 m ((mxU p (nth by_) rows m (i + 1)).map (Value.int .i64)) from by
            have h5 := HOT.out
            have h6 := adRow_last p c sm pt (by rw [HUL.out, HRL.out])
            rw [HUL.out] at h6
            rw [HUN.out, ← h6]; exact h5)
          clear HOT
          go_wp2_with fail
          go_roundw
          case rel => exact ⟨i + 1, by omega, by go_num, HSF, Lib.hid (HXQ.out.trans HXT.out)⟩
          case measure => simp [intOf]; omega
    · obtain rfl : i = rows.length := by omega
      go_wp2_with fail
      go_ret
      exact .mk _ rfl HXR.out HOW.out
end
end Go.Proofs.YtfepefbehgbjpaaGreatDoor
