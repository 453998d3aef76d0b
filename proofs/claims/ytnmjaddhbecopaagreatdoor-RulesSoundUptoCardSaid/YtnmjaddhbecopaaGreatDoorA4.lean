/- Are the pairs of all rows the same in both orders? The program's side: contracts. -/
import Derived.Test.YtnmjaddhbecopaaGreatDoorZx4
namespace Go.Att
open Go.RowKit
/-- Two slices in two blocks. -/
def Apt (va vb : Value) : Prop := ∀ k, va.ownBlock = some k → some k ≠ vb.ownBlock
theorem Apt.symm {va vb : Value} (h : Apt va vb) : Apt vb va := fun k hk hc => h k hc.symm hk.symm
theorem own_apart {W w' : World} {B e sz n : Nat} {va va' vb : Value} {xs : List Value} (hb : W.ownsRow B e sz vb n xs) (hg : W.grownBy w' va.ownBlock) (hm : Moved W va va') (hne : Apt va vb) : w'.ownsRow B e sz vb n xs ∧ Apt va' vb := by
  refine ⟨?_, fun k hk hc => ?_⟩
  · refine ⟨hb.1, ?_⟩
    rcases hb.2 with h2 | ⟨g, cap, cur, rfl, hbg, hgg, hr⟩
    · exact .inl h2
    · exact .inr ⟨g, cap, cur, rfl, hbg, by rw [hg.block g (Array.getElem?_eq_some_iff.1 hgg).1 (fun e => hne g e.symm rfl)]; exact hgg, hr⟩
  · rcases hm with hm | hm
    · rw [hm] at hk; exact hne k hk hc
    · have h1 := hm k hk
      have h2 := (hb.lt k hc.symm).2
      omega
theorem flat_snoc {l : List (Int × Int)} {c d : Int} : flatP l ++ [Value.int .i64 c, Value.int .i64 d] = flatP (l ++ [(c, d)]) := by simp [flatP]
end Go.Att
namespace Go.Proofs.YtnmjaddhbecopaaGreatDoor
open Go.RowKit Go.Att Go.Shelf Go.Sort
set_option maxRecDepth 100000 in
set_option maxHeartbeats 2000000 in
theorem equalp_any (va vb : Value) (a b : List (Int × Int)) (w : World) (hva : Prs w va a) (hvb : Prs w vb b) (hsa : a.length ≤ 4294967295) :
    Calls Tryz.prog 113 #[va, vb] w fun e w' => e = .returned (.bool (decide (a = b))) ∧ Ext w w' := by
  have hla := hva.run_len (P := Tryz.prog) slPairs
  have hlb := hvb.run_len (P := Tryz.prog) slPairs
  have hlen := hvb.len
  have HA := Lib.hid hva; have HB := Lib.hid hvb; clear hva hvb
  by_cases hl : a.length = b.length
  · have hne : ((a.length : Int) != b.length) = false := by rw [bne_eq_false_iff_eq]; omega
    have HL := Lib.hid hl
    clear hl
    go_enter Tryz.func113, Tryz.ntmps113
    go_wp2_with fail
    go_loopw [13] (fun x5 wr => ∃ i m : Nat, x5 = .int .i64 i ∧ i ≤ a.length ∧ Hid (∀ j, j < i → nthP a j = nthP b j) ∧ wr = w.drewN m) (fun x5 _ => a.length - (intOf x5).toNat)
    case atStart => exact ⟨0, 0, rfl, Nat.zero_le _, Lib.hid (fun j hj => by omega), rfl⟩
    case round =>
      obtain ⟨i, m, rfl, hi1, H, rfl⟩ := hrel
      by_cases hlt : i < a.length
      · have hia := HA.out.run_index (P := Tryz.prog) slPairs i hlt
        have hib := HB.out.run_index (P := Tryz.prog) slPairs i (by rw [← HL.out]; exact hlt)
        have c1 := HA.out.fst i hlt
        have c2 := HA.out.snd i hlt
        have d1 := HB.out.fst i (by rw [← HL.out]; exact hlt)
        have d2 := HB.out.snd i (by rw [← HL.out]; exact hlt)
        by_cases he : nthP a i = nthP b i
        · rw [← he] at d1 d2
          have HE := Lib.hid he; clear he
          go_wp2_with fail
          go_quiet (fail)
          go_wp2_with fail
          go_roundw
          case rel => exact ⟨i + 1, _, by go_num, by omega, Lib.hid (fun j hj => by
            rcases Nat.lt_or_eq_of_le (show j ≤ i by omega) with h | rfl
            · exact H.out j h
            · exact HE.out), rfl⟩
          case measure => simp [intOf]; omega
        · have HF := Lib.hid (decide_eq_false (p := a = b) (fun h => he (by rw [h])))
          by_cases h1 : (nthP a i).1 = (nthP b i).1
          · have h2 : ((nthP a i).2 == (nthP b i).2) = false := by rw [beq_eq_false_iff_ne]; exact fun h => he (Prod.ext h1 h)
            rw [← h1] at d1
            clear he h1
            go_wp2_with fail
            go_quiet (fail)
            go_wp2_with fail
            go_ret
            exact ⟨ret_bool HF.out.symm, (Ext.drewN _ _).trans (Ext.drewN _ _)⟩
          · have h2 : ((nthP a i).1 == (nthP b i).1) = false := by rw [beq_eq_false_iff_ne]; exact h1
            clear he h1
            go_wp2_with fail
            go_quiet (fail)
            go_wp2_with fail
            go_ret
            exact ⟨ret_bool HF.out.symm, (Ext.drewN _ _).trans (Ext.drewN _ _)⟩
      · have HT := Lib.hid (decide_eq_true (p := a = b) (eq_of_nthP HL.out (fun j hj => H.out j (by omega))))
        go_wp2_with fail
        go_ret
        exact ⟨ret_bool HT.out.symm, Ext.drewN _ _⟩
  · have hne : ((a.length : Int) != b.length) = true := by rw [bne_iff_ne]; omega
    have HF := Lib.hid (decide_eq_false (p := a = b) (fun h => hl (by rw [h])))
    clear hl
    go_enter Tryz.func113, Tryz.ntmps113
    go_wp2_with fail
    go_ret
    exact ⟨ret_bool HF.out.symm, Ext.refl _⟩
section
variable {w : World} {f : Value} {p g : Int} {fs : List Int}
set_option maxRecDepth 100000 in
set_option maxHeartbeats 8000000 in
theorem alike_any (hf : Fld w f p g fs) (v : Value) (L : List (List Int)) (hv : Rws w v L) (hs : L.length ≤ 1048576) :
    Calls Tryz.prog 45 #[f, v] w fun e w' => e = .returned (.bool (alikeB p L)) ∧ Ext w w' := by
  have CS := shorts_any v L w hv
  cases hsh : shortB L with
  | true =>
    have HN := Lib.hid (show false = alikeB p L by unfold alikeB; rw [hsh]; rfl)
    rw [hsh] at CS
    clear hsh hf hv
    go_enter Tryz.func45, Tryz.ntmps45
    go_wp2_with (go_at_call 50; refine CS.mono ?_; rintro e w' ⟨rfl, rfl⟩)
    go_ret
    exact ⟨ret_bool HN.out, Ext.refl _⟩
  | false =>
    obtain ⟨R, hv⟩ := hv
    have hll := hv.run_len (P := Tryz.prog) slRowsA
    have HS := Lib.hid hsh
    have HV := Lib.hid hv; have HF := Lib.hid hf
    have HE := Lib.hid (show permB (prsL p L 3 7) (prsL p L 12 16) = alikeB p L by unfold alikeB; rw [hsh]; rfl)
    rw [hsh] at CS
    clear hsh hf hv
    go_enter Tryz.func45, Tryz.ntmps45
    go_wp2_with (go_at_call 50; refine CS.mono ?_; rintro e w' ⟨rfl, rfl⟩)
    clear CS
    go_loopw [5, 6, 14] (fun x5 x6 x14 wr => ∃ i : Nat, i ≤ L.length ∧ x14 = .int .i64 i ∧ Hid (wr.ownsRow w.heap.size 179 2 x5 (4 * i) (flatP (prsL p (L.take i) 3 7))) ∧ Hid (wr.ownsRow w.heap.size 179 2 x6 (4 * i) (flatP (prsL p (L.take i) 12 16))) ∧ Hid (Apt x5 x6) ∧ Hid (Ext w wr)) (fun _ _ x14 _ => L.length - (intOf x14).toNat)
    case atStart => exact ⟨0, Nat.zero_le _, rfl, Lib.hid (World.ownsRow_nil _ _ _ _), Lib.hid (World.ownsRow_nil _ _ _ _), Lib.hid (fun k hk => by cases hk), Lib.hid (Ext.refl _)⟩
    case round =>
      obtain ⟨i, hi, rfl, HA, HB, HAP, HX⟩ := hrel
      by_cases hil : i < L.length
      · have HT1 := Lib.hid (prsL_take (p := p) (a := 3) (v := 7) hil)
        have HT2 := Lib.hid (prsL_take (p := p) (a := 12) (v := 16) hil)
        have hix := HV.out.run_index (P := Tryz.prog) slRowsA i hil
        have hc := (HV.out.ext HX.out).cell i hil
        go_wp2_with fail
        clear hc hix
        go_loopw [5, 6, 18] (fun x5 x6 x18 ws => ∃ j : Nat, j ≤ 4 ∧ x18 = .int .i64 j ∧ Hid (ws.ownsRow w.heap.size 179 2 x5 (4 * i + j) (flatP (prsL p (L.take i) 3 7 ++ (prsR p (nthL L i) 3 7).take j))) ∧ Hid (ws.ownsRow w.heap.size 179 2 x6 (4 * i + j) (flatP (prsL p (L.take i) 12 16 ++ (prsR p (nthL L i) 12 16).take j))) ∧ Hid (Apt x5 x6) ∧ Hid (Ext w ws)) (fun _ _ x18 _ => 4 - (intOf x18).toNat)
        case atStart => exact ⟨0, by omega, rfl, by simpa using HA, by simpa using HB, HAP, HX⟩
        case round =>
          clear HA HB HAP HX
          obtain ⟨j, hj, rfl, HA, HB, HAP, HX⟩ := hrel
          by_cases hj4 : j < 4
          · have hrl := short_no HS.out hil
            have hrow := HV.out.row i hil
            have i1 := hrow.run_index (P := Tryz.prog) slIntY (3 + j) (by omega)
            have d1 := (hrow.ext HX.out).cell (3 + j) (by omega)
            rw [show ((3 + j : Nat) : Int) = 3 + (j : Int) by omega] at i1
            have i2 := hrow.run_index (P := Tryz.prog) slIntY (7 + j) (by omega)
            have d2 := (hrow.ext HX.out).cell (7 + j) (by omega)
            rw [show ((7 + j : Nat) : Int) = 7 + (j : Int) by omega] at i2
            have i3 := hrow.run_index (P := Tryz.prog) slIntY (12 + j) (by omega)
            have d3 := (hrow.ext HX.out).cell (12 + j) (by omega)
            rw [show ((12 + j : Nat) : Int) = 12 + (j : Int) by omega] at i3
            have i4 := hrow.run_index (P := Tryz.prog) slIntY (16 + j) (by omega)
            have d4 := (hrow.ext HX.out).cell (16 + j) (by omega)
            rw [show ((16 + j : Nat) : Int) = 16 + (j : Int) by omega] at i4
            have HC34 := Lib.hid (fun (W : World) (hx : Ext w W) => And.intro ((hrow.ext hx).cell (12 + j) (by omega)) ((hrow.ext hx).cell (16 + j) (by omega)))
            have T1 := Lib.hid (prsR_take (p := p) (r := nthL L i) (a := 3) (v := 7) hj4)
            have T2 := Lib.hid (prsR_take (p := p) (r := nthL L i) (a := 12) (v := 16) hj4)
            have HFW := Lib.hid (HF.out.ext HX.out)
            clear hrl hrow
            generalize nth (nthL L i) (3 + j) = n1 at *
            generalize elt (R i) (3 + j) 1 = e1 at *
            generalize nth (nthL L i) (7 + j) = n2 at *
            generalize elt (R i) (7 + j) 1 = e2 at *
            generalize nth (nthL L i) (12 + j) = n3 at *
            generalize elt (R i) (12 + j) 1 = e3 at *
            generalize nth (nthL L i) (16 + j) = n4 at *
            generalize elt (R i) (16 + j) 1 = e4 at *
            go_wp2_with fail
            have w1 : IntKind.i64.wrap (3 + (j : Int)) = 3 + (j : Int) := IntWalk.i64_in _ (by omega)
            have w2 : IntKind.i64.wrap (7 + (j : Int)) = 7 + (j : Int) := IntWalk.i64_in _ (by omega)
            refine wp_region_move_quiet_tail 16 _ (by kernel_rfl) rfl rfl (by kernel_rfl) ?_
            simp only [List.take_succ_cons, List.take_zero, List.drop_succ_cons, List.drop_zero]
            repeat (go_big_quiet_step ((go_at_call 104; exact of_q HFW.out _ _)))
            refine wpQuiet_nil ?_
            rintro _ ⟨nq, rfl⟩
            clear w1 w2 d1 d2
            have hx := Ext.drewN wr nq
            have HA1 := own_ext HA.out hx
            have HB1 := Lib.hid (own_ext HB.out hx)
            have HX1 := Lib.hid (HX.out.trans hx)
            have hsz := HX1.out.size
            clear hx d3 d4
            go_wp2_with (at_builtin; refine wpList_appNw rfl _ _ 177 rfl slPairs rfl hsz HA1 rfl #[.int .i64 (fof p n1), .int .i64 (fof p n2)] rfl (by intro u hu; simp at hu; rcases hu with rfl | rfl <;> rfl) rfl (by omega) (by omega) ?_; intro v3 w3 HO3 HG3 HM3)
            refine NoPan.normal ?_
            obtain ⟨hb3, hap3⟩ := own_apart HB1.out HG3 HM3 HAP.out
            have hx3 := Ext.own_grown HX1.out HA1 HG3
            obtain ⟨d3, d4⟩ := HC34.out w3 hx3
            have HFW3 := Lib.hid (HF.out.ext hx3)
            have HX3 := Lib.hid hx3
            have HA3 := Lib.hid HO3
            have HAP3 := Lib.hid hap3
            clear hx3 hap3 HO3 HG3 HM3 HA1 hsz
            go_wp2_with fail
            have w1 : IntKind.i64.wrap (12 + (j : Int)) = 12 + (j : Int) := IntWalk.i64_in _ (by omega)
            have w2 : IntKind.i64.wrap (16 + (j : Int)) = 16 + (j : Int) := IntWalk.i64_in _ (by omega)
            refine wp_region_move_quiet_tail 16 _ (by kernel_rfl) rfl rfl (by kernel_rfl) ?_
            simp only [List.take_succ_cons, List.take_zero, List.drop_succ_cons, List.drop_zero]
            repeat (go_big_quiet_step ((go_at_call 104; exact of_q HFW3.out _ _)))
            refine wpQuiet_nil ?_
            rintro _ ⟨nq2, rfl⟩
            clear w1 w2 d3 d4
            have hx := Ext.drewN w3 nq2
            have HB4 := own_ext hb3 hx
            have HA4 := Lib.hid (own_ext HA3.out hx)
            have HX4 := Lib.hid (HX3.out.trans hx)
            have hsz := HX4.out.size
            clear hx hb3
            go_wp2_with (at_builtin; refine wpList_appNw rfl _ _ 177 rfl slPairs rfl hsz HB4 rfl #[.int .i64 (fof p n3), .int .i64 (fof p n4)] rfl (by intro u hu; simp at hu; rcases hu with rfl | rfl <;> rfl) rfl (by omega) (by omega) ?_; intro v4 w4 HO4 HG4 HM4)
            refine NoPan.normal ?_
            obtain ⟨ha5, hap5⟩ := own_apart HA4.out HG4 HM4 HAP3.out.symm
            have HX5 := Lib.hid (Ext.own_grown HX4.out HB4 HG4)
            have HA5 := Lib.hid (show w4.ownsRow w.heap.size 179 2 v3 (4 * i + (j + 1)) (flatP (prsL p (L.take i) 3 7 ++ (prsR p (nthL L i) 3 7).take (j + 1))) by
              rw [T1.out, ← List.append_assoc, ← flat_snoc]; exact ha5)
            have HB5 := Lib.hid (show w4.ownsRow w.heap.size 179 2 v4 (4 * i + (j + 1)) (flatP (prsL p (L.take i) 12 16 ++ (prsR p (nthL L i) 12 16).take (j + 1))) by
              rw [T2.out, ← List.append_assoc, ← flat_snoc]; exact HO4)
            have HAP5 := Lib.hid hap5.symm
            clear ha5 hap5 HO4 HG4 HM4 HB4 hsz
            go_wp2_with fail
            go_roundw
            case rel => exact ⟨j + 1, by omega, by go_num, HA5, HB5, HAP5, HX5⟩
            case measure => simp [intOf]; omega
          · obtain rfl : j = 4 := by omega
            have HA4 := Lib.hid (show wr.ownsRow w.heap.size 179 2 _ (4 * (i + 1)) (flatP (prsL p (L.take (i + 1)) 3 7)) by
              have := HA.out; rw [show (prsR p (nthL L i) 3 7).take 4 = prsR p (nthL L i) 3 7 from List.take_of_length_le (by rw [prsR_length]; exact Nat.le_refl _), ← HT1.out] at this; exact this)
            have HB4 := Lib.hid (show wr.ownsRow w.heap.size 179 2 _ (4 * (i + 1)) (flatP (prsL p (L.take (i + 1)) 12 16)) by
              have := HB.out; rw [show (prsR p (nthL L i) 12 16).take 4 = prsR p (nthL L i) 12 16 from List.take_of_length_le (by rw [prsR_length]; exact Nat.le_refl _), ← HT2.out] at this; exact this)
            go_wp2_with fail
            go_roundw
            case rel => exact ⟨i + 1, by omega, by go_num, HA4, HB4, HAP, HX⟩
            case measure => simp [intOf]; omega
      · obtain rfl : i = L.length := by omega
        have ha := HA.out
        have hb := HB.out
        rw [List.take_length] at ha hb
        have HAL := Lib.hid ha; have HBL := Lib.hid hb
        have hln : (prsL p L 3 7).length ≤ 4611686018427387903 := by rw [prsL_length]; omega
        have hln2 : (prsL p L 12 16).length ≤ 4611686018427387903 := by rw [prsL_length]; omega
        have hln3 : (sortP (prsL p L 3 7)).length ≤ 4294967295 := by rw [(sortP_perm _).length_eq, prsL_length]; omega
        have C1 := sortPair_any ha hln
        have HL2 := Lib.hid hln2; have HL3 := Lib.hid hln3
        clear ha hb HA HB hln hln2 hln3
        go_wp2_with fail
        (with_reducible refine C1.mono ?_)
        rintro e w1 ⟨rfl, hg1, hp1⟩
        clear C1
        obtain ⟨hb1, -⟩ := own_apart HBL.out hg1 (Moved.refl _ _) HAP.out
        have C2 := sortPair_any hb1 HL2.out
        have HG1 := Lib.hid hg1; have HP1 := Lib.hid hp1
        have HX1 := Lib.hid (show Ext w w1 from Below.grown HX.out hg1 HX.out.size (fun k hk => (HAL.out.lt k hk).1))
        have HB1 := Lib.hid hb1
        clear hg1 hp1 hb1
        go_wp2_with fail
        (with_reducible refine C2.mono ?_)
        rintro e w2 ⟨rfl, hg2, hp2⟩
        clear C2
        have hpa := Sl.grown HP1.out hg2 (HAP.out)
        have HX2 := Lib.hid (show Ext w w2 from Below.grown HX1.out hg2 HX1.out.size (fun k hk => (HB1.out.lt k hk).1))
        have C3 := equalp_any _ _ _ _ w2 hpa hp2 HL3.out
        have HQ := Lib.hid (show decide (sortP (prsL p L 3 7) = sortP (prsL p L 12 16)) = permB (prsL p L 3 7) (prsL p L 12 16) by
          by_cases h : (prsL p L 3 7).Perm (prsL p L 12 16)
          · rw [permB_true h, decide_eq_true ((sortP_eq _ _).2 h)]
          · rw [permB_false h, decide_eq_false (fun e => h ((sortP_eq _ _).1 e))])
        rw [HQ.out, HE.out] at C3
        clear hg2 hp2 hpa
        go_wp2_with fail
        (with_reducible refine C3.mono ?_)
        rintro e w3 ⟨rfl, hx3⟩
        have HX3 := Lib.hid (HX2.out.trans hx3)
        clear C3 hx3
        go_wp2_with fail
        go_ret
        exact ⟨rfl, HX3.out⟩
end
end Go.Proofs.YtnmjaddhbecopaaGreatDoor
