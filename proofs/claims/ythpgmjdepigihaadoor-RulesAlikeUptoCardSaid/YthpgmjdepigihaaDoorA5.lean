/- The last column: the program's side: contracts. -/
import Derived.Test.YthpgmjdepigihaaDoorA3
namespace Go.Proofs.YthpgmjdepigihaaDoor
open Go.RowKit Go.Att
section
variable {w : World} {f : Value} {p g : Int} {fs : List Int}
set_option maxHeartbeats 1000000 in
theorem divA_any (hf : Fld w f p g fs) (a b : Int) : Calls Tryd.prog 82 #[f, .int .i64 a, .int .i64 b] w (Rd w (.int .i64 (fdiv p a b))) := by
  have C1 := inv_any hf b
  have HF := Lib.hid hf
  clear hf
  go_enter Tryd.func82, Tryd.ntmps82
  go_wp2_with fail
  refine C1.mono ?_
  rintro e w1 ⟨rfl, m, rfl⟩
  have C2 := mul_any (HF.out.drewN m) a (finv p b)
  clear C1
  go_wp2_with fail
  refine C2.mono ?_
  rintro e w2 ⟨rfl, m2, rfl⟩
  go_wp2_with fail
  go_ret
  exact ⟨ret_int (by unfold fmul fdiv; rfl), m + m2, by simp [World.drewN, Nat.add_assoc]⟩
set_option maxRecDepth 100000 in
set_option maxHeartbeats 4000000 in
theorem product_any (hf : Fld w f p g fs) (v : Value) (L : List (List Int)) (x y : Int) (hv : Rws w v L) (hs : L.length ≤ 1048576) :
    Calls Tryd.prog 24 #[f, v, .int .i64 x, .int .i64 y] w (Gives w (ColGot p x y L)) := by
  have CS := shorts_any v L w hv
  obtain ⟨R, hv⟩ := hv
  have hll := hv.run_len (P := Tryd.prog) slRowsA
  have HV := Lib.hid hv; have HF := Lib.hid hf
  clear hv hf
  by_cases h0 : L.length = 0
  · have hb : ((L.length : Int) == 0) = true := by rw [beq_iff_eq]; omega
    have HN := Lib.hid (prod_empty (p := p) (x := x) (y := y) h0)
    clear h0
    go_enter Tryd.func24, Tryd.ntmps24
    go_wp2_with fail
    go_ret2
    exact .mk _ rfl (Ext.refl _) (col_no HN.out)
  have hb : ((L.length : Int) == 0) = false := by rw [beq_eq_false_iff_ne]; omega
  have HP0 := Lib.hid (show 0 < L.length by omega)
  clear h0
  cases hsh : shortB L with
  | true =>
    have HN := Lib.hid (prod_short (p := p) (x := x) (y := y) hsh)
    rw [hsh] at CS
    clear hsh
    go_enter Tryd.func24, Tryd.ntmps24
    go_wp2_with (go_at_call 67; refine CS.mono ?_; rintro e w' ⟨rfl, rfl⟩)
    go_ret2
    exact .mk _ rfl (Ext.refl _) (col_no HN.out)
  | false =>
    have HS := Lib.hid hsh
    rw [hsh] at CS
    clear hsh
    go_enter Tryd.func24, Tryd.ntmps24
    go_wp2_with (first | (go_at_call 67; refine CS.mono ?_; rintro e w' ⟨rfl, rfl⟩) | (refine wpList_mk0 rfl _ _ 22 rfl slIntY (Ext.refl w) rfl rfl (by omega) (by omega) (by omega) ?_; intro v4 w5 HO HX _))
    clear CS hb
    have HOH := Lib.hid HO; have HXH := Lib.hid HX
    clear HO HX
    go_loopw [10, 11, 28] (fun x10 x11 x28 wr => ∃ i : Nat, i ≤ L.length ∧ x28 = .int .i64 i ∧ x11 = .int .i64 (zAt p x y L i) ∧ Hid (wr.ownsRow w.heap.size 3 1 x10 i (((zsL p x y L).take i).map (Value.int .i64))) ∧ Hid (∀ k, k < i → facA p x y (nthL L k) ≠ 0 ∧ facB p x y (nthL L k) ≠ 0) ∧ Hid (Ext w wr)) (fun _ _ x28 _ => L.length - (intOf x28).toNat)
    case atStart => exact ⟨0, Nat.zero_le _, rfl, rfl, HOH, Lib.hid (fun k hk => by omega), HXH⟩
    case round =>
      clear HOH HXH
      obtain ⟨i, hi, rfl, rfl, HO, HFA, HX⟩ := hrel
      by_cases hil : i < L.length
      · have hix := HV.out.run_index (P := Tryd.prog) slRowsA i hil
        have hc := (HV.out.ext HX.out).cell i hil
        have HT := Lib.hid (zsL_take (p := p) (x := x) (y := y) hil)
        have HZ := Lib.hid (show zAt p x y L (i + 1) = fmul p (zAt p x y L i) (fdiv p (facA p x y (nthL L i)) (facB p x y (nthL L i))) from rfl)
        have C1 := factors_any (HF.out.ext HX.out) (R i) (nthL L i) x y ((HV.out.row i hil).ext HX.out) (short_no HS.out hil)
        by_cases hA : facA p x y (nthL L i) = 0
        · have HN := Lib.hid (prod_zero hil (.inl hA))
          rw [hA] at C1
          clear hA
          go_wp2_with fail
          refine C1.mono ?_
          rintro e w2 ⟨rfl, m, rfl⟩
          clear C1
          go_wp2_with fail
          go_ret2
          exact .mk _ rfl (HX.out.trans (Ext.drewN _ _)) (col_no HN.out)
        · have hbA : (facA p x y (nthL L i) == 0) = false := by rw [beq_eq_false_iff_ne]; exact hA
          by_cases hB : facB p x y (nthL L i) = 0
          · have HN := Lib.hid (prod_zero hil (.inr hB))
            rw [hB] at C1
            clear hA hB
            go_wp2_with fail
            refine C1.mono ?_
            rintro e w2 ⟨rfl, m, rfl⟩
            clear C1
            go_wp2_with fail
            go_ret2
            exact .mk _ rfl (HX.out.trans (Ext.drewN _ _)) (col_no HN.out)
          · have hbB : (facB p x y (nthL L i) == 0) = false := by rw [beq_eq_false_iff_ne]; exact hB
            have HNEW := Lib.hid (show ∀ k, k < i + 1 → facA p x y (nthL L k) ≠ 0 ∧ facB p x y (nthL L k) ≠ 0 from fun k hk => by
              rcases Nat.lt_or_eq_of_le (show k ≤ i by omega) with h | rfl
              · exact HFA.out k h
              · exact ⟨hA, hB⟩)
            clear hA hB
            generalize facA p x y (nthL L i) = fa at *
            generalize facB p x y (nthL L i) = fb at *
            generalize zAt p x y L i = zi at *
            go_wp2_with fail
            refine C1.mono ?_
            rintro e w2 ⟨rfl, m, rfl⟩
            clear C1 hc hix
            have hx := Ext.drewN wr m
            have HO2 := own_ext HO.out hx
            have HX2 := Lib.hid (HX.out.trans hx)
            have hsz := HX2.out.size
            clear hx
            go_wp2_with (at_builtin; refine wpList_appNw rfl _ _ 22 rfl slIntY rfl hsz HO2 rfl #[.int .i64 zi] rfl (by intro u hu; simp at hu; subst hu; rfl) rfl (by omega) (by omega) ?_; intro v3 w3 HO3 HG3 _)
            have hx3 := Ext.own_grown HX2.out HO2 HG3
            have C2 := divA_any (HF.out.ext hx3) fa fb
            have HX3 := Lib.hid hx3
            have HO3H := Lib.hid HO3
            clear hx3 HO3 HG3 HO2 hsz
            refine C2.mono ?_
            rintro e w4 ⟨rfl, m4, rfl⟩
            have C3 := mul_any ((HF.out.ext HX3.out).drewN m4) zi (fdiv p fa fb)
            clear C2
            go_wp2_with fail
            refine C3.mono ?_
            rintro e w5 ⟨rfl, m5, rfl⟩
            clear C3
            have HX5 := Lib.hid (Ext.drewN w3 (m4 + m5))
            go_wp2_with fail
            go_roundw
            case rel => exact ⟨i + 1, by omega, by go_num, by rw [HZ.out], Lib.hid (by rw [HT.out, List.map_append]; exact own_ext HO3H.out HX5.out), HNEW, Lib.hid (HX3.out.trans HX5.out)⟩
            case measure => simp [intOf]; omega
      · obtain rfl : i = L.length := by omega
        have HN := Lib.hid (prod_all HP0.out HS.out HFA.out)
        have HI := Lib.hid (show Ints wr _ (zsL p x y L) from Ints.of_own (by have := HO.out; rw [List.take_of_length_le (by rw [zsL_length]; exact Nat.le_refl _)] at this; exact this))
        generalize zAt p x y L L.length = zi at *
        go_wp2_with fail
        go_ret2
        exact .mk _ rfl HX.out (col_yes HN.out HI.out)
end
end Go.Proofs.YthpgmjdepigihaaDoor
