/- Pairs of rows in both orders; their products: the program's side: contracts. -/
import Derived.Test.YthpgmjdepigihaaDoorA1
import Derived.Test.YthpgmjdepigihaaDoorA2
namespace Go.Att
open Go.RowKit
theorem facA_step {p x y : Int} {r : List Int} {k a v : Nat} (hk : k < 4) : fmul p (fprod p y x ((prsR p r a v).take k)) (fsub p x (fadd p (nth r (a + k)) (fmul p y (nth r (v + k))))) = fprod p y x ((prsR p r a v).take (k + 1)) := by
  rw [← fprod_step' (by rw [prsR_length]; exact hk)]
  have e : nthP (prsR p r a v) k = (fof p (nth r (a + k)), fof p (nth r (v + k))) := by
    rw [nthP_eq (by rw [prsR_length]; exact hk)]
    simp [prsR]
  rw [e]
  have e2 : fadd p (nth r (a + k)) (fmul p y (nth r (v + k))) = fadd p (fof p (nth r (a + k))) (fmul p y (fof p (nth r (v + k)))) := by
    unfold fadd fmul fof
    rw [em_r, Int.emod_add_emod]
  rw [e2]
theorem drew_more {w wr : World} (h : ∃ m, wr = w.drewN m) (n : Nat) : ∃ m, wr.drewN n = w.drewN m := by
  obtain ⟨m, rfl⟩ := h
  exact ⟨m + n, by simp [World.drewN, Nat.add_assoc]⟩
theorem drew_ext {w wr : World} (h : ∃ m, wr = w.drewN m) : Ext w wr := by
  obtain ⟨m, rfl⟩ := h
  exact Ext.drewN _ _
end Go.Att
namespace Go.Proofs.YthpgmjdepigihaaDoor
open Go.RowKit Go.Att Go.Shelf Go.Sort
theorem slPairs : SlT Tryd.prog 147 149 2 16 (.agg #[.int .i64 0, .int .i64 0]) := SlT.mk' Tryd.underlying147 (by kernel_rfl) (by decide)
theorem short_any (v : Value) (l : List Int) (w : World) (hv : Ints w v l) : Calls Tryd.prog 73 #[v] w fun e w' => e = .returned (.bool (decide (l.length < 20))) ∧ w = w' := by
  have hll := hv.run_len (P := Tryd.prog) slIntY
  have hlb := hv.len
  clear hv
  by_cases h : l.length < 20
  · have h' : (l.length : Int) < 20 := by omega
    go_enter Tryd.func73, Tryd.ntmps73
    go_wp2_with fail
    go_ret
    exact ⟨ret_bool (by first | rfl | (simp; omega) | simp [h]), rfl⟩
  · have h' : ¬ (l.length : Int) < 20 := by omega
    go_enter Tryd.func73, Tryd.ntmps73
    go_wp2_with fail
    go_ret
    exact ⟨ret_bool (by first | rfl | (simp; omega) | simp [h]), rfl⟩
theorem shorts_any (v : Value) (L : List (List Int)) (w : World) (hv : Rws w v L) : Calls Tryd.prog 67 #[v, .func (.func 73) #[] #[]] w fun e w' => e = .returned (.bool (shortB L)) ∧ w = w' := by
  obtain ⟨R, hv⟩ := hv
  have hll := hv.run_len (P := Tryd.prog) slRowsA
  have hlb := hv.len
  have HV := Lib.hid hv
  clear hv
  have C : Calls Tryd.prog 106 #[v, .func (.func 73) #[] #[]] w fun e w' => (∃ i : Int, e = .returned (.int .i64 i) ∧ decide (0 ≤ i) = shortB L ∧ (0 ≤ i ∨ i = -1)) ∧ w = w' := by
    go_enter Tryd.func106, Tryd.ntmps106
    go_wp2_with fail
    go_loopw [8] (fun x8 wr => ∃ i : Nat, i ≤ L.length ∧ x8 = .int .i64 i ∧ Hid (∀ k, k < i → 20 ≤ (nthL L k).length) ∧ w = wr) (fun x8 _ => L.length - (intOf x8).toNat)
    case atStart => exact ⟨0, Nat.zero_le _, rfl, Lib.hid (fun k hk => by omega), rfl⟩
    case round =>
      obtain ⟨i, hi, rfl, H, rfl⟩ := hrel
      by_cases hil : i < L.length
      · have hix := HV.out.run_index (P := Tryd.prog) slRowsA i hil
        have hc := HV.out.cell i hil
        have C2 := short_any (R i) (nthL L i) w (HV.out.row i hil)
        by_cases h20 : (nthL L i).length < 20
        · have HS := Lib.hid (short_yes hil h20)
          rw [decide_eq_true h20] at C2
          clear h20
          go_wp2_with fail
          refine C2.mono ?_
          rintro e w' ⟨rfl, rfl⟩
          clear C2
          go_wp2_with fail
          refine bodyPost_ret (v := .int .i64 i) (by simp [results, Tryd.results106, go_sem]) rfl ⟨⟨i, rfl, by rw [HS.out]; simp, .inl (by omega)⟩, rfl⟩
        · have HN := Lib.hid h20
          rw [decide_eq_false h20] at C2
          clear h20
          go_wp2_with fail
          refine C2.mono ?_
          rintro e w' ⟨rfl, rfl⟩
          clear C2
          go_wp2_with fail
          go_roundw
          case rel => exact ⟨i + 1, by omega, by go_num, Lib.hid (fun k hk => by
            rcases Nat.lt_or_eq_of_le (show k ≤ i by omega) with h | rfl
            · exact H.out k h
            · have := HN.out; omega), trivial⟩
          case measure => simp [intOf]; omega
      · obtain rfl : i = L.length := by omega
        have HS := Lib.hid (short_all H.out)
        go_wp2_with fail
        refine bodyPost_ret (v := .int .i64 (-1)) (by simp [results, Tryd.results106, go_sem]) rfl ⟨⟨-1, rfl, by rw [HS.out]; rfl, .inr rfl⟩, rfl⟩
  go_enter Tryd.func67, Tryd.ntmps67
  go_wp2_with fail
  refine C.mono ?_
  rintro e w' ⟨⟨i, rfl, hb, hi⟩, rfl⟩
  have HB := Lib.hid hb
  clear C hb
  rcases hi with hi | rfl
  · go_wp2_with fail
    go_ret
    exact ⟨ret_bool (by rw [← HB.out]; simp; omega), rfl⟩
  · go_wp2_with fail
    go_ret
    exact ⟨ret_bool (by rw [← HB.out]; rfl), rfl⟩
section
variable {w : World} {f : Value} {p g : Int} {fs : List Int}
set_option maxRecDepth 100000 in
set_option maxHeartbeats 2000000 in
theorem factors_any (hf : Fld w f p g fs) (v : Value) (r : List Int) (x y : Int) (hv : Ints w v r) (h20 : 20 ≤ r.length) :
    Calls Tryd.prog 80 #[f, v, .int .i64 x, .int .i64 y] w (Rd w (.tuple #[.int .i64 (facA p x y r), .int .i64 (facB p x y r)])) := by
  have HF := Lib.hid hf; have HV := Lib.hid hv
  have hp := hf.two
  have H4 := Lib.hid (show (prsR p r 3 7).take 4 = prsR p r 3 7 from List.take_of_length_le (by rw [prsR_length]; exact Nat.le_refl _))
  have H5 := Lib.hid (show (prsR p r 12 16).take 4 = prsR p r 12 16 from List.take_of_length_le (by rw [prsR_length]; exact Nat.le_refl _))
  clear hf hv
  go_enter Tryd.func80, Tryd.ntmps80
  go_wp2_with fail
  go_loopw [8, 9, 11] (fun x8 x9 x11 wr => ∃ k : Nat, k ≤ 4 ∧ x8 = .int .i64 (fprod p y x ((prsR p r 3 7).take k)) ∧ x9 = .int .i64 (fprod p y x ((prsR p r 12 16).take k)) ∧ x11 = .int .i64 k ∧ Hid (∃ m, wr = w.drewN m)) (fun _ _ x11 _ => 4 - (intOf x11).toNat)
  case atStart => exact ⟨0, by omega, by rw [List.take_zero, fprod_nil hp], by rw [List.take_zero, fprod_nil hp], rfl, Lib.hid ⟨0, rfl⟩⟩
  case round =>
    obtain ⟨k, hk, rfl, rfl, rfl, HD⟩ := hrel
    by_cases hk4 : k < 4
    · have i1 := HV.out.run_index (P := Tryd.prog) slIntY (3 + k) (by omega)
      have i2 := HV.out.run_index (P := Tryd.prog) slIntY (7 + k) (by omega)
      have i3 := HV.out.run_index (P := Tryd.prog) slIntY (12 + k) (by omega)
      have i4 := HV.out.run_index (P := Tryd.prog) slIntY (16 + k) (by omega)
      have hx := drew_ext HD.out
      have HF1 := Lib.hid (HF.out.ext hx)
      have HV1 := Lib.hid (HV.out.ext hx)
      clear hx
      have d1 := HV1.out.cell (3 + k) (by omega)
      have d2 := HV1.out.cell (7 + k) (by omega)
      have d3 := HV1.out.cell (12 + k) (by omega)
      have d4 := HV1.out.cell (16 + k) (by omega)
      rw [show ((3 + k : Nat) : Int) = 3 + (k : Int) by omega] at i1
      rw [show ((7 + k : Nat) : Int) = 7 + (k : Int) by omega] at i2
      rw [show ((12 + k : Nat) : Int) = 12 + (k : Int) by omega] at i3
      rw [show ((16 + k : Nat) : Int) = 16 + (k : Int) by omega] at i4
      have S1 := Lib.hid (facA_step (p := p) (x := x) (y := y) (r := r) (a := 3) (v := 7) hk4)
      have S2 := Lib.hid (facA_step (p := p) (x := x) (y := y) (r := r) (a := 12) (v := 16) hk4)
      generalize nth r (3 + k) = n1 at *
      generalize nth r (7 + k) = n2 at *
      generalize nth r (12 + k) = n3 at *
      generalize nth r (16 + k) = n4 at *
      generalize fprod p y x ((prsR p r 3 7).take k) = q1 at *
      generalize fprod p y x ((prsR p r 12 16).take k) = q2 at *
      generalize elt v (3 + k) 1 = e1 at *
      generalize elt v (7 + k) 1 = e2 at *
      generalize elt v (12 + k) 1 = e3 at *
      generalize elt v (16 + k) 1 = e4 at *
      go_wp2_with fail
      have w1 : IntKind.i64.wrap (3 + (k : Int)) = 3 + (k : Int) := IntWalk.i64_in _ (by omega)
      have w2 : IntKind.i64.wrap (7 + (k : Int)) = 7 + (k : Int) := IntWalk.i64_in _ (by omega)
      have w3 : IntKind.i64.wrap (12 + (k : Int)) = 12 + (k : Int) := IntWalk.i64_in _ (by omega)
      have w4 : IntKind.i64.wrap (16 + (k : Int)) = 16 + (k : Int) := IntWalk.i64_in _ (by omega)
      refine wp_region_quiet_lit (by kernel_rfl) (by kernel_rfl) ?_
      repeat (go_big_quiet_step (first | (go_at_call 81; exact mul_q HF1.out _ _ _) | (go_at_call 114; exact add_q HF1.out _ _ _) | (go_at_call 107; exact sub_q HF1.out _ _ _)))
      refine wpQuiet_nil ?_
      rintro _ ⟨nq, rfl⟩
      have hx := Ext.drewN wr nq
      have HF2 := Lib.hid (HF1.out.ext hx)
      have HD2 := Lib.hid (drew_more HD.out nq)
      replace d3 := hx.cell d3
      replace d4 := hx.cell d4
      clear hx d1 d2
      generalize wr.drewN nq = wd at *
      go_wp2_with fail
      refine wp_region_quiet_lit (by kernel_rfl) (by kernel_rfl) ?_
      repeat (go_big_quiet_step (first | (go_at_call 81; exact mul_q HF2.out _ _ _) | (go_at_call 114; exact add_q HF2.out _ _ _) | (go_at_call 107; exact sub_q HF2.out _ _ _)))
      refine wpQuiet_nil ?_
      rintro _ ⟨nq, rfl⟩
      clear w1 w2 w3 w4
      go_wp2_with fail
      go_roundw
      case rel => exact ⟨k + 1, by omega, by rw [S1.out], by rw [S2.out], by go_num, Lib.hid (drew_more HD2.out _)⟩
      case measure => simp [intOf]; omega
    · obtain rfl : k = 4 := by omega
      go_wp2_with fail
      go_ret2
      exact ⟨by rw [H4.out, H5.out]; rfl, HD.out⟩
end
end Go.Proofs.YthpgmjdepigihaaDoor
