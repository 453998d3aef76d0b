/- RulesBroken: the program's side: the width of rows; whether all rows have it. -/
import Derived.Test.YtionlicgaifblaaDoorKr
import Derived.Test.YtionlicgaifblaaDoorKj
import Derived.Test.YtionlicgaifblaaDoorKb
namespace Go.Proofs.YtionlicgaifblaaDoor
open Go.RowKit Go.Att
theorem width_any (sz : Int) (lv : Value) (cd : List In4) (w : World) (hc : Inqs w lv cd) (hs : cd.length ≤ 1048576) : Calls Tryd.prog 25 #[.agg #[.int .i64 sz, lv]] w fun e w' => e = .returned (.int .i64 (20 + cd.length)) ∧ Ext w w' := by
  have hll := hc.run_len (P := Tryd.prog) slIns
  clear hc
  go_enter Tryd.func25, Tryd.ntmps25
  go_wp2_with fail
  go_ret
  exact ⟨rfl, Ext.alloc _ _⟩
theorem wrong_any (sz : Int) (lv v : Value) (l : List Int) (cd : List In4) (w : World) (q : Nat) (h0 : w.cell? ⟨q, 0, none⟩ = some (.int .i64 sz)) (h1 : w.cell? ⟨q, 1, none⟩ = some lv) (hc : Inqs w lv cd) (hv : Ints w v l) (hs : cd.length ≤ 1048576) : Calls Tryd.prog 24 #[v, .pointer (some ⟨q, 0, none⟩)] w fun e w' => e = .returned (.bool ((l.length : Int) != 20 + (cd.length : Int))) ∧ Ext w w' := by
  have hrl := hv.run_len (P := Tryd.prog) slInts
  have HC := Lib.hid hc
  clear hv hc
  go_enter Tryd.func24, Tryd.ntmps24
  go_wp2_with (go_at_call 25; refine (width_any _ _ _ _ HC.out hs).mono ?_; rintro e w1 ⟨rfl, hx1⟩)
  go_ret
  exact ⟨rfl, hx1⟩
def wrongB (cd : List In4) (L : List (List Int)) : Bool := L.any fun r => r.length != 20 + cd.length
set_option maxHeartbeats 2000000 in
theorem wrongs_any (sz : Int) (lv v : Value) (L : List (List Int)) (cd : List In4) (w : World) (q : Nat) (h0 : w.cell? ⟨q, 0, none⟩ = some (.int .i64 sz)) (h1 : w.cell? ⟨q, 1, none⟩ = some lv) (hc : Inqs w lv cd) (hv : Rws w v L) (hs : cd.length ≤ 1048576) : Calls Tryd.prog 26 #[v, .func (.func 24) #[] #[.pointer (some ⟨q, 0, none⟩)]] w fun e w' => e = .returned (.bool (wrongB cd L)) ∧ Ext w w' := by
  obtain ⟨R, hv⟩ := hv
  have hll := hv.run_len (P := Tryd.prog) slRowsK
  have hlb := hv.len
  have HV := Lib.hid hv
  have HC := Lib.hid hc
  have H0 := Lib.hid h0; have H1 := Lib.hid h1
  clear hv hc h0 h1
  have C : Calls Tryd.prog 46 #[v, .func (.func 24) #[] #[.pointer (some ⟨q, 0, none⟩)]] w fun e w' => (∃ i : Int, e = .returned (.int .i64 i) ∧ decide (0 ≤ i) = wrongB cd L ∧ (0 ≤ i ∨ i = -1)) ∧ Ext w w' := by
    go_enter Tryd.func46, Tryd.ntmps46
    go_wp2_with fail
    go_loopw [8] (fun x8 wr => ∃ i : Nat, i ≤ L.length ∧ x8 = .int .i64 i ∧ Hid (∀ k, k < i → (nthL L k).length = 20 + cd.length) ∧ Hid (Ext w wr)) (fun x8 _ => L.length - (intOf x8).toNat)
    case atStart => exact ⟨0, Nat.zero_le _, rfl, Lib.hid (fun k hk => by omega), Lib.hid (Ext.refl _)⟩
    case round =>
      obtain ⟨i, hi, rfl, H, HX⟩ := hrel
      by_cases hil : i < L.length
      · have hix := HV.out.run_index (P := Tryd.prog) slRowsK i hil
        have hc := HX.out.cell (HV.out.cell i hil)
        have C2 := wrong_any sz lv (R i) (nthL L i) cd wr q (HX.out.cell H0.out) (HX.out.cell H1.out) (HC.out.ext HX.out) ((HV.out.row i hil).ext HX.out) hs
        by_cases h20 : (nthL L i).length = 20 + cd.length
        · have HN := Lib.hid h20
          rw [show (((nthL L i).length : Int) != 20 + (cd.length : Int)) = false by rw [bne_eq_false_iff_eq]; omega] at C2
          clear h20
          go_wp2_with fail
          refine C2.mono ?_
          rintro e w1 ⟨rfl, hx1⟩
          clear C2
          have HX1 := Lib.hid (HX.out.trans hx1)
          clear hx1
          go_wp2_with fail
          go_roundw
          case rel => exact ⟨i + 1, by omega, by go_num, Lib.hid (fun k hk => by
            rcases Nat.lt_or_eq_of_le (show k ≤ i by omega) with h | rfl
            · exact H.out k h
            · exact HN.out), HX1⟩
          case measure => simp [intOf]; omega
        · have HS := Lib.hid (show wrongB cd L = true by
            unfold wrongB; rw [List.any_eq_true]
            refine ⟨L[i], List.getElem_mem hil, ?_⟩
            simp only [nthL, List.getD_eq_getElem?_getD, List.getElem?_eq_getElem hil, Option.getD_some] at h20
            simpa using h20)
          rw [show (((nthL L i).length : Int) != 20 + (cd.length : Int)) = true by rw [bne_iff_ne]; omega] at C2
          clear h20
          go_wp2_with fail
          refine C2.mono ?_
          rintro e w1 ⟨rfl, hx1⟩
          clear C2
          have HX1 := Lib.hid (HX.out.trans hx1)
          clear hx1
          go_wp2_with fail
          refine bodyPost_ret (v := .int .i64 i) (by simp [results, Tryd.results46, go_sem]) rfl ⟨⟨i, rfl, by rw [HS.out]; simp, .inl (by omega)⟩, HX1.out⟩
      · obtain rfl : i = L.length := by omega
        have HS := Lib.hid (show wrongB cd L = false by
          unfold wrongB; rw [List.any_eq_false]
          intro x hx
          obtain ⟨i, hi, rfl⟩ := List.mem_iff_getElem.1 hx
          have := H.out i hi
          simp only [nthL, List.getD_eq_getElem?_getD, List.getElem?_eq_getElem hi, Option.getD_some] at this
          simp [this])
        go_wp2_with fail
        refine bodyPost_ret (v := .int .i64 (-1)) (by simp [results, Tryd.results46, go_sem]) rfl ⟨⟨-1, rfl, by rw [HS.out]; rfl, .inr rfl⟩, HX.out⟩
  go_enter Tryd.func26, Tryd.ntmps26
  go_wp2_with fail
  refine C.mono ?_
  rintro e w' ⟨⟨i, rfl, hb, hi⟩, hx⟩
  have HB := Lib.hid hb
  have HX := Lib.hid hx
  clear C hb hx
  rcases hi with hi | rfl
  · go_wp2_with fail
    go_ret
    exact ⟨ret_bool (by rw [← HB.out]; simp; omega), HX.out⟩
  · go_wp2_with fail
    go_ret
    exact ⟨ret_bool (by rw [← HB.out]; rfl), HX.out⟩
end Go.Proofs.YtionlicgaifblaaDoor
