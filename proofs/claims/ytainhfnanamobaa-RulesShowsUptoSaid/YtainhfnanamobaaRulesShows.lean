/- RulesShows: A RUN'S TABLE BREAKS NO RULE: the law's walk: for every input it returns true and leaves all that was there as it was. -/
import Derived.Test.YtainhfnanamobaaZx6
import Derived.Test.YtainhfnanamobaaZx2
import Derived.Test.YtainhfnanamobaaZx5
import Derived.Test.YtainhfnanamobaaZx4
import Derived.Test.YtainhfnanamobaaZx3
import Derived.ProofKit
namespace Go.Att
open Go.RowKit
theorem tableM_ok {p sz n : Int} {cd : List In4} {T : List (List Int)} {out : Int} (h : tableM p sz cd n = .ok T out) :
    ∃ (l : List Stp) (mem : List (Int × Int)), 1 ≤ n ∧ n ≤ 512 ∧ cd.length ≤ 64 ∧ walkM p sz cd (n - 1) = .done l out mem ∧ ((missL l).length : Int) ≤ n ∧ T = tabL p cd l n.toNat := by
  unfold tableM at h
  split at h
  · cases h
  · rename_i hn
    cases hR : walkM p sz cd (n - 1) with
    | no k => rw [hR] at h; cases h
    | done l o mem =>
      rw [hR] at h
      dsimp only at h
      split at h
      · cases h
      · rename_i hm
        simp only [Tr.ok.injEq] at h
        obtain ⟨rfl, rfl⟩ := h
        exact ⟨l, mem, by omega, by omega, by omega, rfl, by omega, rfl⟩
theorem brk_none {p sz out : Int} {cd : List In4} {L : List (List Int)} {e : Ending} (h : BrkGot p sz out cd L e) (hs : shapeB cd L = false) (hb : ∀ k i, k < cd.length + 26 → i < L.length → badB p sz out cd L k i = false) : e = .returned (.agg #[.int .i64 (-1), .int .i64 0]) := by
  rcases h with ⟨h1, _⟩ | ⟨_, o, ho, rfl⟩
  · rw [hs] at h1; cases h1
  · cases o with
    | none => rfl
    | some q =>
      obtain ⟨k, i⟩ := q
      have := hb k i ho.1.1 ho.1.2
      rw [ho.2.1] at this; cases this
end Go.Att
namespace Go.Proofs.Ytainhfnanamobaa
open Go.RowKit Go.Att
set_option maxRecDepth 100000 in
set_option maxHeartbeats 4000000 in
theorem rulesShows_bad (p : Int) (cv : Value) (n : Int) (w : World) (h : ¬ okP p) (sz : Int) (lv : Value) (hcv : cv = .agg #[.int .i64 sz, lv]) :
    Calls Try.prog 3 #[.int .i64 p, cv, .int .i64 n] w fun e w' => e = .returned (.bool true) ∧ Ext w w' := by
  subst hcv
  have H := Lib.hid h; clear h
  have HX0 := Lib.hid (Ext.alloc w (Obj.cells #[.int .i64 sz, lv] 24))
  go_enter Try.func3, Try.ntmps3
  go_wp2_with (first | (go_at_call 4; refine (lives7_any _).mono ?_; rintro e w1 ⟨rfl, hx1⟩) | (go_at_call 5; refine (plain_bad7 _ _ H.out).mono ?_; rintro e w2 ⟨rfl, rfl⟩))
  go_ret
  exact ⟨rfl, HX0.out.trans hx1⟩
set_option maxRecDepth 100000 in
set_option maxHeartbeats 8000000 in
theorem rulesShows_ok (p sz : Int) (lv : Value) (cd : List In4) (n : Int) (w : World) (h : okP p) (hc : Inqs w lv cd) :
    Calls Try.prog 3 #[.int .i64 p, .agg #[.int .i64 sz, lv], .int .i64 n] w fun e w' => e = .returned (.bool true) ∧ Ext w w' := by
  have H := Lib.hid h
  have HC := Lib.hid hc
  obtain ⟨al, cl, rfl⟩ := hc.shape
  have HB := Lib.hid (BlkOf.new w [.int .i64 sz, .slice al cd.length cl] 24)
  have HX0 := Lib.hid (Ext.alloc w (Obj.cells #[.int .i64 sz, .slice al cd.length cl] 24))
  clear h hc
  go_enter Try.func3, Try.ntmps3
  go_wp2_with fail
  generalize hqb : w.heap.size = qb at *
  clear hqb
  generalize w.alloc (Obj.cells #[.int .i64 sz, .slice al cd.length cl] 24) = W at *
  refine (lives7_any _).mono ?_
  rintro e w0 ⟨rfl, hx0⟩
  replace HX0 := Lib.hid (HX0.out.trans hx0)
  have HB0 := Lib.hid (HB.out.ext hx0)
  clear hx0 HB
  go_wp2_with fail
  refine (plain_ok7 _ _ H.out).mono ?_
  rintro e w1 ⟨v1, rfl, hx, g, hf⟩
  obtain ⟨bf, rfl⟩ := hf.ptr
  obtain ⟨fs, hfl⟩ := hf.fld
  have HF := Lib.hid hfl
  have HX := Lib.hid (HX0.out.trans hx)
  have HB1 := Lib.hid (HB0.out.ext hx)
  have e0 : w1.cell? ⟨qb, 0, none⟩ = some (.int .i64 sz) := HB1.out.cell 0
  have e1 : w1.cell? ⟨qb, 1, none⟩ = some (.slice al cd.length cl) := HB1.out.cell 1
  clear hf hfl hx HB0 HX0
  go_wp2_with fail
  refine (table_any (sz := sz) (n := n) HF.out (HC.out.ext HX.out)).mono ?_
  intro e w2 ht
  clear e0 e1
  cases hT : tableM p sz cd n with
  | no k =>
    rw [hT] at ht
    obtain ⟨rfl, hx2⟩ := ht
    have HX2 := Lib.hid (HX.out.trans hx2)
    clear hx2 hT
    go_wp2_with fail
    go_ret
    exact ⟨rfl, HX2.out⟩
  | ok T out =>
    rw [hT] at ht
    obtain ⟨v, rfl, hv, hx2⟩ := ht
    obtain ⟨l, mem, hn1, hn2, hcl, hR, hmn, rfl⟩ := tableM_ok hT
    obtain ⟨nn, rfl⟩ := Int.eq_ofNat_of_zero_le (show 0 ≤ n by omega)
    rw [Int.toNat_natCast] at hv
    have hp := H.out.1
    have hp3 := H.out.2.1
    have hok := walkM_ok hp.two hR
    have hc0 : 0 < cd.length := by have := (hok.stp _ (stpAt_mem hok.ne 0)).pc; omega
    have hmn' : (missL l).length ≤ nn := by omega
    have HBK := Lib.hid (shows_rules hp hp3 hR hmn')
    have HAL := Lib.hid (shows_alike hp hp3 hR hmn')
    have htl := tabL_length p cd l nn
    have HSH : Hid (shapeB cd (tabL p cd l nn) = false) := Lib.hid (shapeB_full (by omega) hc0 (fun i hi => by
      rw [tabL_length] at hi
      rw [tabL_row hi]
      exact rowK_length _ _ _ _ _ _ _))
    have HV2 := Lib.hid hv; have HX2 := Lib.hid (HX.out.trans hx2); have HB2 := Lib.hid (HB1.out.ext hx2); have HF2 := Lib.hid (HF.out.ext hx2)
    have HRW := Lib.hid hR
    have HN1 := Lib.hid hn1; have HN2 := Lib.hid hn2; have HCL := Lib.hid hcl; have HC0 := Lib.hid hc0
    clear hT hv hx2 hmn hmn' hok hp hp3 hR HX HF HB1 hn1 hn2 hcl hc0
    generalize tabL p cd l nn = T at *
    have HTL := Lib.hid htl
    clear htl
    have e0 : w2.cell? ⟨qb, 0, none⟩ = some (.int .i64 sz) := HB2.out.cell 0
    have e1 : w2.cell? ⟨qb, 1, none⟩ = some (.slice al cd.length cl) := HB2.out.cell 1
    go_wp2_with fail
    refine (pbroken_full _ sz out _ v cd T w2 HF2.out (HC.out.ext HX2.out) HV2.out (by have := HCL.out; omega) (by have := HTL.out; have := HN2.out; omega) (by have := HTL.out; have := HN1.out; omega) HC0.out).mono ?_
    rintro e w3 ⟨hbg, hx3⟩
    obtain rfl := brk_none hbg HSH.out (fun k i hk hi => HBK.out k i hk (by rw [← HTL.out]; exact hi))
    have hx4 := Ext.alloc w3 (Obj.cells #[.int .i64 (-1), .int .i64 0] 34)
    have HBR := Lib.hid (BlkOf.new w3 [.int .i64 (-1), .int .i64 0] 34)
    have HX4 := Lib.hid (HX2.out.trans (hx3.trans hx4)); have HB4 := Lib.hid (HB2.out.ext (hx3.trans hx4)); have HF4 := Lib.hid (HF2.out.ext (hx3.trans hx4)); have HV4 := Lib.hid (HV2.out.ext (hx3.trans hx4))
    clear e0 e1 hbg hx3 hx4 HX2 HB2 HF2 HV2
    go_wp2_with fail
    generalize w3.alloc (Obj.cells #[.int .i64 (-1), .int .i64 0] 34) = W4 at *
    generalize w3.heap.size = kb at *
    have CA := alike_any HF4.out v T HV4.out (by have := HTL.out; have := HN2.out; omega)
    rw [HAL.out] at CA
    refine CA.mono ?_
    rintro e w5 ⟨rfl, hx5⟩
    have HX5 := Lib.hid (HX4.out.trans hx5); have HB5 := Lib.hid (HB4.out.ext hx5); have HF5 := Lib.hid (HF4.out.ext hx5); have HV5 := Lib.hid (HV4.out.ext hx5); have HBR5 := Lib.hid (HBR.out.ext hx5)
    clear CA hx5 HX4 HB4 HF4 HV4 HBR
    have e0 : w5.cell? ⟨qb, 0, none⟩ = some (.int .i64 sz) := HB5.out.cell 0
    have e1 : w5.cell? ⟨qb, 1, none⟩ = some (.slice al cd.length cl) := HB5.out.cell 1
    have hn2 : (nn : Int) ≤ 512 := HN2.out
    go_wp2_with fail
    refine (run_got (sz := sz) (lim := (nn : Int) - 1) HF5.out (HC.out.ext HX5.out)).mono ?_
    rintro e w6 ⟨o, n', v', L', k', rfl, hr, hv', hx6⟩
    rw [HRW.out] at hr
    obtain ⟨rfl, -, -, rfl⟩ := hr
    obtain ⟨av, cv, rfl⟩ := prs_shape hv'
    rw [errv_zero]
    have hx7 := Ext.alloc w6 (Obj.cells #[.int .i64 o, .int .i64 n', .slice av L'.length cv] 39)
    have HX7 := Lib.hid (HX5.out.trans (hx6.trans hx7))
    have hb7 := HBR5.out.ext (hx6.trans hx7)
    have b0 : (w6.alloc (Obj.cells #[.int .i64 o, .int .i64 n', .slice av L'.length cv] 39)).cell? ⟨kb, 0, none⟩ = some (.int .i64 (-1)) := hb7.cell 0
    obtain ⟨R, hR⟩ := HV5.out
    have hlv : ∀ w', (Builtin.len_ #[28] 3 #[v]).run Try.prog w' = .ok (.int .i64 (nn : Int)) w' := fun w' => by
      have := hR.run_len (P := Try.prog) slRowsT 3 w'
      rw [HTL.out] at this; exact this
    clear e0 e1 hv' hx6 hx7 hb7 hR HX5 HB5 HF5 HV5 HBR5
    go_wp2_with fail
    go_ret
    exact ⟨rfl, HX7.out⟩
end Go.Proofs.Ytainhfnanamobaa
