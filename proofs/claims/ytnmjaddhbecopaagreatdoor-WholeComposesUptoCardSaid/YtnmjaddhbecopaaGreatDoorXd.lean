/- Vouchers: the word of all rules: the program's side: contracts. -/
import Derived.Test.YtnmjaddhbecopaaGreatDoorWt
import Derived.Test.YtnmjaddhbecopaaGreatDoorXc
namespace Go.Proofs.YtnmjaddhbecopaaGreatDoor
open Go.RowKit Go.Att
theorem wrongW_any (sz : Int) (lv v : Value) (l : List Int) (cd : List In4) (w : World) (q : Nat) (h0 : w.cell? ⟨q, 0, none⟩ = some (.int .i64 sz)) (h1 : w.cell? ⟨q, 1, none⟩ = some lv) (hc : Inqs w lv cd) (hv : Ints w v l) (hs : cd.length ≤ 1048576) : Calls Tryz.prog 71 #[v, .pointer (some ⟨q, 0, none⟩)] w fun e w' => e = .returned (.bool ((l.length : Int) != 20 + (cd.length : Int))) ∧ Ext w w' := by
  have hrl := hv.run_len (P := Tryz.prog) slInts
  have HC := Lib.hid hc
  clear hv hc
  go_enter Tryz.func71, Tryz.ntmps71
  go_wp2_with (go_at_call 72; refine (width_any _ _ _ _ HC.out hs).mono ?_; rintro e w1 ⟨rfl, hx1⟩)
  go_ret
  exact ⟨rfl, hx1⟩
set_option maxHeartbeats 2000000 in
theorem wrongsW_any (sz : Int) (lv v : Value) (L : List (List Int)) (cd : List In4) (w : World) (q : Nat) (h0 : w.cell? ⟨q, 0, none⟩ = some (.int .i64 sz)) (h1 : w.cell? ⟨q, 1, none⟩ = some lv) (hc : Inqs w lv cd) (hv : Rws w v L) (hs : cd.length ≤ 1048576) : Calls Tryz.prog 50 #[v, .func (.func 71) #[] #[.pointer (some ⟨q, 0, none⟩)]] w fun e w' => e = .returned (.bool (wrongB cd L)) ∧ Ext w w' := by
  obtain ⟨R, hv⟩ := hv
  have hll := hv.run_len (P := Tryz.prog) slRowsK
  have hlb := hv.len
  have HV := Lib.hid hv
  have HC := Lib.hid hc
  have H0 := Lib.hid h0; have H1 := Lib.hid h1
  clear hv hc h0 h1
  have C : Calls Tryz.prog 121 #[v, .func (.func 71) #[] #[.pointer (some ⟨q, 0, none⟩)]] w fun e w' => (∃ i : Int, e = .returned (.int .i64 i) ∧ decide (0 ≤ i) = wrongB cd L ∧ (0 ≤ i ∨ i = -1)) ∧ Ext w w' := by
    go_enter Tryz.func121, Tryz.ntmps121
    go_wp2_with fail
    go_loopw [8] (fun x8 wr => ∃ i : Nat, i ≤ L.length ∧ x8 = .int .i64 i ∧ Hid (∀ k, k < i → (nthL L k).length = 20 + cd.length) ∧ Hid (Ext w wr)) (fun x8 _ => L.length - (intOf x8).toNat)
    case atStart => exact ⟨0, Nat.zero_le _, rfl, Lib.hid (fun k hk => by omega), Lib.hid (Ext.refl _)⟩
    case round =>
      obtain ⟨i, hi, rfl, H, HX⟩ := hrel
      by_cases hil : i < L.length
      · have hix := HV.out.run_index (P := Tryz.prog) slRowsK i hil
        have hc := HX.out.cell (HV.out.cell i hil)
        have C2 := wrongW_any sz lv (R i) (nthL L i) cd wr q (HX.out.cell H0.out) (HX.out.cell H1.out) (HC.out.ext HX.out) ((HV.out.row i hil).ext HX.out) hs
        by_cases h20 : (nthL L i).length = 20 + cd.length
        · have HN := Lib.hid h20
          rw [show (((nthL L i).length : Int) != 20 + (cd.length : Int)) = false by rw [bne_eq_false_iff_eq]; omega] at C2
          clear h20
          go_wp2_with fail
          refine C2.mono ?_
          rintro e w1 ⟨rfl, hx1⟩
          clear C2
          have HX1 := Lib.hid (HX.out.trans hx1)
          clear hx1
          go_wp2_with fail
          go_roundw
          case rel => exact ⟨i + 1, by omega, by go_num, Lib.hid (fun k hk => by
            rcases Nat.lt_or_eq_of_le (show k ≤ i by omega) with h | rfl
            · exact H.out k h
            · exact HN.out), HX1⟩
          case measure => simp [intOf]; omega
        · have HS := Lib.hid (show wrongB cd L = true by
            unfold wrongB; rw [List.any_eq_true]
            refine ⟨L[i], List.getElem_mem hil, ?_⟩
            simp only [nthL, List.getD_eq_getElem?_getD, List.getElem?_eq_getElem hil, Option.getD_some] at h20
            simpa using h20)
          rw [show (((nthL L i).length : Int) != 20 + (cd.length : Int)) = true by rw [bne_iff_ne]; omega] at C2
          clear h20
          go_wp2_with fail
          refine C2.mono ?_
          rintro e w1 ⟨rfl, hx1⟩
          clear C2
          have HX1 := Lib.hid (HX.out.trans hx1)
          clear hx1
          go_wp2_with fail
          refine bodyPost_ret (v := .int .i64 i) (by simp [results, Tryz.results121, go_sem]) rfl ⟨⟨i, rfl, by rw [HS.out]; simp, .inl (by omega)⟩, HX1.out⟩
      · obtain rfl : i = L.length := by omega
        have HS := Lib.hid (show wrongB cd L = false by
          unfold wrongB; rw [List.any_eq_false]
          intro x hx
          obtain ⟨i, hi, rfl⟩ := List.mem_iff_getElem.1 hx
          have := H.out i hi
          simp only [nthL, List.getD_eq_getElem?_getD, List.getElem?_eq_getElem hi, Option.getD_some] at this
          simp [this])
        go_wp2_with fail
        refine bodyPost_ret (v := .int .i64 (-1)) (by simp [results, Tryz.results121, go_sem]) rfl ⟨⟨-1, rfl, by rw [HS.out]; rfl, .inr rfl⟩, HX.out⟩
  go_enter Tryz.func50, Tryz.ntmps50
  go_wp2_with fail
  refine C.mono ?_
  rintro e w' ⟨⟨i, rfl, hb, hi⟩, hx⟩
  have HB := Lib.hid hb
  have HX := Lib.hid hx
  clear C hb hx
  rcases hi with hi | rfl
  · go_wp2_with fail
    go_ret
    exact ⟨ret_bool (by rw [← HB.out]; simp; omega), HX.out⟩
  · go_wp2_with fail
    go_ret
    exact ⟨ret_bool (by rw [← HB.out]; rfl), HX.out⟩
section
variable {w : World} {pl : Value} {bf : Nat} {p g sz n : Int} {cd : List In4} {lv dr dw : Value} {K : Nat}
set_option maxRecDepth 100000 in
set_option maxHeartbeats 8000000 in
theorem pcompose_any (h : PlcAt w pl bf p g sz n cd lv dr dw) (hB : FitOk p n cd.length K) (out x y a gg : Int) {vw vz : Value} {Lw : List (List Int)} {zs : List Int} (hw : Rws w vw Lw) (hz : Ints w vz zs) {N : Nat} (hN : N = 2 ^ (K + 3)) (hLw : Lw.length = N) (hzs : zs.length = N) (hr : ∀ i, i < N → (nthL Lw i).length = 20 + cd.length) :
    Calls Tryz.prog 73 #[pl, .int .i64 out, vw, vz, .agg #[.int .i64 x, .int .i64 y, .int .i64 a, .int .i64 gg]] w (Gives w fun u w' => Ints w' u ((List.range N).map (compF p sz out cd x y a g n N (nthL Lw) zs))) := by
  have hbd := hB.bd
  obtain ⟨R, hw⟩ := hw
  have h8 : 8 * n = (N : Int) := by have := hB.nat; rw [hN, Nat.pow_add]; omega
  have hN2 : 32 ≤ N ∧ N ≤ 4096 := by omega
  have hll := hw.run_len (P := Tryz.prog) slRowsK
  rw [hLw] at hll
  have H8 := Lib.hid h8; have HV := Lib.hid hw; have HZ := Lib.hid hz; have HR := Lib.hid hr; have H := Lib.hid h; have HB := Lib.hid hB; have HLW := Lib.hid hLw; have HZS := Lib.hid hzs
  obtain ⟨b, hb, -⟩ := h.cells
  subst hb
  clear hw hz hr h hB hN h8 hLw hzs
  obtain ⟨F, hF⟩ : ∃ F, compF p sz out cd x y a g n N (nthL Lw) zs = F := ⟨_, rfl⟩
  have HFF := Lib.hid (show ∀ i, F i = atC p sz out cd x y a (ptAt p g (froot p g (8 * n)) i) (ptAt p 1 (froot p g n) (n.toNat - 1)) n.toNat (nthL Lw i) (nthL Lw ((i + 8) % N)) (nth zs i) (nth zs ((i + 8) % N)) from fun i => by rw [← hF]; rfl)
  rw [hF]
  clear hF
  have HBY := Lib.hid (BlkOf.new w [.int .i64 x, .int .i64 y, .int .i64 a, .int .i64 gg] 132)
  have HX0 := Lib.hid (Ext.alloc w (Obj.cells #[.int .i64 x, .int .i64 y, .int .i64 a, .int .i64 gg] 132))
  go_enter Tryz.func73, Tryz.ntmps73
  go_wp2_with (refine wpList_mk0 rfl _ _ 23 rfl slInts (Ext.refl _) rfl rfl (by omega) (by omega) (by omega) ?_; intro v1 w1 HO1 HX1 _)
  have HOa := Lib.hid HO1; have HXa := Lib.hid HX1
  clear HO1 HX1
  generalize hq : w.heap.size = q at *
  generalize w.alloc (Obj.cells #[.int .i64 x, .int .i64 y, .int .i64 a, .int .i64 gg] 132) = W0 at *
  clear hq
  go_loopw [11, 12, 13, 19] (fun x11 _ _ x19 wr => ∃ i : Nat, i ≤ N ∧ x19 = .int .i64 i ∧ wr.ownsRow W0.heap.size 3 1 x11 i (((List.range i).map F).map (Value.int .i64)) ∧ Ext W0 wr) (fun _ _ _ x19 _ => N - (intOf x19).toNat)
  case atStart => exact ⟨0, by omega, rfl, HOa.out, HXa.out⟩
  case round =>
    clear HOa HXa
    obtain ⟨i, hi, rfl, HO, HX⟩ := hrel
    by_cases hin : i < N
    · obtain ⟨htm, hem⟩ := next_mod (i := i) (N := N) (by omega)
      obtain ⟨k, hk, hkN⟩ : ∃ k, (i + 8) % N = k ∧ k < N := ⟨_, rfl, Nat.mod_lt _ (by omega)⟩
      rw [hk] at htm hem
      have HFI := Lib.hid (HFF.out i)
      rw [hk] at HFI
      have hxw := HX0.out.trans HX
      have hixi := HV.out.run_index (P := Tryz.prog) slRowsK i (by rw [HLW.out]; exact hin)
      have hixk := HV.out.run_index (P := Tryz.prog) slRowsK k (by rw [HLW.out]; exact hkN)
      have hci := (HV.out.ext hxw).cell i (by rw [HLW.out]; exact hin)
      have hck := (HV.out.ext hxw).cell k (by rw [HLW.out]; exact hkN)
      have hizi := HZ.out.run_index (P := Tryz.prog) slInts i (by rw [HZS.out]; exact hin)
      have hizk := HZ.out.run_index (P := Tryz.prog) slInts k (by rw [HZS.out]; exact hkN)
      have hzi := (HZ.out.ext hxw).cell i (by rw [HZS.out]; exact hin)
      have hzk := (HZ.out.ext hxw).cell k (by rw [HZS.out]; exact hkN)
      have hb := HBY.out.ext HX
      have b0 : wr.cell? ⟨q, 0, none⟩ = some (.int .i64 x) := hb.cell 0
      have b1 : wr.cell? ⟨q, 1, none⟩ = some (.int .i64 y) := hb.cell 1
      have b2 : wr.cell? ⟨q, 2, none⟩ = some (.int .i64 a) := hb.cell 2
      have b3 : wr.cell? ⟨q, 3, none⟩ = some (.int .i64 gg) := hb.cell 3
      have C := fun (m : Nat) => at_any (H.out.ext (hxw.trans (Ext.drewN wr m))) HB.out i (by have := H8.out; omega) ((HV.out.row i (by rw [HLW.out]; exact hin)).ext (hxw.trans (Ext.drewN wr m))) ((HV.out.row k (by rw [HLW.out]; exact hkN)).ext (hxw.trans (Ext.drewN wr m))) (HR.out i hin) (HR.out k hkN) out (nth zs i) (nth zs k) x y a gg
      rw [← HFI.out] at C
      have ST := Lib.hid (compF_snoc (F := F) i)
      generalize nth zs i = z1 at *
      generalize nth zs k = z2 at *
      generalize F i = fi at *
      have HOH := Lib.hid HO; have HXH := Lib.hid HX; have HC := Lib.hid C
      clear hk HO HX C hb hxw
      go_wp2_with fail
      refine wp_region_move_quiet_tail 21 _ (by kernel_rfl) rfl rfl (by kernel_rfl) ?_
      simp only [List.take_succ_cons, List.take_zero, List.drop_succ_cons, List.drop_zero]
      repeat (go_big_quiet_step (fail))
      refine wpQuiet_nil ?_
      rintro _ ⟨m1, rfl⟩
      go_wp2_with (first | (go_at_call 142; refine (HC.out m1).mono ?_; rintro e w2 ⟨rfl, hx2⟩; have hx3 := (HXH.out.trans (Ext.drewN _ m1)).trans hx2; have ho3 := own_ext HOH.out ((Ext.drewN _ m1).trans hx2)) | (at_builtin; refine wpList_app1 rfl _ _ 23 rfl slInts rfl hx3 ho3 rfl _ rfl rfl (by omega) (by omega) ?_; intro v4 w4 HO4 HX4 _))
      refine NoPan.normal ?_
      go_wp2_with fail
      go_roundw
      case rel => exact ⟨i + 1, by omega, by go_num, by rw [ST.out]; exact HO4, HX4⟩
      case measure => simp [intOf]; omega
    · obtain rfl : i = N := by omega
      go_wp2_with fail
      go_ret
      exact .mk _ rfl (HX0.out.trans HX) (Ints.of_own HO)
end
/-- Have rows and a last column the right sizes? -/
def sizesB (p : Int) (cd : List In4) (L : List (List Int)) (zs : List Int) : Bool := rowsB p L.length cd.length && !wrongB cd L && (zs.length == L.length)
/-- The word of all rules, of rows and a last column. -/
def composeL (p sz out : Int) (cd : List In4) (x y a g : Int) (K : Nat) (L : List (List Int)) (zs : List Int) : List Int :=
  (List.range (2 ^ (K + 3))).map (compF p sz out cd x y a g L.length (2 ^ (K + 3)) (nthL ((List.range (2 ^ (K + 3))).map (wideR p g L.length K (20 + cd.length) L))) (wideL p g L.length K zs))
theorem turned_wide (p g n : Int) (K W N : Nat) (L : List (List Int)) : (List.range N).map (fun i => (List.range ((List.range W).map fun j => wideL p g n K (colL L j)).length).map fun j => nth (nthL ((List.range W).map fun j => wideL p g n K (colL L j)) j) i) = (List.range N).map (wideR p g n K W L) := by
  refine List.map_congr_left fun i _ => ?_
  unfold wideR
  rw [List.length_map, List.length_range]
  refine List.map_congr_left fun j hj => ?_
  have hj' := List.mem_range.1 hj
  rw [nthL_eq (by simpa using hj')]
  simp
theorem nthL_range {N i : Nat} (f : Nat → List Int) (h : i < N) : nthL ((List.range N).map f) i = f i := by rw [nthL_eq (by simpa using h)]; simp
section
variable {w : World} {bf : Nat} {p g sz : Int} {cd : List In4} {lv : Value}
set_option maxRecDepth 100000 in
set_option maxHeartbeats 8000000 in
theorem wcompose_bad (hf : FieldOf w (.pointer (some ⟨bf, 0, none⟩)) p g) (hc : Inqs w lv cd) (hs : cd.length ≤ 1048576) (out x y a : Int) {v vz : Value} {L : List (List Int)} {zs : List Int} (hv : Rws w v L) (hz : Ints w vz zs) (hB : sizesB p cd L zs = false) :
    Calls Tryz.prog 23 #[.pointer (some ⟨bf, 0, none⟩), .agg #[.int .i64 sz, lv], .int .i64 out, v, vz, .int .i64 x, .int .i64 y, .int .i64 a] w fun e w' => e = .returned (.tuple #[.slice none 0 0, errv 2]) ∧ Ext w w' := by
  have hmf : ∀ (fn : Fn) (first cap : Array Value) (w : World), (Instr.makeFunc fn first cap).run Tryz.prog w = .ok (.func fn first cap) w := fun _ _ _ _ => rfl
  rw [errv_pos (by decide)]
  have HRW := Lib.hid hv
  obtain ⟨R, hv⟩ := hv
  have hlr := hv.run_len (P := Tryz.prog) slRowsK
  have hlz := hz.run_len (P := Tryz.prog) slInts
  obtain ⟨al, cl, rfl⟩ := hc.shape
  obtain ⟨fs, hfl⟩ := hf.fld
  have HF := Lib.hid hf; have HFL := Lib.hid hfl; have HC := Lib.hid hc
  have HX := Lib.hid (Ext.alloc w (Obj.cells #[.int .i64 sz, .slice al cd.length cl] 48))
  have HBK := Lib.hid (BlkOf.new w [.int .i64 sz, .slice al cd.length cl] 48)
  have b0 : (w.alloc (Obj.cells #[.int .i64 sz, .slice al cd.length cl] 48)).cell? ⟨w.heap.size, 0, none⟩ = some (.int .i64 sz) := HBK.out.cell 0
  have b1 : (w.alloc (Obj.cells #[.int .i64 sz, .slice al cd.length cl] 48)).cell? ⟨w.heap.size, 1, none⟩ = some (.slice al cd.length cl) := HBK.out.cell 1
  clear hv hz hc hf hfl
  by_cases h1 : rowsB p L.length cd.length = true
  · obtain ⟨K, hK⟩ := rowsB_ok h1
    have HK := Lib.hid hK
    have hLr : (4 : Int) ≤ L.length ∧ (L.length : Int) ≤ 512 := hK.bd
    by_cases h2 : zs.length = L.length
    · have hw : wrongB cd L = true := by
        cases h : wrongB cd L
        · exfalso
          rw [sizesB, h1, h, h2] at hB
          simp at hB
        · rfl
      have hzb : ((zs.length : Int) != (L.length : Int)) = false := by rw [bne_eq_false_iff_eq, h2]
      have HW := Lib.hid hw
      clear hB h1 h2 hw hK
      go_enter Tryz.func23, Tryz.ntmps23
      go_wp2_with (first | (go_at_call 70; refine (fit_ok (HF.out.ext HX.out) sz _ _ cd (HC.out.ext HX.out) HK.out).mono ?_; rintro e w2 ⟨v2, rfl, hx2, pl, dr, dw, rfl, hpl⟩; obtain ⟨bp, hbp, -⟩ := hpl.cells; subst hbp; have HX2 := Lib.hid (HX.out.trans hx2); have d0 := hx2.cell b0; have d1 := hx2.cell b1; clear hpl b0 b1 hx2) | (go_at_call 50; refine (wrongsW_any sz _ _ L cd _ _ d0 d1 (HC.out.ext HX2.out) (HRW.out.ext HX2.out) hs).mono ?_; rw [HW.out]; rintro e w3 ⟨rfl, hx3⟩))
      go_ret2
      exact ⟨rfl, HX2.out.trans hx3⟩
    · have hzb : ((zs.length : Int) != (L.length : Int)) = true := by rw [bne_iff_ne]; omega
      clear hB h1 h2 hK
      go_enter Tryz.func23, Tryz.ntmps23
      go_wp2_with (go_at_call 70; refine (fit_ok (HF.out.ext HX.out) sz _ _ cd (HC.out.ext HX.out) HK.out).mono ?_; rintro e w2 ⟨v2, rfl, hx2, pl, dr, dw, rfl, hpl⟩; obtain ⟨bp, hbp, -⟩ := hpl.cells; subst hbp; clear hpl)
      go_ret2
      exact ⟨rfl, HX.out.trans hx2⟩
  · have HN := Lib.hid (show rowsB p L.length cd.length = false by simpa using h1)
    clear hB h1
    go_enter Tryz.func23, Tryz.ntmps23
    go_wp2_with (go_at_call 70; refine (fit_no (HFL.out.ext HX.out) sz _ _ cd (HC.out.ext HX.out) hs HN.out).mono ?_; rintro e w2 ⟨rfl, hx2⟩)
    go_ret2
    exact ⟨rfl, HX.out.trans hx2⟩
set_option maxRecDepth 100000 in
set_option maxHeartbeats 8000000 in
theorem wcompose_ok (hf : FieldOf w (.pointer (some ⟨bf, 0, none⟩)) p g) (hc : Inqs w lv cd) (hs : cd.length ≤ 1048576) (out x y a : Int) {v vz : Value} {L : List (List Int)} {zs : List Int} (hv : Rws w v L) (hz : Ints w vz zs) {K : Nat} (hK : FitOk p L.length cd.length K) (hw : wrongB cd L = false) (hzl : zs.length = L.length) :
    Calls Tryz.prog 23 #[.pointer (some ⟨bf, 0, none⟩), .agg #[.int .i64 sz, lv], .int .i64 out, v, vz, .int .i64 x, .int .i64 y, .int .i64 a] w (Gives w fun u w' => ∃ vu, u = .tuple #[vu, .nilIface] ∧ Ints w' vu (composeL p sz out cd x y a g K L zs)) := by
  have hmf : ∀ (fn : Fn) (first cap : Array Value) (w : World), (Instr.makeFunc fn first cap).run Tryz.prog w = .ok (.func fn first cap) w := fun _ _ _ _ => rfl
  have HRW := Lib.hid hv; have HZ := Lib.hid hz
  obtain ⟨R, hv⟩ := hv
  have hlr := hv.run_len (P := Tryz.prog) slRowsK
  have hlz := hz.run_len (P := Tryz.prog) slInts
  obtain ⟨al, cl, rfl⟩ := hc.shape
  have HF := Lib.hid hf; have HC := Lib.hid hc; have HK := Lib.hid hK; have HW := Lib.hid hw
  have HX := Lib.hid (Ext.alloc w (Obj.cells #[.int .i64 sz, .slice al cd.length cl] 48))
  have HBK := Lib.hid (BlkOf.new w [.int .i64 sz, .slice al cd.length cl] 48)
  have b0 : (w.alloc (Obj.cells #[.int .i64 sz, .slice al cd.length cl] 48)).cell? ⟨w.heap.size, 0, none⟩ = some (.int .i64 sz) := HBK.out.cell 0
  have b1 : (w.alloc (Obj.cells #[.int .i64 sz, .slice al cd.length cl] 48)).cell? ⟨w.heap.size, 1, none⟩ = some (.slice al cd.length cl) := HBK.out.cell 1
  have hLr : (4 : Int) ≤ L.length ∧ (L.length : Int) ≤ 512 := hK.bd
  have hL2 : L.length = 2 ^ K := by have := hK.nat; omega
  have HL2 := Lib.hid hL2
  have hzb : ((zs.length : Int) != (L.length : Int)) = false := by rw [bne_eq_false_iff_eq, hzl]
  have HZL := Lib.hid (hzl.trans hL2)
  have h20 : 20 + cd.length ≤ 1048576 := by have := hK.l64; omega
  have HRL := Lib.hid (wrongB_row hw)
  clear hv hz hc hf hK hw hL2 hzl
  go_enter Tryz.func23, Tryz.ntmps23
  go_wp2_with (first | (go_at_call 70; refine (fit_ok (HF.out.ext HX.out) sz _ _ cd (HC.out.ext HX.out) HK.out).mono ?_; rintro e w2 ⟨v2, rfl, hx2, pl, dr, dw, rfl, hpl⟩; obtain ⟨bp, hbp, -⟩ := hpl.cells; subst hbp; have HX2 := Lib.hid (HX.out.trans hx2); have d0 := hx2.cell b0; have d1 := hx2.cell b1; have HP := Lib.hid hpl; clear hpl b0 b1 hx2) | (go_at_call 50; refine (wrongsW_any sz _ _ L cd _ _ d0 d1 (HC.out.ext HX2.out) (HRW.out.ext HX2.out) hs).mono ?_; rw [HW.out]; rintro e w3 ⟨rfl, hx3⟩; have HX3 := Lib.hid (HX2.out.trans hx3); have HP3 := Lib.hid (HP.out.ext hx3); clear hx3 d0 d1))
  refine (pcolumns_any HP3.out HK.out (HRW.out.ext HX3.out) HL2.out HRL.out h20).mono ?_
  rintro e w4 ⟨v4, rfl, hx4, R4, hg4⟩
  have hcl : ((List.range (20 + cd.length)).map fun j => wideL p g L.length K (colL L j)).length = 20 + cd.length := by simp
  have HN := Lib.hid (show 2 ^ (K + 3) ≤ 65536 from by
    have e1 : 2 ^ (K + 3) ≤ 2 ^ 16 := Nat.pow_le_pow_right (by decide) (by have := HK.out.hi; omega)
    have e2 : (2 : Nat) ^ 16 = 65536 := by decide
    omega)
  have C5 := turned_any (w := w4) ⟨R4, hg4.rws⟩ (by rw [hcl]; omega) (N := 2 ^ (K + 3)) (fun i hi => by
    rw [hcl] at hi
    rw [nthL_range (fun j => wideL p g L.length K (colL L j)) hi, wideL_length]) HN.out (by rw [hcl]; exact h20)
  rw [turned_wide] at C5
  have HX4 := Lib.hid (HX3.out.trans hx4)
  have hx4' := Lib.hid hx4
  have HC5 := Lib.hid C5
  clear hg4 hcl C5 hx4
  go_wp2_with fail
  refine HC5.out.mono ?_
  rintro e w5 ⟨v5, rfl, hx5, ht5⟩
  have HX5 := Lib.hid (HX4.out.trans hx5)
  have HT5 := Lib.hid ht5
  have HP5 := Lib.hid (HP3.out.ext ((hx4'.out).trans hx5))
  clear hx5 ht5
  go_wp2_with fail
  refine (pcolumn_any HP5.out HK.out (HZ.out.ext HX5.out) HZL.out).mono ?_
  rintro e w6 ⟨v6, rfl, hx6, hz6, -⟩
  have HX6 := Lib.hid (HX5.out.trans hx6)
  have HT6 := Lib.hid (HT5.out.ext hx6)
  have HP6 := Lib.hid (HP5.out.ext hx6)
  have HZ6 := Lib.hid hz6
  clear hx6 hz6
  go_wp2_with fail
  refine (pcompose_any HP6.out HK.out out x y a 0 HT6.out HZ6.out rfl (by simp) (wideL_length _ _ _ _ _) (fun i hi => by rw [nthL_range _ hi, wideR_length])).mono ?_
  rintro e w7 ⟨v7, rfl, hx7, hi7⟩
  have HX7 := Lib.hid (HX6.out.trans hx7)
  obtain ⟨L7, hL7⟩ : ∃ L7, composeL p sz out cd x y a g K L zs = L7 := ⟨_, rfl⟩
  replace hi7 : Ints w7 v7 L7 := by rw [← hL7]; exact hi7
  have HI7 := Lib.hid hi7; have HL7 := Lib.hid hL7
  obtain ⟨a7, c7, rfl⟩ := hi7.shape
  clear hL7
  clear hx7 hi7
  go_wp2_with fail
  go_ret2
  exact .mk _ rfl HX7.out ⟨_, rfl, by rw [HL7.out]; exact HI7.out⟩
end
end Go.Proofs.YtnmjaddhbecopaaGreatDoor
