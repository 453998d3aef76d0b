/- WholeComposes: WHAT ALL RULES COME TO: the law's walk: for every input it returns true and leaves all that was there as it was. -/
import Derived.Test.YtnmjaddhbecopaaGreatDoorXe
import Derived.Test.YtnmjaddhbecopaaGreatDoorZx9
import Derived.Test.YtnmjaddhbecopaaGreatDoorZx15
namespace Go.Proofs.YtnmjaddhbecopaaGreatDoor
open Go.RowKit Go.Att
set_option maxHeartbeats 2000000 in
theorem wholeComposes_bad (p : Int) (cv : Value) (out : Int) (v vz : Value) (x y a : Int) (w : World) (h : ¬ okP p) (hg : Hnd w) (sz : Int) (lv : Value) (hcv : cv = .agg #[.int .i64 sz, lv]) :
    Calls Tryz.prog 4 #[.int .i64 p, cv, .int .i64 out, v, vz, .int .i64 x, .int .i64 y, .int .i64 a] w fun e w' => e = .returned (.bool true) ∧ Ext w w' := by
  subst hcv
  have H := Lib.hid h; have HG := Lib.hid hg; clear h hg
  have HX0 := Lib.hid (Ext.alloc w (Obj.cells #[.int .i64 sz, lv] 48))
  go_enter Tryz.func4, Tryz.ntmps4
  go_wp2_with (go_at_call 21; refine (sfield_bad _ _ H.out (HG.out.ext HX0.out)).mono ?_; rintro e w' ⟨v, rfl, hx, rfl⟩)
  go_ret
  exact ⟨rfl, HX0.out.trans hx⟩
theorem tset (p sz : Int) (lv : Value) (out n g x y a : Int) : (((tcells p sz lv out n g 0 0 0 0).set 13 (.int .i64 x)).set 14 (.int .i64 y)).set 15 (.int .i64 a) = tcells p sz lv out n g x y a 0 := rfl
theorem tset_at {w0 w : World} {b : Nat} {p sz out n g : Int} {cd : List In4} {lv : Value} (h : TAt w b p sz out n g cd lv 0 0 0 0) (hc : Inqs w0 lv cd) (hx : Ext w0 w) (hb : w0.heap.size ≤ b) (x y a : Int) :
    TAt (((w.setCell ⟨b, 13, none⟩ (.int .i64 x)).setCell ⟨b, 14, none⟩ (.int .i64 y)).setCell ⟨b, 15, none⟩ (.int .i64 a)) b p sz out n g cd lv x y a 0 ∧ Ext w0 (((w.setCell ⟨b, 13, none⟩ (.int .i64 x)).setCell ⟨b, 14, none⟩ (.int .i64 y)).setCell ⟨b, 15, none⟩ (.int .i64 a)) := by
  have hxx : Ext w0 (((w.setCell ⟨b, 13, none⟩ (.int .i64 x)).setCell ⟨b, 14, none⟩ (.int .i64 y)).setCell ⟨b, 15, none⟩ (.int .i64 a)) := Below.setCell (Below.setCell (Below.setCell hx hb _) hb _) hb _
  exact ⟨⟨by have := ((h.blk.set 13 (.int .i64 x)).set 14 (.int .i64 y)).set 15 (.int .i64 a); rw [tset] at this; exact this, hc.ext hxx⟩, hxx⟩
set_option maxRecDepth 100000 in
set_option maxHeartbeats 8000000 in
theorem wholeComposes_ok (p sz : Int) (lv : Value) (cd : List In4) (out : Int) (v vz : Value) (L : List (List Int)) (zs : List Int) (x y a : Int) (w : World) (h : okP p) (hg : Hnd w) (hc : Inqs w lv cd) (hv : Rws w v L) (hz : Ints w vz zs) (hs : cd.length ≤ 1048576) (hN : L.length ≤ 1048576) (hrs : ∀ i, i < L.length → (nthL L i).length ≤ 1048576) (hzs : zs.length ≤ 1048576) :
    Calls Tryz.prog 4 #[.int .i64 p, .agg #[.int .i64 sz, lv], .int .i64 out, v, vz, .int .i64 x, .int .i64 y, .int .i64 a] w fun e w' => e = .returned (.bool true) ∧ Ext w w' := by
  have H := Lib.hid h; have HG := Lib.hid hg
  obtain ⟨hp, lo, hi⟩ := h
  have hp2 : 2 ≤ p := by omega
  have HV := Lib.hid hv; have HRS := Lib.hid hrs; have HC := Lib.hid hc; have HZ := Lib.hid hz
  have hlr : ∀ (ty : TypeId) (w' : World), (Builtin.len_ #[22] ty #[v]).run Tryz.prog w' = .ok (.int .i64 L.length) w' := by obtain ⟨R, hR⟩ := hv; exact hR.run_len (P := Tryz.prog) slRowsK
  obtain ⟨al, cl, rfl⟩ := hc.shape
  have HB := Lib.hid ((C2.new w (.int .i64 sz) (.slice al cd.length cl) 48))
  have HX0 := Lib.hid (Ext.alloc w (Obj.cells #[.int .i64 sz, .slice al cd.length cl] 48))
  clear hg hp hv hrs hc hz
  go_enter Tryz.func4, Tryz.ntmps4
  go_wp2_with fail
  generalize hqb : w.heap.size = qb at *
  clear hqb
  generalize w.alloc (Obj.cells #[.int .i64 sz, .slice al cd.length cl] 48) = W at *
  refine (sfield_ok _ _ H.out (HG.out.ext HX0.out)).mono ?_
  rintro e w1 ⟨v1, rfl, hx, f, g, rfl, hf⟩
  obtain ⟨bf, rfl⟩ := hf.ptr
  have HF := Lib.hid hf
  have HX := Lib.hid (HX0.out.trans hx)
  have HB1 := Lib.hid (HB.out.ext hx)
  clear hf hx HB HX0
  go_wp2_with fail
  refine (copiedK_any v L w1 (HV.out.ext HX.out) hN HRS.out).mono ?_
  rintro e w2 ⟨u, rfl, hx2, hu⟩
  have HX2 := Lib.hid (HX.out.trans hx2)
  have HU := Lib.hid hu
  have HF2 := Lib.hid (HF.out.ext hx2)
  have HB2 := Lib.hid (HB1.out.ext hx2)
  have e0 := HB2.out.c0
  have e1 := HB2.out.c1
  clear hx2 hu HF HX HB1
  by_cases hsz : sizesB p cd L zs = true
  · have h3 : rowsB p L.length cd.length = true ∧ wrongB cd L = false ∧ zs.length = L.length := by
      have h1 := hsz
      simp only [sizesB, Bool.and_eq_true, Bool.not_eq_true', beq_iff_eq] at h1
      exact ⟨h1.1.1, h1.1.2, h1.2⟩
    obtain ⟨K, hK⟩ := rowsB_ok h3.1
    have HSZ := Lib.hid hsz; have HK := Lib.hid hK; have HW := Lib.hid h3.2.1; have HZL := Lib.hid h3.2.2
    clear hsz h3 hK
    go_wp2_with fail
    refine (wcompose_ok HF2.out (HC.out.ext HX2.out) hs out x y a HU.out (HZ.out.ext HX2.out) HK.out HW.out HZL.out).mono ?_
    rintro e w3 ⟨v3, rfl, hx3, u3, rfl, hu3⟩
    obtain ⟨CL, hCL⟩ : ∃ CL, composeL p sz out cd x y a g K L zs = CL := ⟨_, rfl⟩
    rw [hCL] at hu3
    obtain ⟨a3, c3, rfl⟩ := hu3.shape
    have HX3 := Lib.hid (HX2.out.trans hx3); have HU3 := Lib.hid (HU.out.ext hx3); have HB3 := Lib.hid (HB2.out.ext hx3); have HF3 := Lib.hid (HF2.out.ext hx3)
    have HR3 := Lib.hid hu3; have HCL := Lib.hid hCL
    clear hu3 hCL hx3 HX2 HU HB2 HF2 e0 e1
    have e0 := HB3.out.c0
    have e1 := HB3.out.c1
    go_wp2_with fail
    refine (shape_any p sz _ v vz cd L zs w3 lo hi (HC.out.ext HX3.out) hs (HV.out.ext HX3.out) (HZ.out.ext HX3.out) hN).mono ?_
    rw [HSZ.out]
    rintro e w4 ⟨rfl, hx4⟩
    have HX4 := Lib.hid (HX3.out.trans hx4); have HU4 := Lib.hid (HU3.out.ext hx4); have HB4 := Lib.hid (HB3.out.ext hx4); have HF4 := Lib.hid (HF3.out.ext hx4); have HR4 := Lib.hid (HR3.out.ext hx4)
    clear hx4 HX3 HU3 HB3 HF3 HR3 e0 e1
    have e0 := HB4.out.c0
    have e1 := HB4.out.c1
    go_wp2_with fail
    obtain ⟨fs, hfl⟩ := HF4.out.fld
    refine (dnew_any p sz out L.length g _ cd w4 (HC.out.ext HX4.out) HK.out hfl.pr hi HF4.out.gen HF4.out.least HF4.out.lo HF4.out.hi).mono ?_
    rintro e w5 ⟨v5, rfl, hx5, b5, rfl, ht5, hb5⟩
    have t13 : w5.cell? ⟨b5, 13, none⟩ = some (.int .i64 0) := ht5.blk.cell 13
    have t14 : w5.cell? ⟨b5, 14, none⟩ = some (.int .i64 0) := ht5.blk.cell 14
    have t15 : w5.cell? ⟨b5, 15, none⟩ = some (.int .i64 0) := ht5.blk.cell 15
    have f13 := ht5.blk.free 13
    have f14 := ht5.blk.free 14
    have f15 := ht5.blk.free 15
    have HT5 := Lib.hid (tset_at ht5 (HC.out.ext HX4.out) hx5 hb5 x y a)
    clear ht5 hb5 hx5 hfl e0 e1
    go_wp2_with fail
    generalize ((w5.setCell ⟨b5, 13, none⟩ (.int .i64 x)).setCell ⟨b5, 14, none⟩ (.int .i64 y)).setCell ⟨b5, 15, none⟩ (.int .i64 a) = W6 at *
    clear t13 t14 t15 f13 f14 f15
    have HX6 := Lib.hid (HX4.out.trans HT5.out.2); have HU6 := Lib.hid (HU4.out.ext HT5.out.2); have HR6 := Lib.hid (HR4.out.ext HT5.out.2); have HT6 := Lib.hid HT5.out.1
    have hg1 := HF4.out.lo; have hg2 := HF4.out.hi
    have HKL := Lib.hid (show L.length = 2 ^ K from by have := HK.out.nat; omega)
    have h20 : 20 + cd.length ≤ 1048576 := by have := HK.out.l64; omega
    clear HX4 HU4 HR4 HB4 HF4 HT5
    refine (dwide_any HT6.out HK.out hi hg1 hg2 (HV.out.ext HX6.out) HKL.out (wrongB_row HW.out) h20).mono ?_
    rintro e w7 ⟨v7, rfl, hx7, hw7⟩
    have HX7 := Lib.hid (HX6.out.trans hx7); have HU7 := Lib.hid (HU6.out.ext hx7); have HR7 := Lib.hid (HR6.out.ext hx7); have HT7 := Lib.hid (HT6.out.ext hx7); have HW7 := Lib.hid hw7
    clear hx7 hw7 HX6 HU6 HR6 HT6
    go_wp2_with fail
    refine (done_any (HZ.out.ext HX7.out) hzs).mono ?_
    rintro e w8 ⟨v8, rfl, hx8, ho8⟩
    have HX8 := Lib.hid (HX7.out.trans hx8); have HU8 := Lib.hid (HU7.out.ext hx8); have HR8 := Lib.hid (HR7.out.ext hx8); have HT8 := Lib.hid (HT7.out.ext hx8); have HW8 := Lib.hid (HW7.out.ext hx8); have HO8 := Lib.hid ho8
    clear hx8 ho8 HX7 HU7 HR7 HT7 HW7
    go_wp2_with fail
    have C9 := dcolumn_any HT8.out HK.out hi hg1 hg2 HO8.out (by rw [oneL_length]; exact HZL.out.trans HKL.out) 0 (fun i hi => by rw [nthL_eq hi]; simp [oneL]) (by omega)
    rw [colL_one] at C9
    refine C9.mono ?_
    rintro e w9 ⟨v9, rfl, hx9, hz9, -⟩
    have HX9 := Lib.hid (HX8.out.trans hx9); have HU9 := Lib.hid (HU8.out.ext hx9); have HR9 := Lib.hid (HR8.out.ext hx9); have HT9 := Lib.hid (HT8.out.ext hx9); have HW9 := Lib.hid (HW8.out.ext hx9); have HZ9 := Lib.hid hz9
    clear hx9 hz9 HX8 HU8 HR8 HT8 HW8 HO8 C9
    go_wp2_with fail
    refine (dcompose_any HT9.out HK.out hi HW9.out HZ9.out (N := 2 ^ (K + 3)) rfl (by simp) (wideL_length _ _ _ _ _) (fun i hi => by rw [nthL_range _ hi, wideR_length])).mono ?_
    rintro e w10 ⟨v10, rfl, hx10, hc10⟩
    have HC10 := Lib.hid (show Ints w10 v10 CL from by rw [← HCL.out]; exact hc10)
    have HX10 := Lib.hid (HX9.out.trans hx10); have HU10 := Lib.hid (HU9.out.ext hx10); have HR10 := Lib.hid (HR9.out.ext hx10)
    clear hx10 hc10 HX9 HU9 HR9 HT9 HW9 HZ9
    go_wp2_with fail
    refine (error_any 0 0 _ (HG.out.ext HX10.out)).mono ?_
    rintro e w11 ⟨rfl, hx11⟩
    have HX11 := Lib.hid (HX10.out.trans hx11); have HU11 := Lib.hid (HU10.out.ext hx11); have HR11 := Lib.hid (HR10.out.ext hx11); have HC11 := Lib.hid (HC10.out.ext hx11)
    clear hx11 HX10 HU10 HR10 HC10
    go_wp2_with fail
    have C := sints_any _ v10 CL CL w11 HR11.out HC11.out
    rw [decide_eq_true rfl] at C
    refine C.mono ?_
    rintro e w12 hrd
    obtain ⟨rfl, hx12⟩ := hrd.ext
    have HX12 := Lib.hid (HX11.out.trans hx12); have HU12 := Lib.hid (HU11.out.ext hx12)
    clear hrd hx12 C HX11 HU11 HR11 HC11
    go_wp2_with fail
    have C := srows_any u v L L w12 HU12.out (HV.out.ext HX12.out)
    rw [decide_eq_true rfl] at C
    refine C.mono ?_
    rintro e w13 hrd
    obtain ⟨rfl, hx13⟩ := hrd.ext
    have HX13 := Lib.hid (HX12.out.trans hx13)
    clear hrd hx13 C HX12 HU12
    go_wp2_with fail
    go_ret
    exact ⟨rfl, HX13.out⟩
  · have HSZ := Lib.hid (show sizesB p cd L zs = false by simpa using hsz)
    clear hsz
    go_wp2_with fail
    refine (wcompose_bad HF2.out (HC.out.ext HX2.out) hs out x y a HU.out (HZ.out.ext HX2.out) HSZ.out).mono ?_
    rintro e w3 ⟨rfl, hx3⟩
    have HX3 := Lib.hid (HX2.out.trans hx3); have HU3 := Lib.hid (HU.out.ext hx3); have HB3 := Lib.hid (HB2.out.ext hx3)
    clear hx3 HX2 HU HB2 HF2 e0 e1
    have e0 := HB3.out.c0
    have e1 := HB3.out.c1
    go_wp2_with fail
    refine (shape_any p sz _ v vz cd L zs w3 lo hi (HC.out.ext HX3.out) hs (HV.out.ext HX3.out) (HZ.out.ext HX3.out) hN).mono ?_
    rw [HSZ.out]
    rintro e w4 ⟨rfl, hx4⟩
    have HX4 := Lib.hid (HX3.out.trans hx4); have HU4 := Lib.hid (HU3.out.ext hx4)
    clear hx4 HX3 HU3 HB3 e0 e1
    go_wp2_with fail
    refine (error_any 2 2 _ (HG.out.ext HX4.out)).mono ?_
    rintro e w5 ⟨rfl, hx5⟩
    have HX5 := Lib.hid (HX4.out.trans hx5); have HU5 := Lib.hid (HU4.out.ext hx5)
    clear hx5 HX4 HU4
    go_wp2_with fail
    have C := sints_any (.slice none 0 0) (.slice none 0 0) [] [] w5 (Ints.nil _) (Ints.nil _)
    rw [decide_eq_true rfl] at C
    refine C.mono ?_
    rintro e w12 hrd
    obtain ⟨rfl, hx12⟩ := hrd.ext
    have HX12 := Lib.hid (HX5.out.trans hx12); have HU12 := Lib.hid (HU5.out.ext hx12)
    clear hrd hx12 C HX5 HU5
    go_wp2_with fail
    have C := srows_any u v L L w12 HU12.out (HV.out.ext HX12.out)
    rw [decide_eq_true rfl] at C
    refine C.mono ?_
    rintro e w13 hrd
    obtain ⟨rfl, hx13⟩ := hrd.ext
    have HX13 := Lib.hid (HX12.out.trans hx13)
    clear hrd hx13 C HX12 HU12
    go_wp2_with fail
    go_ret
    exact ⟨rfl, HX13.out⟩
end Go.Proofs.YtnmjaddhbecopaaGreatDoor
