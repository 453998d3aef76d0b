/- GatesValues: what the gates of a circuit are, how much of them there is anywhere: the law's walk: for every input it returns true and leaves all that was there as it was. -/
import Derived.Test.YthjemncbphdomaaDoorC14
import Derived.Test.YthjemncbphdomaaDoorS2
import Derived.Test.YthjemncbphdomaaDoorF7
namespace Go.Att
open Go.RowKit
theorem walkErr_cir {wd : Int} {Ls : List (List Tri)} {n : Nat} (h : cirErr wd Ls ≠ 0) : walkErr wd Ls n = cirErr wd Ls := by unfold walkErr; rw [if_neg h]
theorem walkErr_two {wd : Int} {Ls : List (List Tri)} {n : Nat} (h : cirErr wd Ls = 0) (h2 : wideOf n ≠ wd) : walkErr wd Ls n = 2 := by
  unfold walkErr; rw [if_pos h, if_neg]
  intro hn
  obtain ⟨⟨s1, s2, -⟩, -⟩ := cirErr_ok h
  apply h2
  rw [hn, wideOf_of _ (by omega)]; omega
theorem walkErr_nil {wd : Int} {Ls : List (List Tri)} {n : Nat} (h : cirErr wd Ls = 0) (h2 : wideOf n = wd) : walkErr wd Ls n = 0 ∧ (n : Int) = 2 ^ wd.toNat := by
  obtain ⟨⟨s1, s2, -⟩, -⟩ := cirErr_ok h
  have hn : (n : Int) = 2 ^ wd.toNat := by rw [← h2]; exact wideOf_pow (by omega)
  exact ⟨by unfold walkErr; rw [if_pos h, if_pos hn], hn⟩
end Go.Att
namespace Go.Proofs.YthjemncbphdomaaDoor
open Go.RowKit Go.Att

set_option maxRecDepth 100000 in
set_option maxHeartbeats 4000000 in
theorem gatesValues_bad (p : Int) (c v2 v3 v4 v5 v6 v7 : Value) (w : World) (wd : Int) (lv : Value) (hc : c = .agg #[.int .i64 wd, lv]) (h : ¬ okP p) (hg : Hnd w) :
    Calls Tryd.prog 7 #[.int .i64 p, c, v2, v3, v4, v5, v6, v7] w fun e w' => e = .returned (.bool true) ∧ Ext w w' := by
  subst hc
  have H := Lib.hid h; have HG := Lib.hid hg; clear h hg
  go_enter Tryd.func7, Tryd.ntmps7
  go_wp2_with (go_at_call 13; refine (sfield_bad _ _ H.out (HG.out.ext (Ext.alloc _ _))).mono ?_; rintro e w' ⟨v, rfl, hx, rfl⟩)
  go_ret
  exact ⟨rfl, (Ext.alloc _ _).trans hx⟩
set_option maxRecDepth 100000 in
set_option maxHeartbeats 4000000 in
theorem gatesValues_circ (p wd : Int) (lv vi vz vx vy : Value) (Ls : List (List Tri)) (R : Nat → Value) (inp z x y : List Int) (layer kind : Int) (w : World) (h : okP p) (hg : Hnd w) (hv : LysAt w lv Ls R) (hi : Ints w vi inp) (hz : Ints w vz z) (hx : Ints w vx x) (hy : Ints w vy y) (hE : cirErr wd Ls ≠ 0) :
    Calls Tryd.prog 7 #[.int .i64 p, .agg #[.int .i64 wd, lv], vi, .int .i64 layer, .int .i64 kind, vz, vx, vy] w fun e w' => e = .returned (.bool true) ∧ Ext w w' := by
  have H := Lib.hid h; have HG := Lib.hid hg; have HV := Lib.hid hv; have HI := Lib.hid hi; have HZ := Lib.hid hz; have HXX := Lib.hid hx; have HY := Lib.hid hy
  obtain ⟨hpp, lo, hip⟩ := h
  have hp2 : 2 ≤ p := by omega
  have hlen := hv.len
  have hll := hv.run_len (P := Tryd.prog) slLayers
  have hli := hi.run_len (P := Tryd.prog) slInts
  have hlz := hz.run_len (P := Tryd.prog) slInts
  have hlx := hx.run_len (P := Tryd.prog) slInts
  have hly := hy.run_len (P := Tryd.prog) slInts
  obtain ⟨ao, cap, rfl⟩ := hv.shape
  have c0 := cell_new w #[.int .i64 wd, .slice ao Ls.length cap] 80 0
  have c1 := cell_new w #[.int .i64 wd, .slice ao Ls.length cap] 80 1
  clear hpp hg hv hi hz hx hy
  have HE := Lib.hid hE
  have HW := Lib.hid (show walkErr wd Ls inp.length ≠ 0 by rw [walkErr_cir hE]; exact hE)
  have HWE := Lib.hid (walkErr_cir (n := inp.length) hE)
  have b0 : (cirErr wd Ls == 0) = false := by rw [beq_eq_false_iff_ne]; exact hE
  have b1 : (cirErr wd Ls != 0) = true := by rw [bne_iff_ne]; exact hE
  clear hE
  go_enter Tryd.func7, Tryd.ntmps7
  go_wp2_with (first | (go_at_call 13; refine (sfield_ok _ _ H.out (HG.out.ext (Ext.alloc _ _))).mono ?_; rintro e w1 ⟨v, rfl, hx1, f, g0, rfl, hf⟩; obtain ⟨bf, rfl⟩ := hf.ptr; obtain ⟨fs, hfs⟩ := hf.fld; replace c0 : w1.cell? ⟨w.heap.size, 0, none⟩ = some (.int .i64 wd) := hx1.cell c0; replace c1 : w1.cell? ⟨w.heap.size, 1, none⟩ = some (.slice ao Ls.length cap) := hx1.cell c1; replace hx1 := (Ext.alloc _ _).trans hx1; have HF := Lib.hid hfs; clear hf hfs) | (go_at_call 33; refine (values_bad _ wd _ _ Ls R inp _ (HV.out.ext hx1) (HI.out.ext hx1) HW.out).mono ?_; rw [HWE.out]; rintro e w2 ⟨rfl, hx2⟩; replace c0 : w2.cell? ⟨w.heap.size, 0, none⟩ = some (.int .i64 wd) := hx2.cell c0; replace c1 : w2.cell? ⟨w.heap.size, 1, none⟩ = some (.slice ao Ls.length cap) := hx2.cell c1; replace HF := Lib.hid (HF.out.ext hx2); replace hx2 := hx1.trans hx2) | (go_at_call 34; refine (rfaultc_any wd _ Ls R _ (HV.out.ext hx2)).mono ?_; rintro e w3 ⟨rfl, hx3⟩; replace c0 : w3.cell? ⟨w.heap.size, 0, none⟩ = some (.int .i64 wd) := hx3.cell c0; replace c1 : w3.cell? ⟨w.heap.size, 1, none⟩ = some (.slice ao Ls.length cap) := hx3.cell c1; replace HF := Lib.hid (HF.out.ext hx3); replace hx3 := hx2.trans hx3))
  refine (error_any (cirErr wd Ls) (cirErr wd Ls) _ (HG.out.ext hx3)).mono ?_
  rw [beq_self_eq_true]
  rintro e w5 ⟨rfl, hx5⟩
  replace c0 : w5.cell? ⟨w.heap.size, 0, none⟩ = some (.int .i64 wd) := hx5.cell c0
  replace c1 : w5.cell? ⟨w.heap.size, 1, none⟩ = some (.slice ao Ls.length cap) := hx5.cell c1
  replace HF := Lib.hid (HF.out.ext hx5)
  replace hx5 := hx3.trans hx5
  go_wp2_with (first | (go_at_call 38; refine (Wire_e1 _ wd _ _ _ _ Ls R layer kind _ (HV.out.ext hx5) HE.out).mono ?_; rintro e w8 ⟨rfl, hx8⟩; replace hx8 := hx5.trans hx8) | (go_at_call 24; refine (error_any (cirErr wd Ls) (cirErr wd Ls) _ (HG.out.ext hx8)).mono ?_; rw [beq_self_eq_true]; rintro e w9 ⟨rfl, hx9⟩))
  go_ret
  exact ⟨rfl, hx8.trans hx9⟩
set_option maxRecDepth 100000 in
set_option maxHeartbeats 4000000 in
theorem gatesValues_two (p wd : Int) (lv vi vz vx vy : Value) (Ls : List (List Tri)) (R : Nat → Value) (inp z x y : List Int) (layer kind : Int) (w : World) (h : okP p) (hg : Hnd w) (hv : LysAt w lv Ls R) (hi : Ints w vi inp) (hz : Ints w vz z) (hx : Ints w vx x) (hy : Ints w vy y) (hE : cirErr wd Ls = 0) (hF : wideOf inp.length ≠ wd) :
    Calls Tryd.prog 7 #[.int .i64 p, .agg #[.int .i64 wd, lv], vi, .int .i64 layer, .int .i64 kind, vz, vx, vy] w fun e w' => e = .returned (.bool true) ∧ Ext w w' := by
  have H := Lib.hid h; have HG := Lib.hid hg; have HV := Lib.hid hv; have HI := Lib.hid hi; have HZ := Lib.hid hz; have HXX := Lib.hid hx; have HY := Lib.hid hy
  obtain ⟨hpp, lo, hip⟩ := h
  have hp2 : 2 ≤ p := by omega
  have hlen := hv.len
  have hll := hv.run_len (P := Tryd.prog) slLayers
  have hli := hi.run_len (P := Tryd.prog) slInts
  have hlz := hz.run_len (P := Tryd.prog) slInts
  have hlx := hx.run_len (P := Tryd.prog) slInts
  have hly := hy.run_len (P := Tryd.prog) slInts
  obtain ⟨ao, cap, rfl⟩ := hv.shape
  have c0 := cell_new w #[.int .i64 wd, .slice ao Ls.length cap] 80 0
  have c1 := cell_new w #[.int .i64 wd, .slice ao Ls.length cap] 80 1
  clear hpp hg hv hi hz hx hy
  have HCE := Lib.hid hE
  have HSZ := Lib.hid (cirErr_ok hE).1
  have HWE := Lib.hid (walkErr_two hE hF)
  have HW := Lib.hid (show walkErr wd Ls inp.length ≠ 0 by rw [HWE.out]; decide)
  have b9 : (wideOf inp.length != wd) = true := by rw [bne_iff_ne]; exact hF
  clear hE hF
  go_enter Tryd.func7, Tryd.ntmps7
  go_wp2_with (first | (go_at_call 13; refine (sfield_ok _ _ H.out (HG.out.ext (Ext.alloc _ _))).mono ?_; rintro e w1 ⟨v, rfl, hx1, f, g0, rfl, hf⟩; obtain ⟨bf, rfl⟩ := hf.ptr; obtain ⟨fs, hfs⟩ := hf.fld; replace c0 : w1.cell? ⟨w.heap.size, 0, none⟩ = some (.int .i64 wd) := hx1.cell c0; replace c1 : w1.cell? ⟨w.heap.size, 1, none⟩ = some (.slice ao Ls.length cap) := hx1.cell c1; replace hx1 := (Ext.alloc _ _).trans hx1; have HF := Lib.hid hfs; clear hf hfs) | (go_at_call 33; refine (values_bad _ wd _ _ Ls R inp _ (HV.out.ext hx1) (HI.out.ext hx1) HW.out).mono ?_; rw [HWE.out]; rintro e w2 ⟨rfl, hx2⟩; replace c0 : w2.cell? ⟨w.heap.size, 0, none⟩ = some (.int .i64 wd) := hx2.cell c0; replace c1 : w2.cell? ⟨w.heap.size, 1, none⟩ = some (.slice ao Ls.length cap) := hx2.cell c1; replace HF := Lib.hid (HF.out.ext hx2); replace hx2 := hx1.trans hx2) | (go_at_call 34; refine (rfaultc_any wd _ Ls R _ (HV.out.ext hx2)).mono ?_; rw [HCE.out]; rintro e w3 ⟨rfl, hx3⟩; replace c0 : w3.cell? ⟨w.heap.size, 0, none⟩ = some (.int .i64 wd) := hx3.cell c0; replace c1 : w3.cell? ⟨w.heap.size, 1, none⟩ = some (.slice ao Ls.length cap) := hx3.cell c1; replace HF := Lib.hid (HF.out.ext hx3); replace hx3 := hx2.trans hx3) | (go_at_call 35; refine (rwide_any _ _).mono ?_; rintro e w4 ⟨rfl, rfl⟩))
  refine (error_any 2 2 _ (HG.out.ext hx3)).mono ?_
  rintro e w5 ⟨rfl, hx5⟩
  replace c0 : w5.cell? ⟨w.heap.size, 0, none⟩ = some (.int .i64 wd) := hx5.cell c0
  replace c1 : w5.cell? ⟨w.heap.size, 1, none⟩ = some (.slice ao Ls.length cap) := hx5.cell c1
  replace HF := Lib.hid (HF.out.ext hx5)
  replace hx5 := hx3.trans hx5
  go_wp2_with fail
  by_cases s0 : layer < 0
  · have HD := Lib.hid (show layB layer Ls.length = false ∨ kindB kind = false from .inl (decide_eq_false (by omega)))
    go_wp2_with (first | (go_at_call 38; refine (Wire_e3 _ wd _ _ _ _ Ls R layer kind _ (HV.out.ext hx5) HCE.out HD.out).mono ?_; rintro e w8 ⟨rfl, hx8⟩; replace c0 : w8.cell? ⟨w.heap.size, 0, none⟩ = some (.int .i64 wd) := hx8.cell c0; replace c1 : w8.cell? ⟨w.heap.size, 1, none⟩ = some (.slice ao Ls.length cap) := hx8.cell c1; replace hx8 := hx5.trans hx8) | (go_at_call 24; refine (error_any 3 3 _ (HG.out.ext hx8)).mono ?_; rintro e w9 ⟨rfl, hx9⟩))
    go_ret
    exact ⟨rfl, hx8.trans hx9⟩
  by_cases s1 : (Ls.length : Int) ≤ layer
  · have HD := Lib.hid (show layB layer Ls.length = false ∨ kindB kind = false from .inl (decide_eq_false (by omega)))
    go_wp2_with (first | (go_at_call 38; refine (Wire_e3 _ wd _ _ _ _ Ls R layer kind _ (HV.out.ext hx5) HCE.out HD.out).mono ?_; rintro e w8 ⟨rfl, hx8⟩; replace c0 : w8.cell? ⟨w.heap.size, 0, none⟩ = some (.int .i64 wd) := hx8.cell c0; replace c1 : w8.cell? ⟨w.heap.size, 1, none⟩ = some (.slice ao Ls.length cap) := hx8.cell c1; replace hx8 := hx5.trans hx8) | (go_at_call 24; refine (error_any 3 3 _ (HG.out.ext hx8)).mono ?_; rintro e w9 ⟨rfl, hx9⟩))
    go_ret
    exact ⟨rfl, hx8.trans hx9⟩
  by_cases s2 : kind < 0
  · have HD := Lib.hid (show layB layer Ls.length = false ∨ kindB kind = false from .inr (decide_eq_false (by omega)))
    go_wp2_with (first | (go_at_call 38; refine (Wire_e3 _ wd _ _ _ _ Ls R layer kind _ (HV.out.ext hx5) HCE.out HD.out).mono ?_; rintro e w8 ⟨rfl, hx8⟩; replace c0 : w8.cell? ⟨w.heap.size, 0, none⟩ = some (.int .i64 wd) := hx8.cell c0; replace c1 : w8.cell? ⟨w.heap.size, 1, none⟩ = some (.slice ao Ls.length cap) := hx8.cell c1; replace hx8 := hx5.trans hx8) | (go_at_call 24; refine (error_any 3 3 _ (HG.out.ext hx8)).mono ?_; rintro e w9 ⟨rfl, hx9⟩))
    go_ret
    exact ⟨rfl, hx8.trans hx9⟩
  by_cases s3 : 1 < kind
  · have HD := Lib.hid (show layB layer Ls.length = false ∨ kindB kind = false from .inr (decide_eq_false (by omega)))
    go_wp2_with (first | (go_at_call 38; refine (Wire_e3 _ wd _ _ _ _ Ls R layer kind _ (HV.out.ext hx5) HCE.out HD.out).mono ?_; rintro e w8 ⟨rfl, hx8⟩; replace c0 : w8.cell? ⟨w.heap.size, 0, none⟩ = some (.int .i64 wd) := hx8.cell c0; replace c1 : w8.cell? ⟨w.heap.size, 1, none⟩ = some (.slice ao Ls.length cap) := hx8.cell c1; replace hx8 := hx5.trans hx8) | (go_at_call 24; refine (error_any 3 3 _ (HG.out.ext hx8)).mono ?_; rintro e w9 ⟨rfl, hx9⟩))
    go_ret
    exact ⟨rfl, hx8.trans hx9⟩
  obtain ⟨i, rfl⟩ := Int.eq_ofNat_of_zero_le (show 0 ≤ layer by omega)
  have hil : i < Ls.length := by omega
  have HK := Lib.hid (show kindB kind = true from decide_eq_true (by omega))
  have hix := HV.out.run_index (P := Tryd.prog) slLayers i hil
  have hc := (HV.out.ext hx5).cell i hil
  have hln := (HV.out.row i hil).run_len (P := Tryd.prog) slGates
  have hrl := (HV.out.row i hil).len
  by_cases d0 : (z.length : Int) = wideOf (nthY Ls i).length
  case neg =>
    have HD := Lib.hid (show fitsB wd Ls i z x y = false from decide_eq_false fun hh => d0 hh.1)
    have b0 : ((z.length : Int) != wideOf (nthY Ls i).length) = true := by rw [bne_iff_ne]; exact d0
    clear d0
    go_wp2_with (first | (go_at_call 38; refine (Wire_e2 _ wd _ _ _ _ Ls R i kind z x y _ (HV.out.ext hx5) HCE.out hil HK.out (HZ.out.ext hx5) (HXX.out.ext hx5) (HY.out.ext hx5) HD.out).mono ?_; rintro e w8 ⟨rfl, hx8⟩; replace c0 : w8.cell? ⟨w.heap.size, 0, none⟩ = some (.int .i64 wd) := hx8.cell c0; replace c1 : w8.cell? ⟨w.heap.size, 1, none⟩ = some (.slice ao Ls.length cap) := hx8.cell c1; replace hc := hx8.cell hc; replace HF := Lib.hid (HF.out.ext hx8); replace hx8 := hx5.trans hx8) | (go_at_call 35; refine (rwide_any _ _).mono ?_; rintro e w4 ⟨rfl, rfl⟩) | (go_at_call 39; refine (rbeneath_any wd _ Ls R i _ (HV.out.ext hx8) hil).mono ?_; rintro e w9 ⟨rfl, hx9⟩; replace c0 : w9.cell? ⟨w.heap.size, 0, none⟩ = some (.int .i64 wd) := hx9.cell c0; replace c1 : w9.cell? ⟨w.heap.size, 1, none⟩ = some (.slice ao Ls.length cap) := hx9.cell c1; replace hc := hx9.cell hc; replace HF := Lib.hid (HF.out.ext hx9); replace hx9 := hx8.trans hx9) | (go_at_call 24; refine (error_any 2 2 _ (HG.out.ext hx9)).mono ?_; rintro e w10 ⟨rfl, hx10⟩))
    go_ret
    exact ⟨rfl, hx9.trans hx10⟩
  have b0 : ((z.length : Int) != wideOf (nthY Ls i).length) = false := by rw [bne_eq_false_iff_eq]; exact d0
  by_cases d1 : (x.length : Int) = beneath wd Ls i
  case neg =>
    have HD := Lib.hid (show fitsB wd Ls i z x y = false from decide_eq_false fun hh => d1 hh.2.1)
    have b1 : ((x.length : Int) != beneath wd Ls i) = true := by rw [bne_iff_ne]; exact d1
    clear d0 d1
    go_wp2_with (first | (go_at_call 38; refine (Wire_e2 _ wd _ _ _ _ Ls R i kind z x y _ (HV.out.ext hx5) HCE.out hil HK.out (HZ.out.ext hx5) (HXX.out.ext hx5) (HY.out.ext hx5) HD.out).mono ?_; rintro e w8 ⟨rfl, hx8⟩; replace c0 : w8.cell? ⟨w.heap.size, 0, none⟩ = some (.int .i64 wd) := hx8.cell c0; replace c1 : w8.cell? ⟨w.heap.size, 1, none⟩ = some (.slice ao Ls.length cap) := hx8.cell c1; replace hc := hx8.cell hc; replace HF := Lib.hid (HF.out.ext hx8); replace hx8 := hx5.trans hx8) | (go_at_call 35; refine (rwide_any _ _).mono ?_; rintro e w4 ⟨rfl, rfl⟩) | (go_at_call 39; refine (rbeneath_any wd _ Ls R i _ (HV.out.ext hx8) hil).mono ?_; rintro e w9 ⟨rfl, hx9⟩; replace c0 : w9.cell? ⟨w.heap.size, 0, none⟩ = some (.int .i64 wd) := hx9.cell c0; replace c1 : w9.cell? ⟨w.heap.size, 1, none⟩ = some (.slice ao Ls.length cap) := hx9.cell c1; replace hc := hx9.cell hc; replace HF := Lib.hid (HF.out.ext hx9); replace hx9 := hx8.trans hx9) | (go_at_call 24; refine (error_any 2 2 _ (HG.out.ext hx9)).mono ?_; rintro e w10 ⟨rfl, hx10⟩))
    go_ret
    exact ⟨rfl, hx9.trans hx10⟩
  have b1 : ((x.length : Int) != beneath wd Ls i) = false := by rw [bne_eq_false_iff_eq]; exact d1
  by_cases d2 : (y.length : Int) = beneath wd Ls i
  case neg =>
    have HD := Lib.hid (show fitsB wd Ls i z x y = false from decide_eq_false fun hh => d2 hh.2.2)
    have b2 : ((y.length : Int) != beneath wd Ls i) = true := by rw [bne_iff_ne]; exact d2
    clear d0 d1 d2
    go_wp2_with (first | (go_at_call 38; refine (Wire_e2 _ wd _ _ _ _ Ls R i kind z x y _ (HV.out.ext hx5) HCE.out hil HK.out (HZ.out.ext hx5) (HXX.out.ext hx5) (HY.out.ext hx5) HD.out).mono ?_; rintro e w8 ⟨rfl, hx8⟩; replace c0 : w8.cell? ⟨w.heap.size, 0, none⟩ = some (.int .i64 wd) := hx8.cell c0; replace c1 : w8.cell? ⟨w.heap.size, 1, none⟩ = some (.slice ao Ls.length cap) := hx8.cell c1; replace hc := hx8.cell hc; replace HF := Lib.hid (HF.out.ext hx8); replace hx8 := hx5.trans hx8) | (go_at_call 35; refine (rwide_any _ _).mono ?_; rintro e w4 ⟨rfl, rfl⟩) | (go_at_call 39; refine (rbeneath_any wd _ Ls R i _ (HV.out.ext hx8) hil).mono ?_; rintro e w9 ⟨rfl, hx9⟩; replace c0 : w9.cell? ⟨w.heap.size, 0, none⟩ = some (.int .i64 wd) := hx9.cell c0; replace c1 : w9.cell? ⟨w.heap.size, 1, none⟩ = some (.slice ao Ls.length cap) := hx9.cell c1; replace hc := hx9.cell hc; replace HF := Lib.hid (HF.out.ext hx9); replace hx9 := hx8.trans hx9) | (go_at_call 24; refine (error_any 2 2 _ (HG.out.ext hx9)).mono ?_; rintro e w10 ⟨rfl, hx10⟩))
    go_ret
    exact ⟨rfl, hx9.trans hx10⟩
  have b2 : ((y.length : Int) != beneath wd Ls i) = false := by rw [bne_eq_false_iff_eq]; exact d2
  have HD := Lib.hid (show fitsB wd Ls i z x y = true from decide_eq_true ⟨d0, d1, d2⟩)
  have HBP := Lib.hid (below_pow HSZ.out hil)
  have HBB := Lib.hid (beneath_bd HSZ.out hil)
  have HWP := Lib.hid (wideOf_pow (HSZ.out.2.2.2.2 i hil))
  have hwb := wideOf_bd (nthY Ls i).length
  have HLZ := Lib.hid (show z.length ≤ 30 by omega)
  have HLX := Lib.hid (show x.length ≤ 30 by have := HBB.out; omega)
  have HLY := Lib.hid (show y.length ≤ 30 by have := HBB.out; omega)
  have HEZ := Lib.hid (show (nthY Ls i).length = 2 ^ z.length by have h1 := HWP.out; rw [← d0, Int.toNat_natCast] at h1; exact_mod_cast h1)
  have HEX := Lib.hid (show below wd Ls i = 2 ^ x.length by have h1 := HBP.out; rw [← d1, Int.toNat_natCast] at h1; exact h1)
  have HEY := Lib.hid (show below wd Ls i = 2 ^ y.length by have h1 := HBP.out; rw [← d2, Int.toNat_natCast] at h1; exact h1)
  have HGT := Lib.hid (cirErr_ok HCE.out).2
  clear d0 d1 d2 hwb
  generalize hN : wireU (nthY Ls i) kind z x y (nthY Ls i).length % p = N
  have HN := Lib.hid hN; clear hN
  have hbe : (N == N) = true := beq_self_eq_true N
  go_wp2_with (first | (go_at_call 38; refine (Wire_ok wd _ _ _ _ Ls R i kind z x y _ HF.out (HV.out.ext hx5) HCE.out hil HK.out (HZ.out.ext hx5) (HXX.out.ext hx5) (HY.out.ext hx5) HD.out).mono ?_; rw [HN.out]; rintro e w8 ⟨rfl, hx8⟩; replace c0 : w8.cell? ⟨w.heap.size, 0, none⟩ = some (.int .i64 wd) := hx8.cell c0; replace c1 : w8.cell? ⟨w.heap.size, 1, none⟩ = some (.slice ao Ls.length cap) := hx8.cell c1; replace hc := hx8.cell hc; replace HF := Lib.hid (HF.out.ext hx8); replace hx8 := hx5.trans hx8) | (go_at_call 35; refine (rwide_any _ _).mono ?_; rintro e w4 ⟨rfl, rfl⟩) | (go_at_call 39; refine (rbeneath_any wd _ Ls R i _ (HV.out.ext hx8) hil).mono ?_; rintro e w9 ⟨rfl, hx9⟩; replace c0 : w9.cell? ⟨w.heap.size, 0, none⟩ = some (.int .i64 wd) := hx9.cell c0; replace c1 : w9.cell? ⟨w.heap.size, 1, none⟩ = some (.slice ao Ls.length cap) := hx9.cell c1; replace hc := hx9.cell hc; replace HF := Lib.hid (HF.out.ext hx9); replace hx9 := hx8.trans hx9) | (go_at_call 24; refine (error_any 0 0 _ (HG.out.ext hx9)).mono ?_; rintro e w10 ⟨rfl, hx10⟩; replace c0 : w10.cell? ⟨w.heap.size, 0, none⟩ = some (.int .i64 wd) := hx10.cell c0; replace c1 : w10.cell? ⟨w.heap.size, 1, none⟩ = some (.slice ao Ls.length cap) := hx10.cell c1; replace hc := hx10.cell hc; replace hx10 := hx9.trans hx10) | (go_at_call 40; refine (rwire_any p _ (nthY Ls i) kind vz vx vy z x y (below wd Ls i) hp2 hip ((HV.out.row i hil).ext hx10) (HGT.out i hil) (HZ.out.ext hx10) (HXX.out.ext hx10) (HY.out.ext hx10) HLZ.out HLX.out HLY.out HEZ.out HEX.out HEY.out).mono ?_; rw [HN.out]; rintro e w11 ⟨rfl, hx11⟩))
  go_ret
  exact ⟨rfl, hx10.trans hx11⟩
set_option maxRecDepth 100000 in
set_option maxHeartbeats 4000000 in
theorem gatesValues_ok (p wd : Int) (lv vi vz vx vy : Value) (Ls : List (List Tri)) (R : Nat → Value) (inp z x y : List Int) (layer kind : Int) (w : World) (h : okP p) (hg : Hnd w) (hv : LysAt w lv Ls R) (hi : Ints w vi inp) (hz : Ints w vz z) (hx : Ints w vx x) (hy : Ints w vy y) (hE : cirErr wd Ls = 0) (hF : wideOf inp.length = wd) :
    Calls Tryd.prog 7 #[.int .i64 p, .agg #[.int .i64 wd, lv], vi, .int .i64 layer, .int .i64 kind, vz, vx, vy] w fun e w' => e = .returned (.bool true) ∧ Ext w w' := by
  have H := Lib.hid h; have HG := Lib.hid hg; have HV := Lib.hid hv; have HI := Lib.hid hi; have HZ := Lib.hid hz; have HXX := Lib.hid hx; have HY := Lib.hid hy
  obtain ⟨hpp, lo, hip⟩ := h
  have hp2 : 2 ≤ p := by omega
  have hlen := hv.len
  have hll := hv.run_len (P := Tryd.prog) slLayers
  have hli := hi.run_len (P := Tryd.prog) slInts
  have hlz := hz.run_len (P := Tryd.prog) slInts
  have hlx := hx.run_len (P := Tryd.prog) slInts
  have hly := hy.run_len (P := Tryd.prog) slInts
  obtain ⟨ao, cap, rfl⟩ := hv.shape
  have c0 := cell_new w #[.int .i64 wd, .slice ao Ls.length cap] 80 0
  have c1 := cell_new w #[.int .i64 wd, .slice ao Ls.length cap] 80 1
  clear hpp hg hv hi hz hx hy
  have HCE := Lib.hid hE
  have HSZ := Lib.hid (cirErr_ok hE).1
  have HW := Lib.hid (walkErr_nil hE hF).1
  have HIN := Lib.hid (walkErr_nil hE hF).2
  have b9 : (wideOf inp.length != wd) = false := by rw [bne_eq_false_iff_eq]; exact hF
  clear hE hF
  go_enter Tryd.func7, Tryd.ntmps7
  go_wp2_with (first | (go_at_call 13; refine (sfield_ok _ _ H.out (HG.out.ext (Ext.alloc _ _))).mono ?_; rintro e w1 ⟨v, rfl, hx1, f, g0, rfl, hf⟩; obtain ⟨bf, rfl⟩ := hf.ptr; obtain ⟨fs, hfs⟩ := hf.fld; replace c0 : w1.cell? ⟨w.heap.size, 0, none⟩ = some (.int .i64 wd) := hx1.cell c0; replace c1 : w1.cell? ⟨w.heap.size, 1, none⟩ = some (.slice ao Ls.length cap) := hx1.cell c1; replace hx1 := (Ext.alloc _ _).trans hx1; have HF := Lib.hid hfs; clear hf hfs) | (go_at_call 33; refine (values_ok HF.out wd _ _ Ls R inp (HV.out.ext hx1) (HI.out.ext hx1) HW.out).mono ?_; rintro e w2 ⟨v2, rfl, hx2, u, rfl, hr1⟩; have HR1 := Lib.hid hr1; clear hr1; replace c0 : w2.cell? ⟨w.heap.size, 0, none⟩ = some (.int .i64 wd) := hx2.cell c0; replace c1 : w2.cell? ⟨w.heap.size, 1, none⟩ = some (.slice ao Ls.length cap) := hx2.cell c1; replace HF := Lib.hid (HF.out.ext hx2); replace hx2 := hx1.trans hx2) | (go_at_call 34; refine (rfaultc_any wd _ Ls R _ (HV.out.ext hx2)).mono ?_; rw [HCE.out]; rintro e w3 ⟨rfl, hx3⟩; replace c0 : w3.cell? ⟨w.heap.size, 0, none⟩ = some (.int .i64 wd) := hx3.cell c0; replace c1 : w3.cell? ⟨w.heap.size, 1, none⟩ = some (.slice ao Ls.length cap) := hx3.cell c1; replace HR1 := Lib.hid (HR1.out.ext hx3); replace HF := Lib.hid (HF.out.ext hx3); replace hx3 := hx2.trans hx3) | (go_at_call 35; refine (rwide_any _ _).mono ?_; rintro e w4 ⟨rfl, rfl⟩))
  refine (error_any 0 0 _ (HG.out.ext hx3)).mono ?_
  rintro e w5 ⟨rfl, hx5⟩
  replace c0 : w5.cell? ⟨w.heap.size, 0, none⟩ = some (.int .i64 wd) := hx5.cell c0
  replace c1 : w5.cell? ⟨w.heap.size, 1, none⟩ = some (.slice ao Ls.length cap) := hx5.cell c1
  replace HR1 := Lib.hid (HR1.out.ext hx5)
  replace HF := Lib.hid (HF.out.ext hx5)
  replace hx5 := hx3.trans hx5
  go_wp2_with (first | (go_at_call 36; refine (rvalues_any p wd _ _ Ls R inp _ hp2 hip (HV.out.ext hx5) (HI.out.ext hx5) HCE.out HIN.out).mono ?_; rintro e w6 ⟨v6, rfl, hx6, hr6⟩; have HR2 := Lib.hid hr6; clear hr6; replace c0 : w6.cell? ⟨w.heap.size, 0, none⟩ = some (.int .i64 wd) := hx6.cell c0; replace c1 : w6.cell? ⟨w.heap.size, 1, none⟩ = some (.slice ao Ls.length cap) := hx6.cell c1; replace HR1 := Lib.hid (HR1.out.ext hx6); replace HF := Lib.hid (HF.out.ext hx6); replace hx6 := hx5.trans hx6) | (go_at_call 37; refine (srows_any _ _ _ _ _ HR1.out HR2.out).mono ?_; rw [show decide (vals p Ls inp Ls.length = vals p Ls inp Ls.length) = true from decide_eq_true rfl]; rintro e w7 hrd; obtain ⟨rfl, hx7⟩ := hrd.ext; clear hrd; replace c0 : w7.cell? ⟨w.heap.size, 0, none⟩ = some (.int .i64 wd) := hx7.cell c0; replace c1 : w7.cell? ⟨w.heap.size, 1, none⟩ = some (.slice ao Ls.length cap) := hx7.cell c1; replace HF := Lib.hid (HF.out.ext hx7); replace hx7 := hx6.trans hx7))
  by_cases s0 : layer < 0
  · have HD := Lib.hid (show layB layer Ls.length = false ∨ kindB kind = false from .inl (decide_eq_false (by omega)))
    go_wp2_with (first | (go_at_call 38; refine (Wire_e3 _ wd _ _ _ _ Ls R layer kind _ (HV.out.ext hx7) HCE.out HD.out).mono ?_; rintro e w8 ⟨rfl, hx8⟩; replace c0 : w8.cell? ⟨w.heap.size, 0, none⟩ = some (.int .i64 wd) := hx8.cell c0; replace c1 : w8.cell? ⟨w.heap.size, 1, none⟩ = some (.slice ao Ls.length cap) := hx8.cell c1; replace hx8 := hx7.trans hx8) | (go_at_call 24; refine (error_any 3 3 _ (HG.out.ext hx8)).mono ?_; rintro e w9 ⟨rfl, hx9⟩))
    go_ret
    exact ⟨rfl, hx8.trans hx9⟩
  by_cases s1 : (Ls.length : Int) ≤ layer
  · have HD := Lib.hid (show layB layer Ls.length = false ∨ kindB kind = false from .inl (decide_eq_false (by omega)))
    go_wp2_with (first | (go_at_call 38; refine (Wire_e3 _ wd _ _ _ _ Ls R layer kind _ (HV.out.ext hx7) HCE.out HD.out).mono ?_; rintro e w8 ⟨rfl, hx8⟩; replace c0 : w8.cell? ⟨w.heap.size, 0, none⟩ = some (.int .i64 wd) := hx8.cell c0; replace c1 : w8.cell? ⟨w.heap.size, 1, none⟩ = some (.slice ao Ls.length cap) := hx8.cell c1; replace hx8 := hx7.trans hx8) | (go_at_call 24; refine (error_any 3 3 _ (HG.out.ext hx8)).mono ?_; rintro e w9 ⟨rfl, hx9⟩))
    go_ret
    exact ⟨rfl, hx8.trans hx9⟩
  by_cases s2 : kind < 0
  · have HD := Lib.hid (show layB layer Ls.length = false ∨ kindB kind = false from .inr (decide_eq_false (by omega)))
    go_wp2_with (first | (go_at_call 38; refine (Wire_e3 _ wd _ _ _ _ Ls R layer kind _ (HV.out.ext hx7) HCE.out HD.out).mono ?_; rintro e w8 ⟨rfl, hx8⟩; replace c0 : w8.cell? ⟨w.heap.size, 0, none⟩ = some (.int .i64 wd) := hx8.cell c0; replace c1 : w8.cell? ⟨w.heap.size, 1, none⟩ = some (.slice ao Ls.length cap) := hx8.cell c1; replace hx8 := hx7.trans hx8) | (go_at_call 24; refine (error_any 3 3 _ (HG.out.ext hx8)).mono ?_; rintro e w9 ⟨rfl, hx9⟩))
    go_ret
    exact ⟨rfl, hx8.trans hx9⟩
  by_cases s3 : 1 < kind
  · have HD := Lib.hid (show layB layer Ls.length = false ∨ kindB kind = false from .inr (decide_eq_false (by omega)))
    go_wp2_with (first | (go_at_call 38; refine (Wire_e3 _ wd _ _ _ _ Ls R layer kind _ (HV.out.ext hx7) HCE.out HD.out).mono ?_; rintro e w8 ⟨rfl, hx8⟩; replace c0 : w8.cell? ⟨w.heap.size, 0, none⟩ = some (.int .i64 wd) := hx8.cell c0; replace c1 : w8.cell? ⟨w.heap.size, 1, none⟩ = some (.slice ao Ls.length cap) := hx8.cell c1; replace hx8 := hx7.trans hx8) | (go_at_call 24; refine (error_any 3 3 _ (HG.out.ext hx8)).mono ?_; rintro e w9 ⟨rfl, hx9⟩))
    go_ret
    exact ⟨rfl, hx8.trans hx9⟩
  obtain ⟨i, rfl⟩ := Int.eq_ofNat_of_zero_le (show 0 ≤ layer by omega)
  have hil : i < Ls.length := by omega
  have HK := Lib.hid (show kindB kind = true from decide_eq_true (by omega))
  have hix := HV.out.run_index (P := Tryd.prog) slLayers i hil
  have hc := (HV.out.ext hx7).cell i hil
  have hln := (HV.out.row i hil).run_len (P := Tryd.prog) slGates
  have hrl := (HV.out.row i hil).len
  by_cases d0 : (z.length : Int) = wideOf (nthY Ls i).length
  case neg =>
    have HD := Lib.hid (show fitsB wd Ls i z x y = false from decide_eq_false fun hh => d0 hh.1)
    have b0 : ((z.length : Int) != wideOf (nthY Ls i).length) = true := by rw [bne_iff_ne]; exact d0
    clear d0
    go_wp2_with (first | (go_at_call 38; refine (Wire_e2 _ wd _ _ _ _ Ls R i kind z x y _ (HV.out.ext hx7) HCE.out hil HK.out (HZ.out.ext hx7) (HXX.out.ext hx7) (HY.out.ext hx7) HD.out).mono ?_; rintro e w8 ⟨rfl, hx8⟩; replace c0 : w8.cell? ⟨w.heap.size, 0, none⟩ = some (.int .i64 wd) := hx8.cell c0; replace c1 : w8.cell? ⟨w.heap.size, 1, none⟩ = some (.slice ao Ls.length cap) := hx8.cell c1; replace hc := hx8.cell hc; replace HF := Lib.hid (HF.out.ext hx8); replace hx8 := hx7.trans hx8) | (go_at_call 35; refine (rwide_any _ _).mono ?_; rintro e w4 ⟨rfl, rfl⟩) | (go_at_call 39; refine (rbeneath_any wd _ Ls R i _ (HV.out.ext hx8) hil).mono ?_; rintro e w9 ⟨rfl, hx9⟩; replace c0 : w9.cell? ⟨w.heap.size, 0, none⟩ = some (.int .i64 wd) := hx9.cell c0; replace c1 : w9.cell? ⟨w.heap.size, 1, none⟩ = some (.slice ao Ls.length cap) := hx9.cell c1; replace hc := hx9.cell hc; replace HF := Lib.hid (HF.out.ext hx9); replace hx9 := hx8.trans hx9) | (go_at_call 24; refine (error_any 2 2 _ (HG.out.ext hx9)).mono ?_; rintro e w10 ⟨rfl, hx10⟩))
    go_ret
    exact ⟨rfl, hx9.trans hx10⟩
  have b0 : ((z.length : Int) != wideOf (nthY Ls i).length) = false := by rw [bne_eq_false_iff_eq]; exact d0
  by_cases d1 : (x.length : Int) = beneath wd Ls i
  case neg =>
    have HD := Lib.hid (show fitsB wd Ls i z x y = false from decide_eq_false fun hh => d1 hh.2.1)
    have b1 : ((x.length : Int) != beneath wd Ls i) = true := by rw [bne_iff_ne]; exact d1
    clear d0 d1
    go_wp2_with (first | (go_at_call 38; refine (Wire_e2 _ wd _ _ _ _ Ls R i kind z x y _ (HV.out.ext hx7) HCE.out hil HK.out (HZ.out.ext hx7) (HXX.out.ext hx7) (HY.out.ext hx7) HD.out).mono ?_; rintro e w8 ⟨rfl, hx8⟩; replace c0 : w8.cell? ⟨w.heap.size, 0, none⟩ = some (.int .i64 wd) := hx8.cell c0; replace c1 : w8.cell? ⟨w.heap.size, 1, none⟩ = some (.slice ao Ls.length cap) := hx8.cell c1; replace hc := hx8.cell hc; replace HF := Lib.hid (HF.out.ext hx8); replace hx8 := hx7.trans hx8) | (go_at_call 35; refine (rwide_any _ _).mono ?_; rintro e w4 ⟨rfl, rfl⟩) | (go_at_call 39; refine (rbeneath_any wd _ Ls R i _ (HV.out.ext hx8) hil).mono ?_; rintro e w9 ⟨rfl, hx9⟩; replace c0 : w9.cell? ⟨w.heap.size, 0, none⟩ = some (.int .i64 wd) := hx9.cell c0; replace c1 : w9.cell? ⟨w.heap.size, 1, none⟩ = some (.slice ao Ls.length cap) := hx9.cell c1; replace hc := hx9.cell hc; replace HF := Lib.hid (HF.out.ext hx9); replace hx9 := hx8.trans hx9) | (go_at_call 24; refine (error_any 2 2 _ (HG.out.ext hx9)).mono ?_; rintro e w10 ⟨rfl, hx10⟩))
    go_ret
    exact ⟨rfl, hx9.trans hx10⟩
  have b1 : ((x.length : Int) != beneath wd Ls i) = false := by rw [bne_eq_false_iff_eq]; exact d1
  by_cases d2 : (y.length : Int) = beneath wd Ls i
  case neg =>
    have HD := Lib.hid (show fitsB wd Ls i z x y = false from decide_eq_false fun hh => d2 hh.2.2)
    have b2 : ((y.length : Int) != beneath wd Ls i) = true := by rw [bne_iff_ne]; exact d2
    clear d0 d1 d2
    go_wp2_with (first | (go_at_call 38; refine (Wire_e2 _ wd _ _ _ _ Ls R i kind z x y _ (HV.out.ext hx7) HCE.out hil HK.out (HZ.out.ext hx7) (HXX.out.ext hx7) (HY.out.ext hx7) HD.out).mono ?_; rintro e w8 ⟨rfl, hx8⟩; replace c0 : w8.cell? ⟨w.heap.size, 0, none⟩ = some (.int .i64 wd) := hx8.cell c0; replace c1 : w8.cell? ⟨w.heap.size, 1, none⟩ = some (.slice ao Ls.length cap) := hx8.cell c1; replace hc := hx8.cell hc; replace HF := Lib.hid (HF.out.ext hx8); replace hx8 := hx7.trans hx8) | (go_at_call 35; refine (rwide_any _ _).mono ?_; rintro e w4 ⟨rfl, rfl⟩) | (go_at_call 39; refine (rbeneath_any wd _ Ls R i _ (HV.out.ext hx8) hil).mono ?_; rintro e w9 ⟨rfl, hx9⟩; replace c0 : w9.cell? ⟨w.heap.size, 0, none⟩ = some (.int .i64 wd) := hx9.cell c0; replace c1 : w9.cell? ⟨w.heap.size, 1, none⟩ = some (.slice ao Ls.length cap) := hx9.cell c1; replace hc := hx9.cell hc; replace HF := Lib.hid (HF.out.ext hx9); replace hx9 := hx8.trans hx9) | (go_at_call 24; refine (error_any 2 2 _ (HG.out.ext hx9)).mono ?_; rintro e w10 ⟨rfl, hx10⟩))
    go_ret
    exact ⟨rfl, hx9.trans hx10⟩
  have b2 : ((y.length : Int) != beneath wd Ls i) = false := by rw [bne_eq_false_iff_eq]; exact d2
  have HD := Lib.hid (show fitsB wd Ls i z x y = true from decide_eq_true ⟨d0, d1, d2⟩)
  have HBP := Lib.hid (below_pow HSZ.out hil)
  have HBB := Lib.hid (beneath_bd HSZ.out hil)
  have HWP := Lib.hid (wideOf_pow (HSZ.out.2.2.2.2 i hil))
  have hwb := wideOf_bd (nthY Ls i).length
  have HLZ := Lib.hid (show z.length ≤ 30 by omega)
  have HLX := Lib.hid (show x.length ≤ 30 by have := HBB.out; omega)
  have HLY := Lib.hid (show y.length ≤ 30 by have := HBB.out; omega)
  have HEZ := Lib.hid (show (nthY Ls i).length = 2 ^ z.length by have h1 := HWP.out; rw [← d0, Int.toNat_natCast] at h1; exact_mod_cast h1)
  have HEX := Lib.hid (show below wd Ls i = 2 ^ x.length by have h1 := HBP.out; rw [← d1, Int.toNat_natCast] at h1; exact h1)
  have HEY := Lib.hid (show below wd Ls i = 2 ^ y.length by have h1 := HBP.out; rw [← d2, Int.toNat_natCast] at h1; exact h1)
  have HGT := Lib.hid (cirErr_ok HCE.out).2
  clear d0 d1 d2 hwb
  generalize hN : wireU (nthY Ls i) kind z x y (nthY Ls i).length % p = N
  have HN := Lib.hid hN; clear hN
  have hbe : (N == N) = true := beq_self_eq_true N
  go_wp2_with (first | (go_at_call 38; refine (Wire_ok wd _ _ _ _ Ls R i kind z x y _ HF.out (HV.out.ext hx7) HCE.out hil HK.out (HZ.out.ext hx7) (HXX.out.ext hx7) (HY.out.ext hx7) HD.out).mono ?_; rw [HN.out]; rintro e w8 ⟨rfl, hx8⟩; replace c0 : w8.cell? ⟨w.heap.size, 0, none⟩ = some (.int .i64 wd) := hx8.cell c0; replace c1 : w8.cell? ⟨w.heap.size, 1, none⟩ = some (.slice ao Ls.length cap) := hx8.cell c1; replace hc := hx8.cell hc; replace HF := Lib.hid (HF.out.ext hx8); replace hx8 := hx7.trans hx8) | (go_at_call 35; refine (rwide_any _ _).mono ?_; rintro e w4 ⟨rfl, rfl⟩) | (go_at_call 39; refine (rbeneath_any wd _ Ls R i _ (HV.out.ext hx8) hil).mono ?_; rintro e w9 ⟨rfl, hx9⟩; replace c0 : w9.cell? ⟨w.heap.size, 0, none⟩ = some (.int .i64 wd) := hx9.cell c0; replace c1 : w9.cell? ⟨w.heap.size, 1, none⟩ = some (.slice ao Ls.length cap) := hx9.cell c1; replace hc := hx9.cell hc; replace HF := Lib.hid (HF.out.ext hx9); replace hx9 := hx8.trans hx9) | (go_at_call 24; refine (error_any 0 0 _ (HG.out.ext hx9)).mono ?_; rintro e w10 ⟨rfl, hx10⟩; replace c0 : w10.cell? ⟨w.heap.size, 0, none⟩ = some (.int .i64 wd) := hx10.cell c0; replace c1 : w10.cell? ⟨w.heap.size, 1, none⟩ = some (.slice ao Ls.length cap) := hx10.cell c1; replace hc := hx10.cell hc; replace hx10 := hx9.trans hx10) | (go_at_call 40; refine (rwire_any p _ (nthY Ls i) kind vz vx vy z x y (below wd Ls i) hp2 hip ((HV.out.row i hil).ext hx10) (HGT.out i hil) (HZ.out.ext hx10) (HXX.out.ext hx10) (HY.out.ext hx10) HLZ.out HLX.out HLY.out HEZ.out HEX.out HEY.out).mono ?_; rw [HN.out]; rintro e w11 ⟨rfl, hx11⟩))
  go_ret
  exact ⟨rfl, hx10.trans hx11⟩
end Go.Proofs.YthjemncbphdomaaDoor
