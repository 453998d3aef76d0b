/- GatesLayer: a layer is the sum over its wires, at any point: the law's walk: for every input it returns true and leaves all that was there as it was. -/
import Derived.Test.YthjemncbphdomaaDoorP7
import Derived.Test.YthjemncbphdomaaDoorFc
namespace Go.Proofs.YthjemncbphdomaaDoor
open Go.RowKit Go.Att

set_option maxRecDepth 100000 in
set_option maxHeartbeats 4000000 in
theorem gatesLayer_bad (p : Int) (c v2 v3 v4 v5 v6 : Value) (w : World) (wd : Int) (lv : Value) (hc : c = .agg #[.int .i64 wd, lv]) (h : ¬ okP p) (hg : Hnd w) :
    Calls Tryd.prog 10 #[.int .i64 p, c, v2, v3, v4, v5, v6] w fun e w' => e = .returned (.bool true) ∧ Ext w w' := by
  subst hc
  have H := Lib.hid h; have HG := Lib.hid hg; clear h hg
  go_enter Tryd.func10, Tryd.ntmps10
  go_wp2_with (go_at_call 13; refine (sfield_bad _ _ H.out (HG.out.ext (Ext.alloc _ _))).mono ?_; rintro e w' ⟨v, rfl, hx, rfl⟩)
  go_ret
  exact ⟨rfl, (Ext.alloc _ _).trans hx⟩


set_option maxRecDepth 100000 in
set_option maxHeartbeats 4000000 in
theorem gatesLayer_w (p wd : Int) (lv vi vz vx rv : Value) (Ls : List (List Tri)) (R : Nat → Value) (inp z xs : List Int) (layer : Int) (w : World) (h : okP p) (hg : Hnd w) (hv : LysAt w lv Ls R) (hi : Ints w vi inp) (hz : Ints w vz z) (hx : Ints w vx xs) (hE : walkErr wd Ls inp.length ≠ 0) :
    Calls Tryd.prog 10 #[.int .i64 p, .agg #[.int .i64 wd, lv], .int .i64 layer, vi, vz, vx, rv] w fun e w' => e = .returned (.bool true) ∧ Ext w w' := by
  have H := Lib.hid h; have HG := Lib.hid hg; have HV := Lib.hid hv; have HI := Lib.hid hi; have HZ := Lib.hid hz; have HXX := Lib.hid hx
  obtain ⟨hpp, lo, hip⟩ := h
  have hp2 : 2 ≤ p := by omega
  have hlen := hv.len
  have hlx := hx.run_len (P := Tryd.prog) slInts
  have hxl := hx.len
  have HW1 := Lib.hid oneC_walk
  have HR1 := Lib.hid (oneC_row hp2)
  obtain ⟨ao, cap, rfl⟩ := hv.shape
  have c0 := cell_new w #[.int .i64 wd, .slice ao Ls.length cap] 80 0
  have c1 := cell_new w #[.int .i64 wd, .slice ao Ls.length cap] 80 1
  clear hpp hg hv hi hz hx
  have HW := Lib.hid hE
  have EP := Lib.hid (errv_pos hE)
  clear hE
  go_enter Tryd.func10, Tryd.ntmps10
  go_wp2_with (go_at_call 13; refine (sfield_ok _ _ H.out (HG.out.ext (Ext.alloc _ _))).mono ?_; rintro e w1 ⟨v, rfl, hx1, f, g0, rfl, hf⟩; obtain ⟨bf, rfl⟩ := hf.ptr; obtain ⟨fs, hfs⟩ := hf.fld; replace c0 : w1.cell? ⟨w.heap.size, 0, none⟩ = some (.int .i64 wd) := hx1.cell c0; replace c1 : w1.cell? ⟨w.heap.size, 1, none⟩ = some (.slice ao Ls.length cap) := hx1.cell c1; replace hx1 := (Ext.alloc _ _).trans hx1; have HF := Lib.hid hfs; clear hf hfs)
  have hxa := (Ext.alloc w1 (Obj.cells #[.int .i64 1, .int .i64 0, .int .i64 0] 104)).trans ((Ext.alloc _ (Obj.cells #[.slice (some ⟨w1.heap.size, 0, none⟩) 1 1] 89)).trans (Ext.alloc _ (Obj.cells #[.int .i64 1] 3)))
  have IL := ints_lit ((w1.alloc (Obj.cells #[.int .i64 1, .int .i64 0, .int .i64 0] 104)).alloc (Obj.cells #[.slice (some ⟨w1.heap.size, 0, none⟩) 1 1] 89)) 1 3
  rw [show ((w1.alloc (Obj.cells #[.int .i64 1, .int .i64 0, .int .i64 0] 104)).alloc (Obj.cells #[.slice (some ⟨w1.heap.size, 0, none⟩) 1 1] 89)).heap.size = w1.heap.size + 1 + 1 by simp] at IL
  refine (values_ok (HF.out.ext hxa) 0 _ _ oneC _ [1] ((lys_one w1 104 89).ext (Ext.alloc _ _)) IL HW1.out).mono ?_
  rintro e w2 ⟨v2, rfl, hx2, u2, rfl, S2, hr2⟩
  replace hx2 := hxa.trans hx2
  replace c0 : w2.cell? ⟨w.heap.size, 0, none⟩ = some (.int .i64 wd) := hx2.cell c0
  replace c1 : w2.cell? ⟨w.heap.size, 1, none⟩ = some (.slice ao Ls.length cap) := hx2.cell c1
  replace HF := Lib.hid (HF.out.ext hx2)
  replace hx2 := hx1.trans hx2
  have hlu := hr2.run_len (P := Tryd.prog) slRows
  have hvl2 : 1 < (vals p oneC [1] oneC.length).length := by rw [vals_length]; decide
  have hiu := hr2.run_index (P := Tryd.prog) slRows 1 hvl2
  have hcu := hr2.cell 1 hvl2
  have hru := hr2.row 1 hvl2
  rw [vals_nth _ _ _ (by decide), HR1.out] at hru
  rw [vals_length, show ((oneC.length + 1 : Nat) : Int) = 2 from rfl] at hlu
  have hlr := hru.run_len (P := Tryd.prog) slInts
  have hir := hru.run_index (P := Tryd.prog) slInts 0 (by decide)
  have hcr := hru.cell 0 (by decide)
  rw [show nth [1] 0 = 1 from rfl] at hcr
  rw [show ((([1] : List Int).length : Nat) : Int) = 1 from rfl] at hlr
  rw [show ((1 : Nat) : Int) = 1 from rfl] at hiu
  rw [show ((0 : Nat) : Int) = 0 from rfl] at hir
  clear hr2 hru hvl2 hxa
  go_wp2_with (go_at_call 33; refine (values_bad _ wd _ _ Ls R inp _ (HV.out.ext hx2) (HI.out.ext hx2) HW.out).mono ?_; rw [EP.out]; rintro e w3 ⟨rfl, hx3⟩; replace hx3 := hx2.trans hx3)
  go_ret
  exact ⟨rfl, hx3⟩

set_option maxRecDepth 100000 in
set_option maxHeartbeats 4000000 in
theorem gatesLayer_p (p wd : Int) (lv vi vz vx rv : Value) (Ls : List (List Tri)) (R : Nat → Value) (inp z xs : List Int) (layer : Int) (w : World) (h : okP p) (hg : Hnd w) (hv : LysAt w lv Ls R) (hi : Ints w vi inp) (hz : Ints w vz z) (hx : Ints w vx xs) (hE : walkErr wd Ls inp.length = 0) (hP : partErr wd Ls inp.length layer z.length 0 ≠ 0) :
    Calls Tryd.prog 10 #[.int .i64 p, .agg #[.int .i64 wd, lv], .int .i64 layer, vi, vz, vx, rv] w fun e w' => e = .returned (.bool true) ∧ Ext w w' := by
  have H := Lib.hid h; have HG := Lib.hid hg; have HV := Lib.hid hv; have HI := Lib.hid hi; have HZ := Lib.hid hz; have HXX := Lib.hid hx
  obtain ⟨hpp, lo, hip⟩ := h
  have hp2 : 2 ≤ p := by omega
  have hlen := hv.len
  have hlx := hx.run_len (P := Tryd.prog) slInts
  have hxl := hx.len
  have HW1 := Lib.hid oneC_walk
  have HR1 := Lib.hid (oneC_row hp2)
  obtain ⟨ao, cap, rfl⟩ := hv.shape
  have c0 := cell_new w #[.int .i64 wd, .slice ao Ls.length cap] 80 0
  have c1 := cell_new w #[.int .i64 wd, .slice ao Ls.length cap] 80 1
  clear hpp hg hv hi hz hx
  have HW := Lib.hid hE
  have HPE := Lib.hid (show partErr wd Ls inp.length layer z.length ([] : List Int).length = partErr wd Ls inp.length layer z.length 0 from rfl)
  have HPR := Lib.hid (partR_bad (p := p) (inp := inp) (z := z) (xs := []) HPE.out hP)
  have EP := Lib.hid (errv_pos hP)
  clear hE hP
  go_enter Tryd.func10, Tryd.ntmps10
  go_wp2_with (go_at_call 13; refine (sfield_ok _ _ H.out (HG.out.ext (Ext.alloc _ _))).mono ?_; rintro e w1 ⟨v, rfl, hx1, f, g0, rfl, hf⟩; obtain ⟨bf, rfl⟩ := hf.ptr; obtain ⟨fs, hfs⟩ := hf.fld; replace c0 : w1.cell? ⟨w.heap.size, 0, none⟩ = some (.int .i64 wd) := hx1.cell c0; replace c1 : w1.cell? ⟨w.heap.size, 1, none⟩ = some (.slice ao Ls.length cap) := hx1.cell c1; replace hx1 := (Ext.alloc _ _).trans hx1; have HF := Lib.hid hfs; clear hf hfs)
  have hxa := (Ext.alloc w1 (Obj.cells #[.int .i64 1, .int .i64 0, .int .i64 0] 104)).trans ((Ext.alloc _ (Obj.cells #[.slice (some ⟨w1.heap.size, 0, none⟩) 1 1] 89)).trans (Ext.alloc _ (Obj.cells #[.int .i64 1] 3)))
  have IL := ints_lit ((w1.alloc (Obj.cells #[.int .i64 1, .int .i64 0, .int .i64 0] 104)).alloc (Obj.cells #[.slice (some ⟨w1.heap.size, 0, none⟩) 1 1] 89)) 1 3
  rw [show ((w1.alloc (Obj.cells #[.int .i64 1, .int .i64 0, .int .i64 0] 104)).alloc (Obj.cells #[.slice (some ⟨w1.heap.size, 0, none⟩) 1 1] 89)).heap.size = w1.heap.size + 1 + 1 by simp] at IL
  refine (values_ok (HF.out.ext hxa) 0 _ _ oneC _ [1] ((lys_one w1 104 89).ext (Ext.alloc _ _)) IL HW1.out).mono ?_
  rintro e w2 ⟨v2, rfl, hx2, u2, rfl, S2, hr2⟩
  replace hx2 := hxa.trans hx2
  replace c0 : w2.cell? ⟨w.heap.size, 0, none⟩ = some (.int .i64 wd) := hx2.cell c0
  replace c1 : w2.cell? ⟨w.heap.size, 1, none⟩ = some (.slice ao Ls.length cap) := hx2.cell c1
  replace HF := Lib.hid (HF.out.ext hx2)
  replace hx2 := hx1.trans hx2
  have hlu := hr2.run_len (P := Tryd.prog) slRows
  have hvl2 : 1 < (vals p oneC [1] oneC.length).length := by rw [vals_length]; decide
  have hiu := hr2.run_index (P := Tryd.prog) slRows 1 hvl2
  have hcu := hr2.cell 1 hvl2
  have hru := hr2.row 1 hvl2
  rw [vals_nth _ _ _ (by decide), HR1.out] at hru
  rw [vals_length, show ((oneC.length + 1 : Nat) : Int) = 2 from rfl] at hlu
  have hlr := hru.run_len (P := Tryd.prog) slInts
  have hir := hru.run_index (P := Tryd.prog) slInts 0 (by decide)
  have hcr := hru.cell 0 (by decide)
  rw [show nth [1] 0 = 1 from rfl] at hcr
  rw [show ((([1] : List Int).length : Nat) : Int) = 1 from rfl] at hlr
  rw [show ((1 : Nat) : Int) = 1 from rfl] at hiu
  rw [show ((0 : Nat) : Int) = 0 from rfl] at hir
  clear hr2 hru hvl2 hxa
  go_wp2_with (go_at_call 33; refine (values_ok HF.out wd _ _ Ls R inp (HV.out.ext hx2) (HI.out.ext hx2) HW.out).mono ?_; rintro e w3 ⟨v3, rfl, hx3, u3, rfl, S, hr3⟩; have HS := Lib.hid hr3; have hlv := hr3.run_len (P := Tryd.prog) slRows; rw [vals_length] at hlv; clear hr3; replace c0 : w3.cell? ⟨w.heap.size, 0, none⟩ = some (.int .i64 wd) := hx3.cell c0; replace c1 : w3.cell? ⟨w.heap.size, 1, none⟩ = some (.slice ao Ls.length cap) := hx3.cell c1; replace HF := Lib.hid (HF.out.ext hx3); replace hx3 := hx2.trans hx3)
  refine (Part_any HF.out wd _ _ _ _ Ls R inp z [] layer (HV.out.ext hx3) (HI.out.ext hx3) (HZ.out.ext hx3) (Ints.nil _)).mono ?_
  rw [HPR.out, HPE.out, EP.out]
  rintro e w4 ⟨rfl, hx4⟩
  replace c0 : w4.cell? ⟨w.heap.size, 0, none⟩ = some (.int .i64 wd) := hx4.cell c0
  replace c1 : w4.cell? ⟨w.heap.size, 1, none⟩ = some (.slice ao Ls.length cap) := hx4.cell c1
  replace HF := Lib.hid (HF.out.ext hx4)
  replace HS := Lib.hid (HS.out.ext hx4)
  replace hx4 := hx3.trans hx4
  go_wp2_with fail
  go_ret
  exact ⟨rfl, hx4⟩

set_option maxRecDepth 100000 in
set_option maxHeartbeats 4000000 in
theorem gatesLayer_a (p wd : Int) (lv vi vz vx rv : Value) (Ls : List (List Tri)) (R : Nat → Value) (inp z xs : List Int) (layer : Int) (w : World) (h : okP p) (hg : Hnd w) (hv : LysAt w lv Ls R) (hi : Ints w vi inp) (hz : Ints w vz z) (hx : Ints w vx xs) (hE : walkErr wd Ls inp.length = 0) (i : Nat) (hi2 : layer = i) (hP : partErr wd Ls inp.length i z.length 0 = 0) (hQ : partErr wd Ls inp.length i z.length xs.length ≠ 0) :
    Calls Tryd.prog 10 #[.int .i64 p, .agg #[.int .i64 wd, lv], .int .i64 layer, vi, vz, vx, rv] w fun e w' => e = .returned (.bool true) ∧ Ext w w' := by
  subst hi2
  have H := Lib.hid h; have HG := Lib.hid hg; have HV := Lib.hid hv; have HI := Lib.hid hi; have HZ := Lib.hid hz; have HXX := Lib.hid hx
  obtain ⟨hpp, lo, hip⟩ := h
  have hp2 : 2 ≤ p := by omega
  have hlen := hv.len
  have hlx := hx.run_len (P := Tryd.prog) slInts
  have hxl := hx.len
  have HW1 := Lib.hid oneC_walk
  have HR1 := Lib.hid (oneC_row hp2)
  obtain ⟨ao, cap, rfl⟩ := hv.shape
  have c0 := cell_new w #[.int .i64 wd, .slice ao Ls.length cap] 80 0
  have c1 := cell_new w #[.int .i64 wd, .slice ao Ls.length cap] 80 1
  clear hpp hg hv hi hz hx
  have HW := Lib.hid hE
  have hpo := partErr_ok hP
  rw [Int.toNat_natCast] at hpo
  have hil : i < Ls.length := by have := of_decide_eq_true hpo.2.1; omega
  have HCE := Lib.hid (walkErr_ok hE).1
  have HIN := Lib.hid (walkErr_ok hE).2
  have hlen8 : Ls.length ≤ 8 := (cirErr_ok HCE.out).1.2.2.2.1
  have hwb := wideOf_bd (nthY Ls i).length
  have hwp := wideOf_pow ((cirErr_ok HCE.out).1.2.2.2.2 i hil)
  rw [← hpo.2.2.1, Int.toNat_natCast] at hwp
  have HLZ := Lib.hid (show (nthY Ls i).length = 2 ^ z.length by exact_mod_cast hwp)
  have lz : z.length ≤ 12 := by have := hpo.2.2.1; omega
  obtain ⟨N, hN⟩ : ∃ N, partV p wd Ls inp i z [] = N := ⟨_, rfl⟩
  have HN1 := Lib.hid ((partR_ok (p := p) (inp := inp) (z := z) (xs := []) hP).trans hN)
  have HN2 := Lib.hid ((layer_sum HCE.out HIN.out hil z).symm.trans hN)
  have HPE := Lib.hid (show partErr wd Ls inp.length i z.length ([] : List Int).length = 0 from hP)
  have hbe : (N == N) = true := beq_self_eq_true N
  have hbn : (N != N) = false := by rw [bne_eq_false_iff_eq]
  have HQE := Lib.hid (show partErr wd Ls inp.length i z.length xs.length = partErr wd Ls inp.length i z.length xs.length from rfl)
  have HQR := Lib.hid (partR_bad (p := p) (inp := inp) (z := z) (xs := xs) HQE.out hQ)
  have EQ := Lib.hid (errv_pos hQ)
  clear hE hP hQ hN hwp hwb hpo
  go_enter Tryd.func10, Tryd.ntmps10
  go_wp2_with (go_at_call 13; refine (sfield_ok _ _ H.out (HG.out.ext (Ext.alloc _ _))).mono ?_; rintro e w1 ⟨v, rfl, hx1, f, g0, rfl, hf⟩; obtain ⟨bf, rfl⟩ := hf.ptr; obtain ⟨fs, hfs⟩ := hf.fld; replace c0 : w1.cell? ⟨w.heap.size, 0, none⟩ = some (.int .i64 wd) := hx1.cell c0; replace c1 : w1.cell? ⟨w.heap.size, 1, none⟩ = some (.slice ao Ls.length cap) := hx1.cell c1; replace hx1 := (Ext.alloc _ _).trans hx1; have HF := Lib.hid hfs; clear hf hfs)
  have hxa := (Ext.alloc w1 (Obj.cells #[.int .i64 1, .int .i64 0, .int .i64 0] 104)).trans ((Ext.alloc _ (Obj.cells #[.slice (some ⟨w1.heap.size, 0, none⟩) 1 1] 89)).trans (Ext.alloc _ (Obj.cells #[.int .i64 1] 3)))
  have IL := ints_lit ((w1.alloc (Obj.cells #[.int .i64 1, .int .i64 0, .int .i64 0] 104)).alloc (Obj.cells #[.slice (some ⟨w1.heap.size, 0, none⟩) 1 1] 89)) 1 3
  rw [show ((w1.alloc (Obj.cells #[.int .i64 1, .int .i64 0, .int .i64 0] 104)).alloc (Obj.cells #[.slice (some ⟨w1.heap.size, 0, none⟩) 1 1] 89)).heap.size = w1.heap.size + 1 + 1 by simp] at IL
  refine (values_ok (HF.out.ext hxa) 0 _ _ oneC _ [1] ((lys_one w1 104 89).ext (Ext.alloc _ _)) IL HW1.out).mono ?_
  rintro e w2 ⟨v2, rfl, hx2, u2, rfl, S2, hr2⟩
  replace hx2 := hxa.trans hx2
  replace c0 : w2.cell? ⟨w.heap.size, 0, none⟩ = some (.int .i64 wd) := hx2.cell c0
  replace c1 : w2.cell? ⟨w.heap.size, 1, none⟩ = some (.slice ao Ls.length cap) := hx2.cell c1
  replace HF := Lib.hid (HF.out.ext hx2)
  replace hx2 := hx1.trans hx2
  have hlu := hr2.run_len (P := Tryd.prog) slRows
  have hvl2 : 1 < (vals p oneC [1] oneC.length).length := by rw [vals_length]; decide
  have hiu := hr2.run_index (P := Tryd.prog) slRows 1 hvl2
  have hcu := hr2.cell 1 hvl2
  have hru := hr2.row 1 hvl2
  rw [vals_nth _ _ _ (by decide), HR1.out] at hru
  rw [vals_length, show ((oneC.length + 1 : Nat) : Int) = 2 from rfl] at hlu
  have hlr := hru.run_len (P := Tryd.prog) slInts
  have hir := hru.run_index (P := Tryd.prog) slInts 0 (by decide)
  have hcr := hru.cell 0 (by decide)
  rw [show nth [1] 0 = 1 from rfl] at hcr
  rw [show ((([1] : List Int).length : Nat) : Int) = 1 from rfl] at hlr
  rw [show ((1 : Nat) : Int) = 1 from rfl] at hiu
  rw [show ((0 : Nat) : Int) = 0 from rfl] at hir
  clear hr2 hru hvl2 hxa
  go_wp2_with (go_at_call 33; refine (values_ok HF.out wd _ _ Ls R inp (HV.out.ext hx2) (HI.out.ext hx2) HW.out).mono ?_; rintro e w3 ⟨v3, rfl, hx3, u3, rfl, S, hr3⟩; have HS := Lib.hid hr3; have hlv := hr3.run_len (P := Tryd.prog) slRows; rw [vals_length] at hlv; clear hr3; replace c0 : w3.cell? ⟨w.heap.size, 0, none⟩ = some (.int .i64 wd) := hx3.cell c0; replace c1 : w3.cell? ⟨w.heap.size, 1, none⟩ = some (.slice ao Ls.length cap) := hx3.cell c1; replace HF := Lib.hid (HF.out.ext hx3); replace hx3 := hx2.trans hx3)
  refine (Part_any HF.out wd _ _ _ _ Ls R inp z [] i (HV.out.ext hx3) (HI.out.ext hx3) (HZ.out.ext hx3) (Ints.nil _)).mono ?_
  rw [HN1.out, HPE.out, errv_zero]
  rintro e w4 ⟨rfl, hx4⟩
  replace c0 : w4.cell? ⟨w.heap.size, 0, none⟩ = some (.int .i64 wd) := hx4.cell c0
  replace c1 : w4.cell? ⟨w.heap.size, 1, none⟩ = some (.slice ao Ls.length cap) := hx4.cell c1
  replace HF := Lib.hid (HF.out.ext hx4)
  replace HS := Lib.hid (HS.out.ext hx4)
  replace hx4 := hx3.trans hx4
  have hvl : i + 1 < (vals p Ls inp Ls.length).length := by rw [vals_length]; omega
  have hiv := HS.out.run_index (P := Tryd.prog) slRows (i + 1) hvl
  have hcv := HS.out.cell (i + 1) hvl
  have hrv := HS.out.row (i + 1) hvl
  rw [vals_nth _ _ _ (by omega)] at hrv
  rw [show ((i + 1 : Nat) : Int) = (i : Int) + 1 by omega] at hiv
  have HRV := Lib.hid hrv
  clear hrv hvl HS
  go_wp2_with fail
  refine (sExtend_ok HF.out _ _ (vrow p Ls inp (i + 1)) z HRV.out (HZ.out.ext hx4) z.length lz (by rw [show (vrow p Ls inp (i + 1)).length = (nthY Ls i).length by simp [vrow]]; exact HLZ.out) rfl).mono ?_
  rw [HN2.out]
  rintro e w5 ⟨rfl, hx5⟩
  replace c0 : w5.cell? ⟨w.heap.size, 0, none⟩ = some (.int .i64 wd) := hx5.cell c0
  replace c1 : w5.cell? ⟨w.heap.size, 1, none⟩ = some (.slice ao Ls.length cap) := hx5.cell c1
  replace HF := Lib.hid (HF.out.ext hx5)
  replace hx5 := hx4.trans hx5
  go_wp2_with fail
  refine (Part_any HF.out wd _ _ _ _ Ls R inp z xs i (HV.out.ext hx5) (HI.out.ext hx5) (HZ.out.ext hx5) (HXX.out.ext hx5)).mono ?_
  rw [HQR.out, EQ.out]
  rintro e w6 ⟨rfl, hx6⟩
  go_wp2_with fail
  go_ret
  exact ⟨rfl, hx5.trans hx6⟩

set_option maxRecDepth 100000 in
set_option maxHeartbeats 4000000 in
theorem gatesLayer_u (p wd : Int) (lv vi vz vx rv : Value) (Ls : List (List Tri)) (R : Nat → Value) (inp z xs : List Int) (layer : Int) (w : World) (h : okP p) (hg : Hnd w) (hv : LysAt w lv Ls R) (hi : Ints w vi inp) (hz : Ints w vz z) (hx : Ints w vx xs) (hE : walkErr wd Ls inp.length = 0) (i : Nat) (hi2 : layer = i) (hP : partErr wd Ls inp.length i z.length 0 = 0) (hQ : partErr wd Ls inp.length i z.length xs.length = 0) (hU : partErr wd Ls inp.length i z.length (xs.length + 1) ≠ 0) :
    Calls Tryd.prog 10 #[.int .i64 p, .agg #[.int .i64 wd, lv], .int .i64 layer, vi, vz, vx, rv] w fun e w' => e = .returned (.bool true) ∧ Ext w w' := by
  subst hi2
  have H := Lib.hid h; have HG := Lib.hid hg; have HV := Lib.hid hv; have HI := Lib.hid hi; have HZ := Lib.hid hz; have HXX := Lib.hid hx
  obtain ⟨hpp, lo, hip⟩ := h
  have hp2 : 2 ≤ p := by omega
  have hlen := hv.len
  have hlx := hx.run_len (P := Tryd.prog) slInts
  have hxl := hx.len
  have HW1 := Lib.hid oneC_walk
  have HR1 := Lib.hid (oneC_row hp2)
  obtain ⟨ao, cap, rfl⟩ := hv.shape
  have c0 := cell_new w #[.int .i64 wd, .slice ao Ls.length cap] 80 0
  have c1 := cell_new w #[.int .i64 wd, .slice ao Ls.length cap] 80 1
  clear hpp hg hv hi hz hx
  have HW := Lib.hid hE
  have hpo := partErr_ok hP
  rw [Int.toNat_natCast] at hpo
  have hil : i < Ls.length := by have := of_decide_eq_true hpo.2.1; omega
  have HCE := Lib.hid (walkErr_ok hE).1
  have HIN := Lib.hid (walkErr_ok hE).2
  have hlen8 : Ls.length ≤ 8 := (cirErr_ok HCE.out).1.2.2.2.1
  have hwb := wideOf_bd (nthY Ls i).length
  have hwp := wideOf_pow ((cirErr_ok HCE.out).1.2.2.2.2 i hil)
  rw [← hpo.2.2.1, Int.toNat_natCast] at hwp
  have HLZ := Lib.hid (show (nthY Ls i).length = 2 ^ z.length by exact_mod_cast hwp)
  have lz : z.length ≤ 12 := by have := hpo.2.2.1; omega
  obtain ⟨N, hN⟩ : ∃ N, partV p wd Ls inp i z [] = N := ⟨_, rfl⟩
  have HN1 := Lib.hid ((partR_ok (p := p) (inp := inp) (z := z) (xs := []) hP).trans hN)
  have HN2 := Lib.hid ((layer_sum HCE.out HIN.out hil z).symm.trans hN)
  have HPE := Lib.hid (show partErr wd Ls inp.length i z.length ([] : List Int).length = 0 from hP)
  have hbe : (N == N) = true := beq_self_eq_true N
  have hbn : (N != N) = false := by rw [bne_eq_false_iff_eq]
  obtain ⟨A, hA⟩ : ∃ A, partV p wd Ls inp i z xs = A := ⟨_, rfl⟩
  have HQE := Lib.hid hQ
  have HQR := Lib.hid ((partR_ok (p := p) (inp := inp) (z := z) (xs := xs) hQ).trans hA)
  have hU0 : partErr wd Ls inp.length i z.length (xs ++ [0]).length = partErr wd Ls inp.length i z.length (xs.length + 1) := by rw [List.length_append]; rfl
  have hU1 : partErr wd Ls inp.length i z.length (xs ++ [1]).length = partErr wd Ls inp.length i z.length (xs.length + 1) := by rw [List.length_append]; rfl
  have hxb : xs.length ≤ 12 := by
    have h1 := (partErr_ok hQ).2.2.2
    rw [Int.toNat_natCast] at h1
    have h2 := (beneath_bd (cirErr_ok HCE.out).1 hil).2
    omega
  have HUE := Lib.hid hU0
  have HVE := Lib.hid hU1
  have HUR := Lib.hid (partR_bad (p := p) (inp := inp) (z := z) (xs := xs ++ [0]) hU0 hU)
  have HVR := Lib.hid (partR_bad (p := p) (inp := inp) (z := z) (xs := xs ++ [1]) hU1 hU)
  have EU := Lib.hid (errv_pos hU)
  clear hE hP hQ hU hU0 hU1 hA hN hwp hwb hpo
  go_enter Tryd.func10, Tryd.ntmps10
  go_wp2_with (go_at_call 13; refine (sfield_ok _ _ H.out (HG.out.ext (Ext.alloc _ _))).mono ?_; rintro e w1 ⟨v, rfl, hx1, f, g0, rfl, hf⟩; obtain ⟨bf, rfl⟩ := hf.ptr; obtain ⟨fs, hfs⟩ := hf.fld; replace c0 : w1.cell? ⟨w.heap.size, 0, none⟩ = some (.int .i64 wd) := hx1.cell c0; replace c1 : w1.cell? ⟨w.heap.size, 1, none⟩ = some (.slice ao Ls.length cap) := hx1.cell c1; replace hx1 := (Ext.alloc _ _).trans hx1; have HF := Lib.hid hfs; clear hf hfs)
  have hxa := (Ext.alloc w1 (Obj.cells #[.int .i64 1, .int .i64 0, .int .i64 0] 104)).trans ((Ext.alloc _ (Obj.cells #[.slice (some ⟨w1.heap.size, 0, none⟩) 1 1] 89)).trans (Ext.alloc _ (Obj.cells #[.int .i64 1] 3)))
  have IL := ints_lit ((w1.alloc (Obj.cells #[.int .i64 1, .int .i64 0, .int .i64 0] 104)).alloc (Obj.cells #[.slice (some ⟨w1.heap.size, 0, none⟩) 1 1] 89)) 1 3
  rw [show ((w1.alloc (Obj.cells #[.int .i64 1, .int .i64 0, .int .i64 0] 104)).alloc (Obj.cells #[.slice (some ⟨w1.heap.size, 0, none⟩) 1 1] 89)).heap.size = w1.heap.size + 1 + 1 by simp] at IL
  refine (values_ok (HF.out.ext hxa) 0 _ _ oneC _ [1] ((lys_one w1 104 89).ext (Ext.alloc _ _)) IL HW1.out).mono ?_
  rintro e w2 ⟨v2, rfl, hx2, u2, rfl, S2, hr2⟩
  replace hx2 := hxa.trans hx2
  replace c0 : w2.cell? ⟨w.heap.size, 0, none⟩ = some (.int .i64 wd) := hx2.cell c0
  replace c1 : w2.cell? ⟨w.heap.size, 1, none⟩ = some (.slice ao Ls.length cap) := hx2.cell c1
  replace HF := Lib.hid (HF.out.ext hx2)
  replace hx2 := hx1.trans hx2
  have hlu := hr2.run_len (P := Tryd.prog) slRows
  have hvl2 : 1 < (vals p oneC [1] oneC.length).length := by rw [vals_length]; decide
  have hiu := hr2.run_index (P := Tryd.prog) slRows 1 hvl2
  have hcu := hr2.cell 1 hvl2
  have hru := hr2.row 1 hvl2
  rw [vals_nth _ _ _ (by decide), HR1.out] at hru
  rw [vals_length, show ((oneC.length + 1 : Nat) : Int) = 2 from rfl] at hlu
  have hlr := hru.run_len (P := Tryd.prog) slInts
  have hir := hru.run_index (P := Tryd.prog) slInts 0 (by decide)
  have hcr := hru.cell 0 (by decide)
  rw [show nth [1] 0 = 1 from rfl] at hcr
  rw [show ((([1] : List Int).length : Nat) : Int) = 1 from rfl] at hlr
  rw [show ((1 : Nat) : Int) = 1 from rfl] at hiu
  rw [show ((0 : Nat) : Int) = 0 from rfl] at hir
  clear hr2 hru hvl2 hxa
  go_wp2_with (go_at_call 33; refine (values_ok HF.out wd _ _ Ls R inp (HV.out.ext hx2) (HI.out.ext hx2) HW.out).mono ?_; rintro e w3 ⟨v3, rfl, hx3, u3, rfl, S, hr3⟩; have HS := Lib.hid hr3; have hlv := hr3.run_len (P := Tryd.prog) slRows; rw [vals_length] at hlv; clear hr3; replace c0 : w3.cell? ⟨w.heap.size, 0, none⟩ = some (.int .i64 wd) := hx3.cell c0; replace c1 : w3.cell? ⟨w.heap.size, 1, none⟩ = some (.slice ao Ls.length cap) := hx3.cell c1; replace HF := Lib.hid (HF.out.ext hx3); replace hx3 := hx2.trans hx3)
  refine (Part_any HF.out wd _ _ _ _ Ls R inp z [] i (HV.out.ext hx3) (HI.out.ext hx3) (HZ.out.ext hx3) (Ints.nil _)).mono ?_
  rw [HN1.out, HPE.out, errv_zero]
  rintro e w4 ⟨rfl, hx4⟩
  replace c0 : w4.cell? ⟨w.heap.size, 0, none⟩ = some (.int .i64 wd) := hx4.cell c0
  replace c1 : w4.cell? ⟨w.heap.size, 1, none⟩ = some (.slice ao Ls.length cap) := hx4.cell c1
  replace HF := Lib.hid (HF.out.ext hx4)
  replace HS := Lib.hid (HS.out.ext hx4)
  replace hx4 := hx3.trans hx4
  have hvl : i + 1 < (vals p Ls inp Ls.length).length := by rw [vals_length]; omega
  have hiv := HS.out.run_index (P := Tryd.prog) slRows (i + 1) hvl
  have hcv := HS.out.cell (i + 1) hvl
  have hrv := HS.out.row (i + 1) hvl
  rw [vals_nth _ _ _ (by omega)] at hrv
  rw [show ((i + 1 : Nat) : Int) = (i : Int) + 1 by omega] at hiv
  have HRV := Lib.hid hrv
  clear hrv hvl HS
  go_wp2_with fail
  refine (sExtend_ok HF.out _ _ (vrow p Ls inp (i + 1)) z HRV.out (HZ.out.ext hx4) z.length lz (by rw [show (vrow p Ls inp (i + 1)).length = (nthY Ls i).length by simp [vrow]]; exact HLZ.out) rfl).mono ?_
  rw [HN2.out]
  rintro e w5 ⟨rfl, hx5⟩
  replace c0 : w5.cell? ⟨w.heap.size, 0, none⟩ = some (.int .i64 wd) := hx5.cell c0
  replace c1 : w5.cell? ⟨w.heap.size, 1, none⟩ = some (.slice ao Ls.length cap) := hx5.cell c1
  replace HF := Lib.hid (HF.out.ext hx5)
  replace hx5 := hx4.trans hx5
  go_wp2_with fail
  refine (Part_any HF.out wd _ _ _ _ Ls R inp z xs i (HV.out.ext hx5) (HI.out.ext hx5) (HZ.out.ext hx5) (HXX.out.ext hx5)).mono ?_
  rw [HQR.out, HQE.out, errv_zero]
  rintro e w6 ⟨rfl, hx6⟩
  replace c0 : w6.cell? ⟨w.heap.size, 0, none⟩ = some (.int .i64 wd) := hx6.cell c0
  replace c1 : w6.cell? ⟨w.heap.size, 1, none⟩ = some (.slice ao Ls.length cap) := hx6.cell c1
  replace HF := Lib.hid (HF.out.ext hx6)
  replace hx6 := hx5.trans hx6
  have hcs := ints_cs xs
  go_wp2_with (first | (at_builtin; refine wpList_appSl rfl _ _ 23 rfl slInts rfl (Ext.alloc w6 _) (World.ownsRow_made w6 #[] 0 (Nat.le_refl _) (Nat.zero_le _) rfl) rfl (HXX.out.ext (hx6.trans (Ext.alloc w6 _))) hcs rfl (by omega) (by omega) ?_; intro v7 w7 HO7 HX7 _; simp only [Nat.zero_add, List.nil_append] at HO7) | (at_builtin; refine wpList_appSl rfl _ _ 23 rfl slInts rfl (Ext.alloc w7 _) (World.ownsRow_made w7 #[] 0 (Nat.le_refl _) (Nat.zero_le _) rfl) rfl (HXX.out.ext (hx6.trans (HX7.trans (Ext.alloc w7 _)))) hcs rfl (by omega) (by omega) ?_; intro v8 w8 HO8 HX8 _; simp only [Nat.zero_add, List.nil_append] at HO8; have HO7' := own_ext HO7 HX8; have HX9 := HX7.trans HX8) | (at_builtin; refine wpList_appNw rfl _ _ 23 rfl slInts rfl HX9.size HO7' rfl _ rfl (by intro u hu; simp at hu; subst hu; rfl) rfl (by omega) (by omega) ?_; intro v9 w9 HO9 HG9 HM9; have HO8' := own_grown HO8 HG9 (fun k hk hc => by have h1 := (HO8.lt k hk).1; have h2 := (HO7.lt k hc.symm).2; omega); have HX10 := Ext.own_grown HX9 HO7' HG9; have hsz := HG9.size; have hsz8 := HX8.size) | (at_builtin; refine wpList_appNw rfl _ _ 23 rfl slInts rfl (Nat.le_trans hsz8 hsz) HO8' rfl _ rfl (by intro u hu; simp at hu; subst hu; rfl) rfl (by omega) (by omega) ?_; intro v10 w10 HO10 HG10 _; have HX11 : Ext w6 w10 := Below.grown HX10.below HG10 HX10.size (fun k hk => by have h1 := (HO8'.lt k hk).1; have h2 := HX7.size; omega); replace c0 : w10.cell? ⟨w.heap.size, 0, none⟩ = some (.int .i64 wd) := HX11.cell c0; replace c1 : w10.cell? ⟨w.heap.size, 1, none⟩ = some (.slice ao Ls.length cap) := HX11.cell c1))
  have HO9m : w9.ownsRow w6.heap.size 3 1 v9 (xs.length + 1) ((xs ++ [0]).map (Value.int .i64)) := by rw [List.map_append]; exact HO9
  have HO10m : w10.ownsRow w7.heap.size 3 1 v10 (xs.length + 1) ((xs ++ [1]).map (Value.int .i64)) := by rw [List.map_append]; exact HO10
  have IX := (Ints.of_own HO9m).grown HG10 (fun k hk hc => by
    rcases HM9 with h | h
    · have h1 := (HO7.lt k (h ▸ hk)).2
      have h2 := (HO8.lt k hc.symm).1
      omega
    · have h1 := h k hk
      have h2 := (HO8.lt k hc.symm).2
      omega)
  have IY := Ints.of_own HO10m
  replace HF := Lib.hid (HF.out.ext HX11)
  have hx11 := hx6.trans HX11
  clear HO7 HO8 HO9 HO10 HO9m HO10m HG9 HG10 HM9 HO7' HO8' HX7 HX8 HX9 HX10 hsz hsz8
  refine (Part_any HF.out wd _ _ _ _ Ls R inp z (xs ++ [0]) i (HV.out.ext hx11) (HI.out.ext hx11) (HZ.out.ext hx11) IX).mono ?_
  rw [HUR.out, HUE.out, EU.out]
  rintro e w12 ⟨rfl, hx12⟩
  replace IY := IY.ext hx12
  replace c0 : w12.cell? ⟨w.heap.size, 0, none⟩ = some (.int .i64 wd) := hx12.cell c0
  replace c1 : w12.cell? ⟨w.heap.size, 1, none⟩ = some (.slice ao Ls.length cap) := hx12.cell c1
  replace HF := Lib.hid (HF.out.ext hx12)
  replace hx12 := hx11.trans hx12
  go_wp2_with fail
  refine (Part_any HF.out wd _ _ _ _ Ls R inp z (xs ++ [1]) i (HV.out.ext hx12) (HI.out.ext hx12) (HZ.out.ext hx12) IY).mono ?_
  rw [HVR.out, HVE.out, EU.out]
  rintro e w13 ⟨rfl, hx13⟩
  replace c0 : w13.cell? ⟨w.heap.size, 0, none⟩ = some (.int .i64 wd) := hx13.cell c0
  replace c1 : w13.cell? ⟨w.heap.size, 1, none⟩ = some (.slice ao Ls.length cap) := hx13.cell c1
  replace HF := Lib.hid (HF.out.ext hx13)
  replace hx13 := hx12.trans hx13
  go_wp2_with fail
  go_ret
  exact ⟨rfl, hx13⟩

set_option maxRecDepth 100000 in
set_option maxHeartbeats 4000000 in
theorem gatesLayer_ok (p wd : Int) (lv vi vz vx rv : Value) (Ls : List (List Tri)) (R : Nat → Value) (inp z xs : List Int) (layer : Int) (w : World) (h : okP p) (hg : Hnd w) (hv : LysAt w lv Ls R) (hi : Ints w vi inp) (hz : Ints w vz z) (hx : Ints w vx xs) (hE : walkErr wd Ls inp.length = 0) (i : Nat) (hi2 : layer = i) (hP : partErr wd Ls inp.length i z.length 0 = 0) (hQ : partErr wd Ls inp.length i z.length xs.length = 0) (hU : partErr wd Ls inp.length i z.length (xs.length + 1) = 0) :
    Calls Tryd.prog 10 #[.int .i64 p, .agg #[.int .i64 wd, lv], .int .i64 layer, vi, vz, vx, rv] w fun e w' => e = .returned (.bool true) ∧ Ext w w' := by
  subst hi2
  have H := Lib.hid h; have HG := Lib.hid hg; have HV := Lib.hid hv; have HI := Lib.hid hi; have HZ := Lib.hid hz; have HXX := Lib.hid hx
  obtain ⟨hpp, lo, hip⟩ := h
  have hp2 : 2 ≤ p := by omega
  have hlen := hv.len
  have hlx := hx.run_len (P := Tryd.prog) slInts
  have hxl := hx.len
  have HW1 := Lib.hid oneC_walk
  have HR1 := Lib.hid (oneC_row hp2)
  obtain ⟨ao, cap, rfl⟩ := hv.shape
  have c0 := cell_new w #[.int .i64 wd, .slice ao Ls.length cap] 80 0
  have c1 := cell_new w #[.int .i64 wd, .slice ao Ls.length cap] 80 1
  clear hpp hg hv hi hz hx
  have HW := Lib.hid hE
  have hpo := partErr_ok hP
  rw [Int.toNat_natCast] at hpo
  have hil : i < Ls.length := by have := of_decide_eq_true hpo.2.1; omega
  have HCE := Lib.hid (walkErr_ok hE).1
  have HIN := Lib.hid (walkErr_ok hE).2
  have hlen8 : Ls.length ≤ 8 := (cirErr_ok HCE.out).1.2.2.2.1
  have hwb := wideOf_bd (nthY Ls i).length
  have hwp := wideOf_pow ((cirErr_ok HCE.out).1.2.2.2.2 i hil)
  rw [← hpo.2.2.1, Int.toNat_natCast] at hwp
  have HLZ := Lib.hid (show (nthY Ls i).length = 2 ^ z.length by exact_mod_cast hwp)
  have lz : z.length ≤ 12 := by have := hpo.2.2.1; omega
  obtain ⟨N, hN⟩ : ∃ N, partV p wd Ls inp i z [] = N := ⟨_, rfl⟩
  have HN1 := Lib.hid ((partR_ok (p := p) (inp := inp) (z := z) (xs := []) hP).trans hN)
  have HN2 := Lib.hid ((layer_sum HCE.out HIN.out hil z).symm.trans hN)
  have HPE := Lib.hid (show partErr wd Ls inp.length i z.length ([] : List Int).length = 0 from hP)
  have hbe : (N == N) = true := beq_self_eq_true N
  have hbn : (N != N) = false := by rw [bne_eq_false_iff_eq]
  obtain ⟨A, hA⟩ : ∃ A, partV p wd Ls inp i z xs = A := ⟨_, rfl⟩
  have HQE := Lib.hid hQ
  have HQR := Lib.hid ((partR_ok (p := p) (inp := inp) (z := z) (xs := xs) hQ).trans hA)
  have hU0 : partErr wd Ls inp.length i z.length (xs ++ [0]).length = partErr wd Ls inp.length i z.length (xs.length + 1) := by rw [List.length_append]; rfl
  have hU1 : partErr wd Ls inp.length i z.length (xs ++ [1]).length = partErr wd Ls inp.length i z.length (xs.length + 1) := by rw [List.length_append]; rfl
  have hxb : xs.length ≤ 12 := by
    have h1 := (partErr_ok hQ).2.2.2
    rw [Int.toNat_natCast] at h1
    have h2 := (beneath_bd (cirErr_ok HCE.out).1 hil).2
    omega
  obtain ⟨U, hUU⟩ : ∃ U, partV p wd Ls inp i z (xs ++ [0]) = U := ⟨_, rfl⟩
  obtain ⟨V, hVV⟩ : ∃ V, partV p wd Ls inp i z (xs ++ [1]) = V := ⟨_, rfl⟩
  have HUE := Lib.hid (hU0.trans hU)
  have HVE := Lib.hid (hU1.trans hU)
  have HUR := Lib.hid ((partR_ok (p := p) (inp := inp) (z := z) (xs := xs ++ [0]) HUE.out).trans hUU)
  have HVR := Lib.hid ((partR_ok (p := p) (inp := inp) (z := z) (xs := xs ++ [1]) HVE.out).trans hVV)
  have hsn := layer_snoc p wd Ls inp i z xs (by
    have h1 := (partErr_ok hU).2.2.2
    rw [Int.toNat_natCast] at h1
    omega)
  rw [hA, hUU, hVV] at hsn
  have hb2 : (A == fadd p U V) = true := by rw [beq_iff_eq]; exact hsn
  clear hsn hUU hVV
  clear hE hP hQ hU hU0 hU1 hA hN hwp hwb hpo
  go_enter Tryd.func10, Tryd.ntmps10
  go_wp2_with (go_at_call 13; refine (sfield_ok _ _ H.out (HG.out.ext (Ext.alloc _ _))).mono ?_; rintro e w1 ⟨v, rfl, hx1, f, g0, rfl, hf⟩; obtain ⟨bf, rfl⟩ := hf.ptr; obtain ⟨fs, hfs⟩ := hf.fld; replace c0 : w1.cell? ⟨w.heap.size, 0, none⟩ = some (.int .i64 wd) := hx1.cell c0; replace c1 : w1.cell? ⟨w.heap.size, 1, none⟩ = some (.slice ao Ls.length cap) := hx1.cell c1; replace hx1 := (Ext.alloc _ _).trans hx1; have HF := Lib.hid hfs; clear hf hfs)
  have hxa := (Ext.alloc w1 (Obj.cells #[.int .i64 1, .int .i64 0, .int .i64 0] 104)).trans ((Ext.alloc _ (Obj.cells #[.slice (some ⟨w1.heap.size, 0, none⟩) 1 1] 89)).trans (Ext.alloc _ (Obj.cells #[.int .i64 1] 3)))
  have IL := ints_lit ((w1.alloc (Obj.cells #[.int .i64 1, .int .i64 0, .int .i64 0] 104)).alloc (Obj.cells #[.slice (some ⟨w1.heap.size, 0, none⟩) 1 1] 89)) 1 3
  rw [show ((w1.alloc (Obj.cells #[.int .i64 1, .int .i64 0, .int .i64 0] 104)).alloc (Obj.cells #[.slice (some ⟨w1.heap.size, 0, none⟩) 1 1] 89)).heap.size = w1.heap.size + 1 + 1 by simp] at IL
  refine (values_ok (HF.out.ext hxa) 0 _ _ oneC _ [1] ((lys_one w1 104 89).ext (Ext.alloc _ _)) IL HW1.out).mono ?_
  rintro e w2 ⟨v2, rfl, hx2, u2, rfl, S2, hr2⟩
  replace hx2 := hxa.trans hx2
  replace c0 : w2.cell? ⟨w.heap.size, 0, none⟩ = some (.int .i64 wd) := hx2.cell c0
  replace c1 : w2.cell? ⟨w.heap.size, 1, none⟩ = some (.slice ao Ls.length cap) := hx2.cell c1
  replace HF := Lib.hid (HF.out.ext hx2)
  replace hx2 := hx1.trans hx2
  have hlu := hr2.run_len (P := Tryd.prog) slRows
  have hvl2 : 1 < (vals p oneC [1] oneC.length).length := by rw [vals_length]; decide
  have hiu := hr2.run_index (P := Tryd.prog) slRows 1 hvl2
  have hcu := hr2.cell 1 hvl2
  have hru := hr2.row 1 hvl2
  rw [vals_nth _ _ _ (by decide), HR1.out] at hru
  rw [vals_length, show ((oneC.length + 1 : Nat) : Int) = 2 from rfl] at hlu
  have hlr := hru.run_len (P := Tryd.prog) slInts
  have hir := hru.run_index (P := Tryd.prog) slInts 0 (by decide)
  have hcr := hru.cell 0 (by decide)
  rw [show nth [1] 0 = 1 from rfl] at hcr
  rw [show ((([1] : List Int).length : Nat) : Int) = 1 from rfl] at hlr
  rw [show ((1 : Nat) : Int) = 1 from rfl] at hiu
  rw [show ((0 : Nat) : Int) = 0 from rfl] at hir
  clear hr2 hru hvl2 hxa
  go_wp2_with (go_at_call 33; refine (values_ok HF.out wd _ _ Ls R inp (HV.out.ext hx2) (HI.out.ext hx2) HW.out).mono ?_; rintro e w3 ⟨v3, rfl, hx3, u3, rfl, S, hr3⟩; have HS := Lib.hid hr3; have hlv := hr3.run_len (P := Tryd.prog) slRows; rw [vals_length] at hlv; clear hr3; replace c0 : w3.cell? ⟨w.heap.size, 0, none⟩ = some (.int .i64 wd) := hx3.cell c0; replace c1 : w3.cell? ⟨w.heap.size, 1, none⟩ = some (.slice ao Ls.length cap) := hx3.cell c1; replace HF := Lib.hid (HF.out.ext hx3); replace hx3 := hx2.trans hx3)
  refine (Part_any HF.out wd _ _ _ _ Ls R inp z [] i (HV.out.ext hx3) (HI.out.ext hx3) (HZ.out.ext hx3) (Ints.nil _)).mono ?_
  rw [HN1.out, HPE.out, errv_zero]
  rintro e w4 ⟨rfl, hx4⟩
  replace c0 : w4.cell? ⟨w.heap.size, 0, none⟩ = some (.int .i64 wd) := hx4.cell c0
  replace c1 : w4.cell? ⟨w.heap.size, 1, none⟩ = some (.slice ao Ls.length cap) := hx4.cell c1
  replace HF := Lib.hid (HF.out.ext hx4)
  replace HS := Lib.hid (HS.out.ext hx4)
  replace hx4 := hx3.trans hx4
  have hvl : i + 1 < (vals p Ls inp Ls.length).length := by rw [vals_length]; omega
  have hiv := HS.out.run_index (P := Tryd.prog) slRows (i + 1) hvl
  have hcv := HS.out.cell (i + 1) hvl
  have hrv := HS.out.row (i + 1) hvl
  rw [vals_nth _ _ _ (by omega)] at hrv
  rw [show ((i + 1 : Nat) : Int) = (i : Int) + 1 by omega] at hiv
  have HRV := Lib.hid hrv
  clear hrv hvl HS
  go_wp2_with fail
  refine (sExtend_ok HF.out _ _ (vrow p Ls inp (i + 1)) z HRV.out (HZ.out.ext hx4) z.length lz (by rw [show (vrow p Ls inp (i + 1)).length = (nthY Ls i).length by simp [vrow]]; exact HLZ.out) rfl).mono ?_
  rw [HN2.out]
  rintro e w5 ⟨rfl, hx5⟩
  replace c0 : w5.cell? ⟨w.heap.size, 0, none⟩ = some (.int .i64 wd) := hx5.cell c0
  replace c1 : w5.cell? ⟨w.heap.size, 1, none⟩ = some (.slice ao Ls.length cap) := hx5.cell c1
  replace HF := Lib.hid (HF.out.ext hx5)
  replace hx5 := hx4.trans hx5
  go_wp2_with fail
  refine (Part_any HF.out wd _ _ _ _ Ls R inp z xs i (HV.out.ext hx5) (HI.out.ext hx5) (HZ.out.ext hx5) (HXX.out.ext hx5)).mono ?_
  rw [HQR.out, HQE.out, errv_zero]
  rintro e w6 ⟨rfl, hx6⟩
  replace c0 : w6.cell? ⟨w.heap.size, 0, none⟩ = some (.int .i64 wd) := hx6.cell c0
  replace c1 : w6.cell? ⟨w.heap.size, 1, none⟩ = some (.slice ao Ls.length cap) := hx6.cell c1
  replace HF := Lib.hid (HF.out.ext hx6)
  replace hx6 := hx5.trans hx6
  have hcs := ints_cs xs
  go_wp2_with (first | (at_builtin; refine wpList_appSl rfl _ _ 23 rfl slInts rfl (Ext.alloc w6 _) (World.ownsRow_made w6 #[] 0 (Nat.le_refl _) (Nat.zero_le _) rfl) rfl (HXX.out.ext (hx6.trans (Ext.alloc w6 _))) hcs rfl (by omega) (by omega) ?_; intro v7 w7 HO7 HX7 _; simp only [Nat.zero_add, List.nil_append] at HO7) | (at_builtin; refine wpList_appSl rfl _ _ 23 rfl slInts rfl (Ext.alloc w7 _) (World.ownsRow_made w7 #[] 0 (Nat.le_refl _) (Nat.zero_le _) rfl) rfl (HXX.out.ext (hx6.trans (HX7.trans (Ext.alloc w7 _)))) hcs rfl (by omega) (by omega) ?_; intro v8 w8 HO8 HX8 _; simp only [Nat.zero_add, List.nil_append] at HO8; have HO7' := own_ext HO7 HX8; have HX9 := HX7.trans HX8) | (at_builtin; refine wpList_appNw rfl _ _ 23 rfl slInts rfl HX9.size HO7' rfl _ rfl (by intro u hu; simp at hu; subst hu; rfl) rfl (by omega) (by omega) ?_; intro v9 w9 HO9 HG9 HM9; have HO8' := own_grown HO8 HG9 (fun k hk hc => by have h1 := (HO8.lt k hk).1; have h2 := (HO7.lt k hc.symm).2; omega); have HX10 := Ext.own_grown HX9 HO7' HG9; have hsz := HG9.size; have hsz8 := HX8.size) | (at_builtin; refine wpList_appNw rfl _ _ 23 rfl slInts rfl (Nat.le_trans hsz8 hsz) HO8' rfl _ rfl (by intro u hu; simp at hu; subst hu; rfl) rfl (by omega) (by omega) ?_; intro v10 w10 HO10 HG10 _; have HX11 : Ext w6 w10 := Below.grown HX10.below HG10 HX10.size (fun k hk => by have h1 := (HO8'.lt k hk).1; have h2 := HX7.size; omega); replace c0 : w10.cell? ⟨w.heap.size, 0, none⟩ = some (.int .i64 wd) := HX11.cell c0; replace c1 : w10.cell? ⟨w.heap.size, 1, none⟩ = some (.slice ao Ls.length cap) := HX11.cell c1))
  have HO9m : w9.ownsRow w6.heap.size 3 1 v9 (xs.length + 1) ((xs ++ [0]).map (Value.int .i64)) := by rw [List.map_append]; exact HO9
  have HO10m : w10.ownsRow w7.heap.size 3 1 v10 (xs.length + 1) ((xs ++ [1]).map (Value.int .i64)) := by rw [List.map_append]; exact HO10
  have IX := (Ints.of_own HO9m).grown HG10 (fun k hk hc => by
    rcases HM9 with h | h
    · have h1 := (HO7.lt k (h ▸ hk)).2
      have h2 := (HO8.lt k hc.symm).1
      omega
    · have h1 := h k hk
      have h2 := (HO8.lt k hc.symm).2
      omega)
  have IY := Ints.of_own HO10m
  replace HF := Lib.hid (HF.out.ext HX11)
  have hx11 := hx6.trans HX11
  clear HO7 HO8 HO9 HO10 HO9m HO10m HG9 HG10 HM9 HO7' HO8' HX7 HX8 HX9 HX10 hsz hsz8
  refine (Part_any HF.out wd _ _ _ _ Ls R inp z (xs ++ [0]) i (HV.out.ext hx11) (HI.out.ext hx11) (HZ.out.ext hx11) IX).mono ?_
  rw [HUR.out, HUE.out, errv_zero]
  rintro e w12 ⟨rfl, hx12⟩
  replace IY := IY.ext hx12
  replace c0 : w12.cell? ⟨w.heap.size, 0, none⟩ = some (.int .i64 wd) := hx12.cell c0
  replace c1 : w12.cell? ⟨w.heap.size, 1, none⟩ = some (.slice ao Ls.length cap) := hx12.cell c1
  replace HF := Lib.hid (HF.out.ext hx12)
  replace hx12 := hx11.trans hx12
  go_wp2_with fail
  refine (Part_any HF.out wd _ _ _ _ Ls R inp z (xs ++ [1]) i (HV.out.ext hx12) (HI.out.ext hx12) (HZ.out.ext hx12) IY).mono ?_
  rw [HVR.out, HVE.out, errv_zero]
  rintro e w13 ⟨rfl, hx13⟩
  replace c0 : w13.cell? ⟨w.heap.size, 0, none⟩ = some (.int .i64 wd) := hx13.cell c0
  replace c1 : w13.cell? ⟨w.heap.size, 1, none⟩ = some (.slice ao Ls.length cap) := hx13.cell c1
  replace HF := Lib.hid (HF.out.ext hx13)
  replace hx13 := hx12.trans hx13
  go_wp2_with (go_at_call 48; refine (radd_any _ _ _ _ hp2 hip).mono ?_; rintro e w' ⟨rfl, rfl⟩)
  go_ret
  exact ⟨rfl, hx13⟩

end Go.Proofs.YthjemncbphdomaaDoor
