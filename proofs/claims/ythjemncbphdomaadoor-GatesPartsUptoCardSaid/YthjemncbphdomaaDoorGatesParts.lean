/- GatesParts: a layer's sum with any first variables fixed: the law's walk: for every input it returns true and leaves all that was there as it was. -/
import Derived.Test.YthjemncbphdomaaDoorP5
import Derived.Test.YthjemncbphdomaaDoorP6
import Derived.Test.YthjemncbphdomaaDoorFc
namespace Go.Att
open Go.RowKit
theorem walkErr_cir {wd : Int} {Ls : List (List Tri)} {n : Nat} (h : cirErr wd Ls ≠ 0) : walkErr wd Ls n = cirErr wd Ls := by unfold walkErr; rw [if_neg h]
theorem walkErr_two {wd : Int} {Ls : List (List Tri)} {n : Nat} (h : cirErr wd Ls = 0) (h2 : wideOf n ≠ wd) : walkErr wd Ls n = 2 := by
  unfold walkErr; rw [if_pos h, if_neg]
  intro hn
  obtain ⟨⟨s1, s2, -⟩, -⟩ := cirErr_ok h
  apply h2
  rw [hn, wideOf_of _ (by omega)]; omega
theorem walkErr_nil {wd : Int} {Ls : List (List Tri)} {n : Nat} (h : cirErr wd Ls = 0) (h2 : wideOf n = wd) : walkErr wd Ls n = 0 ∧ (n : Int) = 2 ^ wd.toNat := by
  obtain ⟨⟨s1, s2, -⟩, -⟩ := cirErr_ok h
  have hn : (n : Int) = 2 ^ wd.toNat := by rw [← h2]; exact wideOf_pow (by omega)
  exact ⟨by unfold walkErr; rw [if_pos h, if_pos hn], hn⟩
theorem partR_bad {p wd : Int} {Ls : List (List Tri)} {inp z xs : List Int} {layer E : Int} (h : partErr wd Ls inp.length layer z.length xs.length = E) (hE : E ≠ 0) : partR p wd Ls inp layer z xs = 0 := by unfold partR; rw [h, if_neg hE]
end Go.Att
namespace Go.Proofs.YthjemncbphdomaaDoor
open Go.RowKit Go.Att

set_option maxRecDepth 100000 in
set_option maxHeartbeats 4000000 in
theorem gatesParts_bad (p : Int) (c v2 v3 v4 v5 : Value) (w : World) (wd : Int) (lv : Value) (hc : c = .agg #[.int .i64 wd, lv]) (h : ¬ okP p) (hg : Hnd w) :
    Calls Tryd.prog 8 #[.int .i64 p, c, v2, v3, v4, v5] w fun e w' => e = .returned (.bool true) ∧ Ext w w' := by
  subst hc
  have H := Lib.hid h; have HG := Lib.hid hg; clear h hg
  go_enter Tryd.func8, Tryd.ntmps8
  go_wp2_with (go_at_call 13; refine (sfield_bad _ _ H.out (HG.out.ext (Ext.alloc _ _))).mono ?_; rintro e w' ⟨v, rfl, hx, rfl⟩)
  go_ret
  exact ⟨rfl, (Ext.alloc _ _).trans hx⟩


set_option maxRecDepth 100000 in
set_option maxHeartbeats 4000000 in
theorem gatesParts_circ (p wd : Int) (lv vi vz vx : Value) (Ls : List (List Tri)) (R : Nat → Value) (inp z xs : List Int) (layer : Int) (w : World) (h : okP p) (hg : Hnd w) (hv : LysAt w lv Ls R) (hi : Ints w vi inp) (hz : Ints w vz z) (hx : Ints w vx xs) (hE : cirErr wd Ls ≠ 0) :
    Calls Tryd.prog 8 #[.int .i64 p, .agg #[.int .i64 wd, lv], .int .i64 layer, vi, vz, vx] w fun e w' => e = .returned (.bool true) ∧ Ext w w' := by
  have H := Lib.hid h; have HG := Lib.hid hg; have HV := Lib.hid hv; have HI := Lib.hid hi; have HZ := Lib.hid hz; have HXX := Lib.hid hx
  obtain ⟨hpp, lo, hip⟩ := h
  have hp2 : 2 ≤ p := by omega
  have hlen := hv.len
  have hll := hv.run_len (P := Tryd.prog) slLayers
  have hli := hi.run_len (P := Tryd.prog) slInts
  have hlz := hz.run_len (P := Tryd.prog) slInts
  have hlx := hx.run_len (P := Tryd.prog) slInts
  have hxl := hx.len
  obtain ⟨ao, cap, rfl⟩ := hv.shape
  have c0 := cell_new w #[.int .i64 wd, .slice ao Ls.length cap] 80 0
  have c1 := cell_new w #[.int .i64 wd, .slice ao Ls.length cap] 80 1
  clear hpp hg hv hi hz hx
  have HPE := Lib.hid (show partErr wd Ls inp.length layer z.length xs.length = cirErr wd Ls by have h1 := walkErr_cir (n := inp.length) hE; rw [partErr_1 (by rw [h1]; exact hE), h1])
  have HPR := Lib.hid (partR_bad (p := p) HPE.out hE)
  have b0 : (cirErr wd Ls == 0) = false := by rw [beq_eq_false_iff_ne]; exact hE
  have b1 : (cirErr wd Ls != 0) = true := by rw [bne_iff_ne]; exact hE
  clear hE
  go_enter Tryd.func8, Tryd.ntmps8
  go_wp2_with (first | (go_at_call 13; refine (sfield_ok _ _ H.out (HG.out.ext (Ext.alloc _ _))).mono ?_; rintro e w1 ⟨v, rfl, hx1, f, g0, rfl, hf⟩; obtain ⟨bf, rfl⟩ := hf.ptr; obtain ⟨fs, hfs⟩ := hf.fld; replace c0 : w1.cell? ⟨w.heap.size, 0, none⟩ = some (.int .i64 wd) := hx1.cell c0; replace c1 : w1.cell? ⟨w.heap.size, 1, none⟩ = some (.slice ao Ls.length cap) := hx1.cell c1; replace hx1 := (Ext.alloc _ _).trans hx1; have HF := Lib.hid hfs; clear hf hfs) | (go_at_call 41; refine (Part_any HF.out wd _ _ _ _ Ls R inp z xs layer (HV.out.ext hx1) (HI.out.ext hx1) (HZ.out.ext hx1) (HXX.out.ext hx1)).mono ?_; rw [HPR.out, HPE.out]; rintro e w2 ⟨rfl, hx2⟩; replace c0 : w2.cell? ⟨w.heap.size, 0, none⟩ = some (.int .i64 wd) := hx2.cell c0; replace c1 : w2.cell? ⟨w.heap.size, 1, none⟩ = some (.slice ao Ls.length cap) := hx2.cell c1; replace hx2 := hx1.trans hx2) | (go_at_call 34; refine (rfaultc_any wd _ Ls R _ (HV.out.ext hx2)).mono ?_; rintro e w3 ⟨rfl, hx3⟩; replace c0 : w3.cell? ⟨w.heap.size, 0, none⟩ = some (.int .i64 wd) := hx3.cell c0; replace c1 : w3.cell? ⟨w.heap.size, 1, none⟩ = some (.slice ao Ls.length cap) := hx3.cell c1; replace hx3 := hx2.trans hx3) | (go_at_call 24; refine (error_any (cirErr wd Ls) (cirErr wd Ls) _ (HG.out.ext hx3)).mono ?_; rw [beq_self_eq_true]; rintro e w5 ⟨rfl, hx5⟩))
  go_ret
  exact ⟨rfl, hx3.trans hx5⟩

set_option maxRecDepth 100000 in
set_option maxHeartbeats 4000000 in
theorem gatesParts_two (p wd : Int) (lv vi vz vx : Value) (Ls : List (List Tri)) (R : Nat → Value) (inp z xs : List Int) (layer : Int) (w : World) (h : okP p) (hg : Hnd w) (hv : LysAt w lv Ls R) (hi : Ints w vi inp) (hz : Ints w vz z) (hx : Ints w vx xs) (hE : cirErr wd Ls = 0) (hF : wideOf inp.length ≠ wd) :
    Calls Tryd.prog 8 #[.int .i64 p, .agg #[.int .i64 wd, lv], .int .i64 layer, vi, vz, vx] w fun e w' => e = .returned (.bool true) ∧ Ext w w' := by
  have H := Lib.hid h; have HG := Lib.hid hg; have HV := Lib.hid hv; have HI := Lib.hid hi; have HZ := Lib.hid hz; have HXX := Lib.hid hx
  obtain ⟨hpp, lo, hip⟩ := h
  have hp2 : 2 ≤ p := by omega
  have hlen := hv.len
  have hll := hv.run_len (P := Tryd.prog) slLayers
  have hli := hi.run_len (P := Tryd.prog) slInts
  have hlz := hz.run_len (P := Tryd.prog) slInts
  have hlx := hx.run_len (P := Tryd.prog) slInts
  have hxl := hx.len
  obtain ⟨ao, cap, rfl⟩ := hv.shape
  have c0 := cell_new w #[.int .i64 wd, .slice ao Ls.length cap] 80 0
  have c1 := cell_new w #[.int .i64 wd, .slice ao Ls.length cap] 80 1
  clear hpp hg hv hi hz hx
  have HCE := Lib.hid hE
  have HPE := Lib.hid (show partErr wd Ls inp.length layer z.length xs.length = 2 by have h1 := walkErr_two hE hF; rw [partErr_1 (by rw [h1]; decide), h1])
  have HPR := Lib.hid (partR_bad (p := p) HPE.out (by decide))
  have b9 : (wideOf inp.length != wd) = true := by rw [bne_iff_ne]; exact hF
  clear hE hF
  go_enter Tryd.func8, Tryd.ntmps8
  go_wp2_with (first | (go_at_call 13; refine (sfield_ok _ _ H.out (HG.out.ext (Ext.alloc _ _))).mono ?_; rintro e w1 ⟨v, rfl, hx1, f, g0, rfl, hf⟩; obtain ⟨bf, rfl⟩ := hf.ptr; obtain ⟨fs, hfs⟩ := hf.fld; replace c0 : w1.cell? ⟨w.heap.size, 0, none⟩ = some (.int .i64 wd) := hx1.cell c0; replace c1 : w1.cell? ⟨w.heap.size, 1, none⟩ = some (.slice ao Ls.length cap) := hx1.cell c1; replace hx1 := (Ext.alloc _ _).trans hx1; have HF := Lib.hid hfs; clear hf hfs) | (go_at_call 41; refine (Part_any HF.out wd _ _ _ _ Ls R inp z xs layer (HV.out.ext hx1) (HI.out.ext hx1) (HZ.out.ext hx1) (HXX.out.ext hx1)).mono ?_; rw [HPR.out, HPE.out]; rintro e w2 ⟨rfl, hx2⟩; replace c0 : w2.cell? ⟨w.heap.size, 0, none⟩ = some (.int .i64 wd) := hx2.cell c0; replace c1 : w2.cell? ⟨w.heap.size, 1, none⟩ = some (.slice ao Ls.length cap) := hx2.cell c1; replace hx2 := hx1.trans hx2) | (go_at_call 34; refine (rfaultc_any wd _ Ls R _ (HV.out.ext hx2)).mono ?_; rw [HCE.out]; rintro e w3 ⟨rfl, hx3⟩; replace c0 : w3.cell? ⟨w.heap.size, 0, none⟩ = some (.int .i64 wd) := hx3.cell c0; replace c1 : w3.cell? ⟨w.heap.size, 1, none⟩ = some (.slice ao Ls.length cap) := hx3.cell c1; replace hx3 := hx2.trans hx3) | (go_at_call 35; refine (rwide_any _ _).mono ?_; rintro e w4 ⟨rfl, rfl⟩) | (go_at_call 24; refine (error_any 2 2 _ (HG.out.ext hx3)).mono ?_; rintro e w5 ⟨rfl, hx5⟩))
  go_ret
  exact ⟨rfl, hx3.trans hx5⟩

set_option maxRecDepth 100000 in
set_option maxHeartbeats 4000000 in
theorem gatesParts_lay (p wd : Int) (lv vi vz vx : Value) (Ls : List (List Tri)) (R : Nat → Value) (inp z xs : List Int) (layer : Int) (w : World) (h : okP p) (hg : Hnd w) (hv : LysAt w lv Ls R) (hi : Ints w vi inp) (hz : Ints w vz z) (hx : Ints w vx xs) (hE : cirErr wd Ls = 0) (hF : wideOf inp.length = wd) (hl : layB layer Ls.length = false) :
    Calls Tryd.prog 8 #[.int .i64 p, .agg #[.int .i64 wd, lv], .int .i64 layer, vi, vz, vx] w fun e w' => e = .returned (.bool true) ∧ Ext w w' := by
  have H := Lib.hid h; have HG := Lib.hid hg; have HV := Lib.hid hv; have HI := Lib.hid hi; have HZ := Lib.hid hz; have HXX := Lib.hid hx
  obtain ⟨hpp, lo, hip⟩ := h
  have hp2 : 2 ≤ p := by omega
  have hlen := hv.len
  have hll := hv.run_len (P := Tryd.prog) slLayers
  have hli := hi.run_len (P := Tryd.prog) slInts
  have hlz := hz.run_len (P := Tryd.prog) slInts
  have hlx := hx.run_len (P := Tryd.prog) slInts
  have hxl := hx.len
  obtain ⟨ao, cap, rfl⟩ := hv.shape
  have c0 := cell_new w #[.int .i64 wd, .slice ao Ls.length cap] 80 0
  have c1 := cell_new w #[.int .i64 wd, .slice ao Ls.length cap] 80 1
  clear hpp hg hv hi hz hx
  have HCE := Lib.hid hE
  have HPE := Lib.hid (show partErr wd Ls inp.length layer z.length xs.length = 3 from partErr_3 (walkErr_nil hE hF).1 hl)
  have HPR := Lib.hid (partR_bad (p := p) HPE.out (by decide))
  have b9 : (wideOf inp.length != wd) = false := by rw [bne_eq_false_iff_eq]; exact hF
  have hl2 : ¬ (0 ≤ layer ∧ layer < (Ls.length : Int)) := of_decide_eq_false hl
  have hl3 : layer < 0 ∨ (¬ layer < 0 ∧ (Ls.length : Int) ≤ layer) := by omega
  clear hE hF hl hl2
  rcases hl3 with l1 | ⟨l1, l2⟩
  all_goals
    go_enter Tryd.func8, Tryd.ntmps8
    go_wp2_with (first | (go_at_call 13; refine (sfield_ok _ _ H.out (HG.out.ext (Ext.alloc _ _))).mono ?_; rintro e w1 ⟨v, rfl, hx1, f, g0, rfl, hf⟩; obtain ⟨bf, rfl⟩ := hf.ptr; obtain ⟨fs, hfs⟩ := hf.fld; replace c0 : w1.cell? ⟨w.heap.size, 0, none⟩ = some (.int .i64 wd) := hx1.cell c0; replace c1 : w1.cell? ⟨w.heap.size, 1, none⟩ = some (.slice ao Ls.length cap) := hx1.cell c1; replace hx1 := (Ext.alloc _ _).trans hx1; have HF := Lib.hid hfs; clear hf hfs) | (go_at_call 41; refine (Part_any HF.out wd _ _ _ _ Ls R inp z xs layer (HV.out.ext hx1) (HI.out.ext hx1) (HZ.out.ext hx1) (HXX.out.ext hx1)).mono ?_; rw [HPR.out, HPE.out]; rintro e w2 ⟨rfl, hx2⟩; replace c0 : w2.cell? ⟨w.heap.size, 0, none⟩ = some (.int .i64 wd) := hx2.cell c0; replace c1 : w2.cell? ⟨w.heap.size, 1, none⟩ = some (.slice ao Ls.length cap) := hx2.cell c1; replace hx2 := hx1.trans hx2) | (go_at_call 34; refine (rfaultc_any wd _ Ls R _ (HV.out.ext hx2)).mono ?_; rw [HCE.out]; rintro e w3 ⟨rfl, hx3⟩; replace c0 : w3.cell? ⟨w.heap.size, 0, none⟩ = some (.int .i64 wd) := hx3.cell c0; replace c1 : w3.cell? ⟨w.heap.size, 1, none⟩ = some (.slice ao Ls.length cap) := hx3.cell c1; replace hx3 := hx2.trans hx3) | (go_at_call 35; refine (rwide_any _ _).mono ?_; rintro e w4 ⟨rfl, rfl⟩) | (go_at_call 24; refine (error_any 3 3 _ (HG.out.ext hx3)).mono ?_; rintro e w5 ⟨rfl, hx5⟩))
    go_ret
    exact ⟨rfl, hx3.trans hx5⟩

set_option maxRecDepth 100000 in
set_option maxHeartbeats 4000000 in
theorem gatesParts_fit (p wd : Int) (lv vi vz vx : Value) (Ls : List (List Tri)) (R : Nat → Value) (inp z xs : List Int) (layer : Int) (w : World) (h : okP p) (hg : Hnd w) (hv : LysAt w lv Ls R) (hi : Ints w vi inp) (hz : Ints w vz z) (hx : Ints w vx xs) (hE : cirErr wd Ls = 0) (hF : wideOf inp.length = wd) (i : Nat) (hi2 : layer = i) (hl : layB i Ls.length = true) (hfit : ¬ ((z.length : Int) = wideOf (nthY Ls i).length ∧ (xs.length : Int) ≤ 2 * beneath wd Ls i)) :
    Calls Tryd.prog 8 #[.int .i64 p, .agg #[.int .i64 wd, lv], .int .i64 layer, vi, vz, vx] w fun e w' => e = .returned (.bool true) ∧ Ext w w' := by
  subst hi2
  have H := Lib.hid h; have HG := Lib.hid hg; have HV := Lib.hid hv; have HI := Lib.hid hi; have HZ := Lib.hid hz; have HXX := Lib.hid hx
  obtain ⟨hpp, lo, hip⟩ := h
  have hp2 : 2 ≤ p := by omega
  have hlen := hv.len
  have hll := hv.run_len (P := Tryd.prog) slLayers
  have hli := hi.run_len (P := Tryd.prog) slInts
  have hlz := hz.run_len (P := Tryd.prog) slInts
  have hlx := hx.run_len (P := Tryd.prog) slInts
  have hxl := hx.len
  obtain ⟨ao, cap, rfl⟩ := hv.shape
  have c0 := cell_new w #[.int .i64 wd, .slice ao Ls.length cap] 80 0
  have c1 := cell_new w #[.int .i64 wd, .slice ao Ls.length cap] 80 1
  clear hpp hg hv hi hz hx
  have HCE := Lib.hid hE
  have hil : i < Ls.length := by have := of_decide_eq_true hl; omega
  have hbd := beneath_bd (cirErr_ok hE).1 hil
  obtain ⟨n, hn⟩ := Int.eq_ofNat_of_zero_le hbd.1
  rw [hn] at hbd
  have HN := Lib.hid hn
  have b9 : (wideOf inp.length != wd) = false := by rw [bne_eq_false_iff_eq]; exact hF
  have hlen8 : Ls.length ≤ 8 := (cirErr_ok hE).1.2.2.2.1
  have hix := HV.out.run_index (P := Tryd.prog) slLayers i hil
  have hc := (HV.out.ext (Ext.alloc w (Obj.cells #[.int .i64 wd, .slice ao Ls.length cap] 80))).cell i hil
  have hln := (HV.out.row i hil).run_len (P := Tryd.prog) slGates
  have hrl := (HV.out.row i hil).len
  have HPE := Lib.hid (show partErr wd Ls inp.length i z.length xs.length = 2 from partErr_2 (walkErr_nil hE hF).1 hl (by rw [Int.toNat_natCast]; exact hfit))
  have HPR := Lib.hid (partR_bad (p := p) HPE.out (by decide))
  rw [hn] at hfit
  clear hE hF hl hn
  by_cases f1 : (z.length : Int) = wideOf (nthY Ls i).length
  · have e1 : ((z.length : Int) != wideOf (nthY Ls i).length) = false := by rw [bne_eq_false_iff_eq]; exact f1
    have e2 : ¬ (xs.length : Int) ≤ 2 * n := fun h => hfit ⟨f1, h⟩
    clear f1 hfit
    go_enter Tryd.func8, Tryd.ntmps8
    go_wp2_with (first | (go_at_call 13; refine (sfield_ok _ _ H.out (HG.out.ext (Ext.alloc _ _))).mono ?_; rintro e w1 ⟨v, rfl, hx1, f, g0, rfl, hf⟩; obtain ⟨bf, rfl⟩ := hf.ptr; obtain ⟨fs, hfs⟩ := hf.fld; replace c0 : w1.cell? ⟨w.heap.size, 0, none⟩ = some (.int .i64 wd) := hx1.cell c0; replace c1 : w1.cell? ⟨w.heap.size, 1, none⟩ = some (.slice ao Ls.length cap) := hx1.cell c1; replace hc := hx1.cell hc; replace hx1 := (Ext.alloc _ _).trans hx1; have HF := Lib.hid hfs; clear hf hfs) | (go_at_call 41; refine (Part_any HF.out wd _ _ _ _ Ls R inp z xs i (HV.out.ext hx1) (HI.out.ext hx1) (HZ.out.ext hx1) (HXX.out.ext hx1)).mono ?_; rw [HPR.out, HPE.out]; rintro e w2 ⟨rfl, hx2⟩; replace c0 : w2.cell? ⟨w.heap.size, 0, none⟩ = some (.int .i64 wd) := hx2.cell c0; replace c1 : w2.cell? ⟨w.heap.size, 1, none⟩ = some (.slice ao Ls.length cap) := hx2.cell c1; replace hc := hx2.cell hc; replace hx2 := hx1.trans hx2) | (go_at_call 34; refine (rfaultc_any wd _ Ls R _ (HV.out.ext hx2)).mono ?_; rw [HCE.out]; rintro e w3 ⟨rfl, hx3⟩; replace c0 : w3.cell? ⟨w.heap.size, 0, none⟩ = some (.int .i64 wd) := hx3.cell c0; replace c1 : w3.cell? ⟨w.heap.size, 1, none⟩ = some (.slice ao Ls.length cap) := hx3.cell c1; replace hc := hx3.cell hc; replace hx3 := hx2.trans hx3) | (go_at_call 35; refine (rwide_any _ _).mono ?_; rintro e w4 ⟨rfl, rfl⟩) | (go_at_call 39; refine (rbeneath_any wd _ Ls R i _ (HV.out.ext hx3) hil).mono ?_; rw [HN.out]; rintro e w6 ⟨rfl, hx6⟩; replace c0 : w6.cell? ⟨w.heap.size, 0, none⟩ = some (.int .i64 wd) := hx6.cell c0; replace c1 : w6.cell? ⟨w.heap.size, 1, none⟩ = some (.slice ao Ls.length cap) := hx6.cell c1; replace hc := hx6.cell hc; replace hx6 := hx3.trans hx6) | (go_at_call 24; refine (error_any 2 2 _ (HG.out.ext hx6)).mono ?_; rintro e w7 ⟨rfl, hx7⟩))
    go_ret
    exact ⟨rfl, hx6.trans hx7⟩
  · have e1 : ((z.length : Int) != wideOf (nthY Ls i).length) = true := by rw [bne_iff_ne]; exact f1
    clear f1 hfit
    go_enter Tryd.func8, Tryd.ntmps8
    go_wp2_with (first | (go_at_call 13; refine (sfield_ok _ _ H.out (HG.out.ext (Ext.alloc _ _))).mono ?_; rintro e w1 ⟨v, rfl, hx1, f, g0, rfl, hf⟩; obtain ⟨bf, rfl⟩ := hf.ptr; obtain ⟨fs, hfs⟩ := hf.fld; replace c0 : w1.cell? ⟨w.heap.size, 0, none⟩ = some (.int .i64 wd) := hx1.cell c0; replace c1 : w1.cell? ⟨w.heap.size, 1, none⟩ = some (.slice ao Ls.length cap) := hx1.cell c1; replace hc := hx1.cell hc; replace hx1 := (Ext.alloc _ _).trans hx1; have HF := Lib.hid hfs; clear hf hfs) | (go_at_call 41; refine (Part_any HF.out wd _ _ _ _ Ls R inp z xs i (HV.out.ext hx1) (HI.out.ext hx1) (HZ.out.ext hx1) (HXX.out.ext hx1)).mono ?_; rw [HPR.out, HPE.out]; rintro e w2 ⟨rfl, hx2⟩; replace c0 : w2.cell? ⟨w.heap.size, 0, none⟩ = some (.int .i64 wd) := hx2.cell c0; replace c1 : w2.cell? ⟨w.heap.size, 1, none⟩ = some (.slice ao Ls.length cap) := hx2.cell c1; replace hc := hx2.cell hc; replace hx2 := hx1.trans hx2) | (go_at_call 34; refine (rfaultc_any wd _ Ls R _ (HV.out.ext hx2)).mono ?_; rw [HCE.out]; rintro e w3 ⟨rfl, hx3⟩; replace c0 : w3.cell? ⟨w.heap.size, 0, none⟩ = some (.int .i64 wd) := hx3.cell c0; replace c1 : w3.cell? ⟨w.heap.size, 1, none⟩ = some (.slice ao Ls.length cap) := hx3.cell c1; replace hc := hx3.cell hc; replace hx3 := hx2.trans hx3) | (go_at_call 35; refine (rwide_any _ _).mono ?_; rintro e w4 ⟨rfl, rfl⟩) | (go_at_call 39; refine (rbeneath_any wd _ Ls R i _ (HV.out.ext hx3) hil).mono ?_; rw [HN.out]; rintro e w6 ⟨rfl, hx6⟩; replace c0 : w6.cell? ⟨w.heap.size, 0, none⟩ = some (.int .i64 wd) := hx6.cell c0; replace c1 : w6.cell? ⟨w.heap.size, 1, none⟩ = some (.slice ao Ls.length cap) := hx6.cell c1; replace hc := hx6.cell hc; replace hx6 := hx3.trans hx6) | (go_at_call 24; refine (error_any 2 2 _ (HG.out.ext hx6)).mono ?_; rintro e w7 ⟨rfl, hx7⟩))
    go_ret
    exact ⟨rfl, hx6.trans hx7⟩

set_option maxRecDepth 100000 in
set_option maxHeartbeats 4000000 in
theorem gatesParts_ok (p wd : Int) (lv vi vz vx : Value) (Ls : List (List Tri)) (R : Nat → Value) (inp z xs : List Int) (layer : Int) (w : World) (h : okP p) (hg : Hnd w) (hv : LysAt w lv Ls R) (hi : Ints w vi inp) (hz : Ints w vz z) (hx : Ints w vx xs) (hE : cirErr wd Ls = 0) (hF : wideOf inp.length = wd) (i : Nat) (hi2 : layer = i) (hl : layB i Ls.length = true) (f1 : (z.length : Int) = wideOf (nthY Ls i).length) (f2 : (xs.length : Int) ≤ 2 * beneath wd Ls i) :
    Calls Tryd.prog 8 #[.int .i64 p, .agg #[.int .i64 wd, lv], .int .i64 layer, vi, vz, vx] w fun e w' => e = .returned (.bool true) ∧ Ext w w' := by
  subst hi2
  have H := Lib.hid h; have HG := Lib.hid hg; have HV := Lib.hid hv; have HI := Lib.hid hi; have HZ := Lib.hid hz; have HXX := Lib.hid hx
  obtain ⟨hpp, lo, hip⟩ := h
  have hp2 : 2 ≤ p := by omega
  have hlen := hv.len
  have hll := hv.run_len (P := Tryd.prog) slLayers
  have hli := hi.run_len (P := Tryd.prog) slInts
  have hlz := hz.run_len (P := Tryd.prog) slInts
  have hlx := hx.run_len (P := Tryd.prog) slInts
  have hxl := hx.len
  obtain ⟨ao, cap, rfl⟩ := hv.shape
  have c0 := cell_new w #[.int .i64 wd, .slice ao Ls.length cap] 80 0
  have c1 := cell_new w #[.int .i64 wd, .slice ao Ls.length cap] 80 1
  clear hpp hg hv hi hz hx
  have HCE := Lib.hid hE
  have hil : i < Ls.length := by have := of_decide_eq_true hl; omega
  have hbd := beneath_bd (cirErr_ok hE).1 hil
  obtain ⟨n, hn⟩ := Int.eq_ofNat_of_zero_le hbd.1
  rw [hn] at hbd
  have HN := Lib.hid hn
  have b9 : (wideOf inp.length != wd) = false := by rw [bne_eq_false_iff_eq]; exact hF
  have hlen8 : Ls.length ≤ 8 := (cirErr_ok hE).1.2.2.2.1
  have hix := HV.out.run_index (P := Tryd.prog) slLayers i hil
  have hc := (HV.out.ext (Ext.alloc w (Obj.cells #[.int .i64 wd, .slice ao Ls.length cap] 80))).cell i hil
  have hln := (HV.out.row i hil).run_len (P := Tryd.prog) slGates
  have hrl := (HV.out.row i hil).len
  have HPE := Lib.hid (show partErr wd Ls inp.length i z.length xs.length = 0 from partErr_mk (walkErr_nil hE hF).1 hl (by rw [Int.toNat_natCast]; exact f1) (by rw [Int.toNat_natCast]; exact f2))
  have HIN := Lib.hid (walkErr_nil hE hF).2
  obtain ⟨N, hN⟩ : ∃ N, partS (nthY Ls i) n (vrow p Ls inp i) z xs (nthY Ls i).length % p = N := ⟨_, rfl⟩
  have HN2 := Lib.hid hN
  have HPR := Lib.hid (show partR p wd Ls inp i z xs = N by unfold partR partV; rw [HPE.out, if_pos rfl, Int.toNat_natCast, hn, Int.toNat_natCast]; exact hN)
  have e1 : ((z.length : Int) != wideOf (nthY Ls i).length) = false := by rw [bne_eq_false_iff_eq]; exact f1
  have hbp := below_pow (cirErr_ok hE).1 hil
  rw [hn, Int.toNat_natCast] at hbp
  have hgt := (cirErr_ok hE).2 i hil
  rw [hbp] at hgt
  have HGT := Lib.hid hgt
  have hwb := wideOf_bd (nthY Ls i).length
  have lz : z.length ≤ 30 := by omega
  have hwp := wideOf_pow ((cirErr_ok hE).1.2.2.2.2 i hil)
  rw [← f1, Int.toNat_natCast] at hwp
  have HLZ := Lib.hid (show (nthY Ls i).length ≤ 2 ^ z.length by have : (nthY Ls i).length = 2 ^ z.length := by exact_mod_cast hwp
                                                                 omega)
  rw [hn] at f2
  have hle : xs.length ≤ 2 * n := by omega
  have hn30 : n ≤ 30 := by omega
  have hbe : (N == N) = true := beq_self_eq_true N
  clear hE hF hl hn f1 hN hbp hgt hwp hwb
  go_enter Tryd.func8, Tryd.ntmps8
  go_wp2_with (first | (go_at_call 13; refine (sfield_ok _ _ H.out (HG.out.ext (Ext.alloc _ _))).mono ?_; rintro e w1 ⟨v, rfl, hx1, f, g0, rfl, hf⟩; obtain ⟨bf, rfl⟩ := hf.ptr; obtain ⟨fs, hfs⟩ := hf.fld; replace c0 : w1.cell? ⟨w.heap.size, 0, none⟩ = some (.int .i64 wd) := hx1.cell c0; replace c1 : w1.cell? ⟨w.heap.size, 1, none⟩ = some (.slice ao Ls.length cap) := hx1.cell c1; replace hc := hx1.cell hc; replace hx1 := (Ext.alloc _ _).trans hx1; have HF := Lib.hid hfs; clear hf hfs) | (go_at_call 41; refine (Part_any HF.out wd _ _ _ _ Ls R inp z xs i (HV.out.ext hx1) (HI.out.ext hx1) (HZ.out.ext hx1) (HXX.out.ext hx1)).mono ?_; rw [HPR.out, HPE.out]; rintro e w2 ⟨rfl, hx2⟩; replace c0 : w2.cell? ⟨w.heap.size, 0, none⟩ = some (.int .i64 wd) := hx2.cell c0; replace c1 : w2.cell? ⟨w.heap.size, 1, none⟩ = some (.slice ao Ls.length cap) := hx2.cell c1; replace hc := hx2.cell hc; replace hx2 := hx1.trans hx2) | (go_at_call 34; refine (rfaultc_any wd _ Ls R _ (HV.out.ext hx2)).mono ?_; rw [HCE.out]; rintro e w3 ⟨rfl, hx3⟩; replace c0 : w3.cell? ⟨w.heap.size, 0, none⟩ = some (.int .i64 wd) := hx3.cell c0; replace c1 : w3.cell? ⟨w.heap.size, 1, none⟩ = some (.slice ao Ls.length cap) := hx3.cell c1; replace hc := hx3.cell hc; replace hx3 := hx2.trans hx3) | (go_at_call 35; refine (rwide_any _ _).mono ?_; rintro e w4 ⟨rfl, rfl⟩) | (go_at_call 39; refine (rbeneath_any wd _ Ls R i _ (HV.out.ext hx3) hil).mono ?_; rw [HN.out]; rintro e w6 ⟨rfl, hx6⟩; replace c0 : w6.cell? ⟨w.heap.size, 0, none⟩ = some (.int .i64 wd) := hx6.cell c0; replace c1 : w6.cell? ⟨w.heap.size, 1, none⟩ = some (.slice ao Ls.length cap) := hx6.cell c1; replace hc := hx6.cell hc; replace hx6 := hx3.trans hx6) | (go_at_call 24; refine (error_any 0 0 _ (HG.out.ext hx6)).mono ?_; rintro e w7 ⟨rfl, hx7⟩; replace c0 : w7.cell? ⟨w.heap.size, 0, none⟩ = some (.int .i64 wd) := hx7.cell c0; replace c1 : w7.cell? ⟨w.heap.size, 1, none⟩ = some (.slice ao Ls.length cap) := hx7.cell c1; replace hc := hx7.cell hc; replace hx7 := hx6.trans hx7) | (go_at_call 36; refine (rvalues_any p wd _ _ Ls R inp _ hp2 hip (HV.out.ext hx7) (HI.out.ext hx7) HCE.out HIN.out).mono ?_; rintro e w8 ⟨v8, rfl, hx8, S, hr8⟩; have HS := Lib.hid hr8; clear hr8; replace c0 : w8.cell? ⟨w.heap.size, 0, none⟩ = some (.int .i64 wd) := hx8.cell c0; replace c1 : w8.cell? ⟨w.heap.size, 1, none⟩ = some (.slice ao Ls.length cap) := hx8.cell c1; replace hc := hx8.cell hc; replace hx8 := hx7.trans hx8))
  have hvl : i < (vals p Ls inp Ls.length).length := by rw [vals_length]; omega
  have hiv := HS.out.run_index (P := Tryd.prog) slRows i hvl
  have hcv := HS.out.cell i hvl
  have hrv := HS.out.row i hvl
  rw [vals_nth _ _ _ (by omega)] at hrv
  have HRV := Lib.hid hrv
  have hx9 : Ext w w8.drew := hx8.trans (Ext.drew w8)
  clear hrv hvl
  go_region_with (go_at_call 42; refine (rpart_any p _ _ _ _ (nthY Ls i) (vrow p Ls inp i) z xs n _ hp2 hip ((HV.out.row i hil).ext hx9) (HRV.out.ext (Ext.drew w8)) (HZ.out.ext hx9) (HXX.out.ext hx9) hn30 lz HLZ.out hle HGT.out).mono ?_; rw [HN2.out]; rintro e w10 ⟨rfl, hx10⟩)
  all_goals (try go_wp2_with fail)
  all_goals go_ret
  all_goals exact ⟨rfl, hx9.trans hx10⟩

end Go.Proofs.YthjemncbphdomaaDoor
