/- GatesCatches: what is not so is seen by nearly all numbers: the law's walk: for every input it returns true and leaves all that was there as it was. -/
import Derived.Test.YthjemncbphdomaaDoorR1
namespace Go.Att
open Go.RowKit
theorem oneC_perr : partErr 0 oneC ([1] : List Int).length 0 ([] : List Int).length ([] : List Int).length = 0 := partErr_mk oneC_walk (by decide) (by decide) (by simp [beneath])
theorem oneC_part {p : Int} (hp : 2 ≤ p) : partR p 0 oneC [1] 0 [] [] = 1 := by
  have h1 : (1 : Int) % p = 1 := one_mod hp
  have e := partR_ok (p := p) (inp := [1]) (z := []) (xs := []) (i := 0) oneC_perr
  rw [show ((0 : Nat) : Int) = 0 from rfl] at e
  rw [e, layer_sum oneC_err (by decide) (by decide), oneC_row hp]
  simp [ext, exS, wgt_nil, nth, h1]
theorem cntN_step_t {P : Nat → Bool} {n : Nat} (h : P n = true) : cntN P (n + 1) = cntN P n + 1 := by simp only [cntN]; rw [if_pos h]
theorem cntN_step_f {P : Nat → Bool} {n : Nat} (h : P n = false) : cntN P (n + 1) = cntN P n := by simp only [cntN]; rw [if_neg (by rw [h]; decide)]; rfl
theorem unlN_step_t {P : Nat → Bool} {v n : Nat} (h : P n = true) : unlN P v (n + 1) = unlN P v n := by simp [unlN, h]
theorem unlN_step_o {P : Nat → Bool} {v n : Nat} (h : ¬ n ≤ v) : unlN P v (n + 1) = unlN P v n := by simp [unlN, h]
theorem unlN_step_f {P : Nat → Bool} {v n : Nat} (h : P n = false) (h2 : n ≤ v) : unlN P v (n + 1) = true := by simp [unlN, h, h2]
end Go.Att
namespace Go.Proofs.YthjemncbphdomaaDoor
open Go.RowKit Go.Att

set_option maxRecDepth 100000 in
set_option maxHeartbeats 4000000 in
theorem gatesCatches_bad (p : Int) (c v2 v3 v4 v5 v6 v7 v8 : Value) (w : World) (wd : Int) (lv : Value) (hc : c = .agg #[.int .i64 wd, lv]) (h : ¬ okP p) (hg : Hnd w) :
    Calls Tryd.prog 11 #[.int .i64 p, c, v2, v3, v4, v5, v6, v7, v8] w fun e w' => e = .returned (.bool true) ∧ Ext w w' := by
  subst hc
  have H := Lib.hid h; have HG := Lib.hid hg; clear h hg
  go_enter Tryd.func11, Tryd.ntmps11
  go_wp2_with (go_at_call 13; refine (sfield_bad _ _ H.out (HG.out.ext (Ext.alloc _ _))).mono ?_; rintro e w' ⟨v, rfl, hx, rfl⟩)
  go_ret
  exact ⟨rfl, (Ext.alloc _ _).trans hx⟩

set_option maxRecDepth 100000 in
set_option maxHeartbeats 4000000 in
theorem gatesCatches_big (p : Int) (c v2 v3 v4 v5 v6 v7 v8 : Value) (w : World) (wd : Int) (lv : Value) (hc : c = .agg #[.int .i64 wd, lv]) (h : okP p) (hb : 200 < p) (hg : Hnd w) :
    Calls Tryd.prog 11 #[.int .i64 p, c, v2, v3, v4, v5, v6, v7, v8] w fun e w' => e = .returned (.bool true) ∧ Ext w w' := by
  subst hc
  have H := Lib.hid h; have HG := Lib.hid hg; clear h hg
  go_enter Tryd.func11, Tryd.ntmps11
  go_wp2_with (go_at_call 13; refine (sfield_ok _ _ H.out (HG.out.ext (Ext.alloc _ _))).mono ?_; rintro e w1 ⟨v, rfl, hx, f, g0, rfl, hf⟩; obtain ⟨bf, rfl⟩ := hf.ptr)
  go_ret
  exact ⟨rfl, (Ext.alloc _ _).trans hx⟩


set_option maxRecDepth 100000 in
set_option maxHeartbeats 4000000 in
theorem gatesCatches_w (p wd : Int) (lv vi vz vt vx vy vl : Value) (Ls : List (List Tri)) (R : Nat → Value) (inp z told x y line : List Int) (layer : Int) (w : World) (h : okP p) (hg : Hnd w) (hp200 : p ≤ 200) (hv : LysAt w lv Ls R) (hi : Ints w vi inp) (hz : Ints w vz z) (ht : Ints w vt told) (hx : Ints w vx x) (hy : Ints w vy y) (hl : Ints w vl line) (hE : walkErr wd Ls inp.length ≠ 0) :
    Calls Tryd.prog 11 #[.int .i64 p, .agg #[.int .i64 wd, lv], .int .i64 layer, vi, vz, vt, vx, vy, vl] w fun e w' => e = .returned (.bool true) ∧ Ext w w' := by
  have H := Lib.hid h; have HG := Lib.hid hg; have HV := Lib.hid hv; have HI := Lib.hid hi; have HZ := Lib.hid hz; have HT := Lib.hid ht; have HXX := Lib.hid hx; have HY := Lib.hid hy; have HL := Lib.hid hl
  obtain ⟨hpp, lo, hip⟩ := h
  have HPP := Lib.hid hpp
  have hp2 : 2 ≤ p := by omega
  have hlen := hv.len
  have hlt := ht.run_len (P := Tryd.prog) slInts
  have hlx := hx.run_len (P := Tryd.prog) slInts
  have hly := hy.run_len (P := Tryd.prog) slInts
  have hll := hl.run_len (P := Tryd.prog) slInts
  have HC1 := Lib.hid (oneC_part hp2)
  have HC2 := Lib.hid oneC_perr
  obtain ⟨ao, cap, rfl⟩ := hv.shape
  have c0 := cell_new w #[.int .i64 wd, .slice ao Ls.length cap] 80 0
  have c1 := cell_new w #[.int .i64 wd, .slice ao Ls.length cap] 80 1
  clear hpp hg hv hi hz ht hx hy hl
  have HW := Lib.hid hE
  have EW := Lib.hid (errv_pos hE)
  have HPE := Lib.hid (partErr_1 (layer := layer) (lz := z.length) (lx := ([] : List Int).length) hE)
  have HPR := Lib.hid (partR_bad (p := p) (inp := inp) (z := z) (xs := []) HPE.out hE)
  clear hE
  go_enter Tryd.func11, Tryd.ntmps11
  go_wp2_with (go_at_call 13; refine (sfield_ok _ _ H.out (HG.out.ext (Ext.alloc _ _))).mono ?_; rintro e w1 ⟨v, rfl, hx1, f, g0, rfl, hf⟩; obtain ⟨bf, rfl⟩ := hf.ptr; obtain ⟨fs, hfs⟩ := hf.fld; replace c0 : w1.cell? ⟨w.heap.size, 0, none⟩ = some (.int .i64 wd) := hx1.cell c0; replace c1 : w1.cell? ⟨w.heap.size, 1, none⟩ = some (.slice ao Ls.length cap) := hx1.cell c1; replace hx1 := (Ext.alloc _ _).trans hx1; have HF := Lib.hid hfs; clear hf hfs)
  have hxa := (Ext.alloc w1 (Obj.cells #[.int .i64 1, .int .i64 0, .int .i64 0] 104)).trans ((Ext.alloc _ (Obj.cells #[.slice (some ⟨w1.heap.size, 0, none⟩) 1 1] 89)).trans (Ext.alloc _ (Obj.cells #[.int .i64 1] 3)))
  have IL := ints_lit ((w1.alloc (Obj.cells #[.int .i64 1, .int .i64 0, .int .i64 0] 104)).alloc (Obj.cells #[.slice (some ⟨w1.heap.size, 0, none⟩) 1 1] 89)) 1 3
  rw [show ((w1.alloc (Obj.cells #[.int .i64 1, .int .i64 0, .int .i64 0] 104)).alloc (Obj.cells #[.slice (some ⟨w1.heap.size, 0, none⟩) 1 1] 89)).heap.size = w1.heap.size + 1 + 1 by simp] at IL
  refine (Part_any (HF.out.ext hxa) 0 _ _ _ _ oneC _ [1] [] [] 0 ((lys_one w1 104 89).ext (Ext.alloc _ _)) IL (Ints.nil _) (Ints.nil _)).mono ?_
  rw [HC1.out, HC2.out, errv_zero]
  rintro e w2 ⟨rfl, hx2⟩
  replace hx2 := hxa.trans hx2
  replace c0 : w2.cell? ⟨w.heap.size, 0, none⟩ = some (.int .i64 wd) := hx2.cell c0
  replace c1 : w2.cell? ⟨w.heap.size, 1, none⟩ = some (.slice ao Ls.length cap) := hx2.cell c1
  replace HF := Lib.hid (HF.out.ext hx2)
  replace hx2 := hx1.trans hx2
  clear hxa
  go_wp2_with fail
  refine (Part_any HF.out wd _ _ _ _ Ls R inp z [] layer (HV.out.ext hx2) (HI.out.ext hx2) (HZ.out.ext hx2) (Ints.nil _)).mono ?_
  rw [HPR.out, HPE.out, EW.out]
  rintro e w3 ⟨rfl, hx3⟩
  replace c0 : w3.cell? ⟨w.heap.size, 0, none⟩ = some (.int .i64 wd) := hx3.cell c0
  replace c1 : w3.cell? ⟨w.heap.size, 1, none⟩ = some (.slice ao Ls.length cap) := hx3.cell c1
  replace hx3 := hx2.trans hx3
  go_wp2_with (go_at_call 33; refine (values_bad _ wd _ _ Ls R inp _ (HV.out.ext hx3) (HI.out.ext hx3) HW.out).mono ?_; rw [EW.out]; rintro e w4 ⟨rfl, hx4⟩; replace c0 : w4.cell? ⟨w.heap.size, 0, none⟩ = some (.int .i64 wd) := hx4.cell c0; replace c1 : w4.cell? ⟨w.heap.size, 1, none⟩ = some (.slice ao Ls.length cap) := hx4.cell c1; replace hx4 := hx3.trans hx4)
  go_ret
  exact ⟨rfl, hx4⟩

set_option maxRecDepth 100000 in
set_option maxHeartbeats 4000000 in
theorem gatesCatches_p (p wd : Int) (lv vi vz vt vx vy vl : Value) (Ls : List (List Tri)) (R : Nat → Value) (inp z told x y line : List Int) (layer : Int) (w : World) (h : okP p) (hg : Hnd w) (hp200 : p ≤ 200) (hv : LysAt w lv Ls R) (hi : Ints w vi inp) (hz : Ints w vz z) (ht : Ints w vt told) (hx : Ints w vx x) (hy : Ints w vy y) (hl : Ints w vl line) (hE : walkErr wd Ls inp.length = 0) (hP : partErr wd Ls inp.length layer z.length 0 ≠ 0) :
    Calls Tryd.prog 11 #[.int .i64 p, .agg #[.int .i64 wd, lv], .int .i64 layer, vi, vz, vt, vx, vy, vl] w fun e w' => e = .returned (.bool true) ∧ Ext w w' := by
  have H := Lib.hid h; have HG := Lib.hid hg; have HV := Lib.hid hv; have HI := Lib.hid hi; have HZ := Lib.hid hz; have HT := Lib.hid ht; have HXX := Lib.hid hx; have HY := Lib.hid hy; have HL := Lib.hid hl
  obtain ⟨hpp, lo, hip⟩ := h
  have HPP := Lib.hid hpp
  have hp2 : 2 ≤ p := by omega
  have hlen := hv.len
  have hlt := ht.run_len (P := Tryd.prog) slInts
  have hlx := hx.run_len (P := Tryd.prog) slInts
  have hly := hy.run_len (P := Tryd.prog) slInts
  have hll := hl.run_len (P := Tryd.prog) slInts
  have HC1 := Lib.hid (oneC_part hp2)
  have HC2 := Lib.hid oneC_perr
  obtain ⟨ao, cap, rfl⟩ := hv.shape
  have c0 := cell_new w #[.int .i64 wd, .slice ao Ls.length cap] 80 0
  have c1 := cell_new w #[.int .i64 wd, .slice ao Ls.length cap] 80 1
  clear hpp hg hv hi hz ht hx hy hl
  have HW := Lib.hid hE
  have HPE := Lib.hid (show partErr wd Ls inp.length layer z.length ([] : List Int).length = partErr wd Ls inp.length layer z.length 0 from rfl)
  have HPR := Lib.hid (partR_bad (p := p) (inp := inp) (z := z) (xs := []) HPE.out hP)
  have EP := Lib.hid (errv_pos hP)
  clear hE hP
  go_enter Tryd.func11, Tryd.ntmps11
  go_wp2_with (go_at_call 13; refine (sfield_ok _ _ H.out (HG.out.ext (Ext.alloc _ _))).mono ?_; rintro e w1 ⟨v, rfl, hx1, f, g0, rfl, hf⟩; obtain ⟨bf, rfl⟩ := hf.ptr; obtain ⟨fs, hfs⟩ := hf.fld; replace c0 : w1.cell? ⟨w.heap.size, 0, none⟩ = some (.int .i64 wd) := hx1.cell c0; replace c1 : w1.cell? ⟨w.heap.size, 1, none⟩ = some (.slice ao Ls.length cap) := hx1.cell c1; replace hx1 := (Ext.alloc _ _).trans hx1; have HF := Lib.hid hfs; clear hf hfs)
  have hxa := (Ext.alloc w1 (Obj.cells #[.int .i64 1, .int .i64 0, .int .i64 0] 104)).trans ((Ext.alloc _ (Obj.cells #[.slice (some ⟨w1.heap.size, 0, none⟩) 1 1] 89)).trans (Ext.alloc _ (Obj.cells #[.int .i64 1] 3)))
  have IL := ints_lit ((w1.alloc (Obj.cells #[.int .i64 1, .int .i64 0, .int .i64 0] 104)).alloc (Obj.cells #[.slice (some ⟨w1.heap.size, 0, none⟩) 1 1] 89)) 1 3
  rw [show ((w1.alloc (Obj.cells #[.int .i64 1, .int .i64 0, .int .i64 0] 104)).alloc (Obj.cells #[.slice (some ⟨w1.heap.size, 0, none⟩) 1 1] 89)).heap.size = w1.heap.size + 1 + 1 by simp] at IL
  refine (Part_any (HF.out.ext hxa) 0 _ _ _ _ oneC _ [1] [] [] 0 ((lys_one w1 104 89).ext (Ext.alloc _ _)) IL (Ints.nil _) (Ints.nil _)).mono ?_
  rw [HC1.out, HC2.out, errv_zero]
  rintro e w2 ⟨rfl, hx2⟩
  replace hx2 := hxa.trans hx2
  replace c0 : w2.cell? ⟨w.heap.size, 0, none⟩ = some (.int .i64 wd) := hx2.cell c0
  replace c1 : w2.cell? ⟨w.heap.size, 1, none⟩ = some (.slice ao Ls.length cap) := hx2.cell c1
  replace HF := Lib.hid (HF.out.ext hx2)
  replace hx2 := hx1.trans hx2
  clear hxa
  go_wp2_with fail
  refine (Part_any HF.out wd _ _ _ _ Ls R inp z [] layer (HV.out.ext hx2) (HI.out.ext hx2) (HZ.out.ext hx2) (Ints.nil _)).mono ?_
  rw [HPR.out, HPE.out, EP.out]
  rintro e w3 ⟨rfl, hx3⟩
  replace c0 : w3.cell? ⟨w.heap.size, 0, none⟩ = some (.int .i64 wd) := hx3.cell c0
  replace c1 : w3.cell? ⟨w.heap.size, 1, none⟩ = some (.slice ao Ls.length cap) := hx3.cell c1
  replace HF := Lib.hid (HF.out.ext hx3)
  replace hx3 := hx2.trans hx3
  go_wp2_with (go_at_call 33; refine (values_ok HF.out wd _ _ Ls R inp (HV.out.ext hx3) (HI.out.ext hx3) HW.out).mono ?_; rintro e w4 ⟨v4, rfl, hx4, u4, rfl, S, hr4⟩; have HS := Lib.hid hr4; have hlv := hr4.run_len (P := Tryd.prog) slRows; rw [vals_length] at hlv; clear hr4; replace c0 : w4.cell? ⟨w.heap.size, 0, none⟩ = some (.int .i64 wd) := hx4.cell c0; replace c1 : w4.cell? ⟨w.heap.size, 1, none⟩ = some (.slice ao Ls.length cap) := hx4.cell c1; replace HF := Lib.hid (HF.out.ext hx4); replace hx4 := hx3.trans hx4)
  go_ret
  exact ⟨rfl, hx4⟩

set_option maxRecDepth 100000 in
set_option maxHeartbeats 4000000 in
theorem gatesCatches_a (p wd : Int) (lv vi vz vt vx vy vl : Value) (Ls : List (List Tri)) (R : Nat → Value) (inp z told x y line : List Int) (layer : Int) (w : World) (h : okP p) (hg : Hnd w) (hp200 : p ≤ 200) (hv : LysAt w lv Ls R) (hi : Ints w vi inp) (hz : Ints w vz z) (ht : Ints w vt told) (hx : Ints w vx x) (hy : Ints w vy y) (hl : Ints w vl line) (hE : walkErr wd Ls inp.length = 0) (i : Nat) (hi2 : layer = i) (hP : partErr wd Ls inp.length i z.length 0 = 0) (hQ : partErr wd Ls inp.length i z.length 1 ≠ 0) :
    Calls Tryd.prog 11 #[.int .i64 p, .agg #[.int .i64 wd, lv], .int .i64 layer, vi, vz, vt, vx, vy, vl] w fun e w' => e = .returned (.bool true) ∧ Ext w w' := by
  subst hi2
  have H := Lib.hid h; have HG := Lib.hid hg; have HV := Lib.hid hv; have HI := Lib.hid hi; have HZ := Lib.hid hz; have HT := Lib.hid ht; have HXX := Lib.hid hx; have HY := Lib.hid hy; have HL := Lib.hid hl
  obtain ⟨hpp, lo, hip⟩ := h
  have HPP := Lib.hid hpp
  have hp2 : 2 ≤ p := by omega
  have hlen := hv.len
  have hlt := ht.run_len (P := Tryd.prog) slInts
  have hlx := hx.run_len (P := Tryd.prog) slInts
  have hly := hy.run_len (P := Tryd.prog) slInts
  have hll := hl.run_len (P := Tryd.prog) slInts
  have HC1 := Lib.hid (oneC_part hp2)
  have HC2 := Lib.hid oneC_perr
  obtain ⟨ao, cap, rfl⟩ := hv.shape
  have c0 := cell_new w #[.int .i64 wd, .slice ao Ls.length cap] 80 0
  have c1 := cell_new w #[.int .i64 wd, .slice ao Ls.length cap] 80 1
  clear hpp hg hv hi hz ht hx hy hl
  have HW := Lib.hid hE
  have hpo := partErr_ok hP
  rw [Int.toNat_natCast] at hpo
  have hil : i < Ls.length := by have := of_decide_eq_true hpo.2.1; omega
  have HCE := Lib.hid (walkErr_ok hE).1
  have HIN := Lib.hid (walkErr_ok hE).2
  have hlen8 : Ls.length ≤ 8 := (cirErr_ok HCE.out).1.2.2.2.1
  have hbd := beneath_bd (cirErr_ok HCE.out).1 hil
  obtain ⟨n, hn⟩ := Int.eq_ofNat_of_zero_le hbd.1
  rw [hn] at hbd
  have hn6 : n ≤ 6 := by omega
  have HRL := Lib.hid (vrow_two (p := p) HCE.out HIN.out hil hn)
  have HVO := Lib.hid (show varOf (vrow p Ls inp i).length = n by rw [HRL.out, Int.natCast_pow]; exact varOf_of n (by omega))
  obtain ⟨N, hN⟩ : ∃ N, partV p wd Ls inp i z [] = N := ⟨_, rfl⟩
  have HPR := Lib.hid ((partR_ok (p := p) (inp := inp) (z := z) (xs := []) hP).trans hN)
  have HPE := Lib.hid (show partErr wd Ls inp.length i z.length ([] : List Int).length = 0 from hP)
  have HPN := Lib.hid (show partS (nthY Ls i) n (vrow p Ls inp i) z [] (nthY Ls i).length % p = N by rw [← hN]; unfold partV; rw [hn, Int.toNat_natCast])
  have HBN := Lib.hid hn
  have HQE := Lib.hid (show partErr wd Ls inp.length i z.length ([0] : List Int).length = partErr wd Ls inp.length i z.length 1 from rfl)
  have HQR := Lib.hid (partR_bad (p := p) (inp := inp) (z := z) (xs := [0]) HQE.out hQ)
  have EQ := Lib.hid (errv_pos hQ)
  clear hQ
  clear hE hP hN hn hpo hbd
  go_enter Tryd.func11, Tryd.ntmps11
  go_wp2_with (go_at_call 13; refine (sfield_ok _ _ H.out (HG.out.ext (Ext.alloc _ _))).mono ?_; rintro e w1 ⟨v, rfl, hx1, f, g0, rfl, hf⟩; obtain ⟨bf, rfl⟩ := hf.ptr; obtain ⟨fs, hfs⟩ := hf.fld; replace c0 : w1.cell? ⟨w.heap.size, 0, none⟩ = some (.int .i64 wd) := hx1.cell c0; replace c1 : w1.cell? ⟨w.heap.size, 1, none⟩ = some (.slice ao Ls.length cap) := hx1.cell c1; replace hx1 := (Ext.alloc _ _).trans hx1; have HF := Lib.hid hfs; clear hf hfs)
  have hxa := (Ext.alloc w1 (Obj.cells #[.int .i64 1, .int .i64 0, .int .i64 0] 104)).trans ((Ext.alloc _ (Obj.cells #[.slice (some ⟨w1.heap.size, 0, none⟩) 1 1] 89)).trans (Ext.alloc _ (Obj.cells #[.int .i64 1] 3)))
  have IL := ints_lit ((w1.alloc (Obj.cells #[.int .i64 1, .int .i64 0, .int .i64 0] 104)).alloc (Obj.cells #[.slice (some ⟨w1.heap.size, 0, none⟩) 1 1] 89)) 1 3
  rw [show ((w1.alloc (Obj.cells #[.int .i64 1, .int .i64 0, .int .i64 0] 104)).alloc (Obj.cells #[.slice (some ⟨w1.heap.size, 0, none⟩) 1 1] 89)).heap.size = w1.heap.size + 1 + 1 by simp] at IL
  refine (Part_any (HF.out.ext hxa) 0 _ _ _ _ oneC _ [1] [] [] 0 ((lys_one w1 104 89).ext (Ext.alloc _ _)) IL (Ints.nil _) (Ints.nil _)).mono ?_
  rw [HC1.out, HC2.out, errv_zero]
  rintro e w2 ⟨rfl, hx2⟩
  replace hx2 := hxa.trans hx2
  replace c0 : w2.cell? ⟨w.heap.size, 0, none⟩ = some (.int .i64 wd) := hx2.cell c0
  replace c1 : w2.cell? ⟨w.heap.size, 1, none⟩ = some (.slice ao Ls.length cap) := hx2.cell c1
  replace HF := Lib.hid (HF.out.ext hx2)
  replace hx2 := hx1.trans hx2
  clear hxa
  go_wp2_with fail
  refine (Part_any HF.out wd _ _ _ _ Ls R inp z [] i (HV.out.ext hx2) (HI.out.ext hx2) (HZ.out.ext hx2) (Ints.nil _)).mono ?_
  rw [HPR.out, HPE.out, errv_zero]
  rintro e w3 ⟨rfl, hx3⟩
  replace c0 : w3.cell? ⟨w.heap.size, 0, none⟩ = some (.int .i64 wd) := hx3.cell c0
  replace c1 : w3.cell? ⟨w.heap.size, 1, none⟩ = some (.slice ao Ls.length cap) := hx3.cell c1
  replace HF := Lib.hid (HF.out.ext hx3)
  replace hx3 := hx2.trans hx3
  go_wp2_with (go_at_call 33; refine (values_ok HF.out wd _ _ Ls R inp (HV.out.ext hx3) (HI.out.ext hx3) HW.out).mono ?_; rintro e w4 ⟨v4, rfl, hx4, u4, rfl, S, hr4⟩; have HS := Lib.hid hr4; have hlv := hr4.run_len (P := Tryd.prog) slRows; rw [vals_length] at hlv; clear hr4; replace c0 : w4.cell? ⟨w.heap.size, 0, none⟩ = some (.int .i64 wd) := hx4.cell c0; replace c1 : w4.cell? ⟨w.heap.size, 1, none⟩ = some (.slice ao Ls.length cap) := hx4.cell c1; replace HF := Lib.hid (HF.out.ext hx4); replace hx4 := hx3.trans hx4)
  have hx4a := hx4.trans (Ext.alloc w4 (Obj.cells #[.int .i64 0] 3))
  refine (Part_any (HF.out.ext (Ext.alloc w4 _)) wd _ _ _ _ Ls R inp z [0] i (HV.out.ext hx4a) (HI.out.ext hx4a) (HZ.out.ext hx4a) (ints_lit w4 0 3)).mono ?_
  rw [HQR.out, HQE.out, EQ.out]
  rintro e w5 ⟨rfl, hx5⟩
  replace hx5 := (Ext.alloc w4 (Obj.cells #[.int .i64 0] 3)).trans hx5
  replace c0 : w5.cell? ⟨w.heap.size, 0, none⟩ = some (.int .i64 wd) := hx5.cell c0
  replace c1 : w5.cell? ⟨w.heap.size, 1, none⟩ = some (.slice ao Ls.length cap) := hx5.cell c1
  replace HF := Lib.hid (HF.out.ext hx5)
  replace HS := Lib.hid (HS.out.ext hx5)
  replace hx5 := hx4.trans hx5
  have hvl : i < (vals p Ls inp Ls.length).length := by rw [vals_length]; omega
  have hiv := HS.out.run_index (P := Tryd.prog) slRows i hvl
  have hcv := HS.out.cell i hvl
  have hrv := HS.out.row i hvl
  rw [vals_nth _ _ _ (by omega)] at hrv
  have HRV := Lib.hid hrv
  clear hrv hvl
  by_cases d0 : (x.length : Int) = n
  case neg =>
    have b0 : ((x.length : Int) != (n : Int)) = true := by rw [bne_iff_ne]; exact d0
    go_wp2_with (go_at_call 50; refine (rvars_any _ _ _ HRV.out).mono ?_; rw [HVO.out]; rintro e w' ⟨rfl, rfl⟩)
    go_ret
    exact ⟨rfl, hx5⟩
  have b0 : ((x.length : Int) != (n : Int)) = false := by rw [bne_eq_false_iff_eq]; exact d0
  by_cases d1 : (y.length : Int) = n
  case neg =>
    have b1 : ((y.length : Int) != (n : Int)) = true := by rw [bne_iff_ne]; exact d1
    go_wp2_with (go_at_call 50; refine (rvars_any _ _ _ HRV.out).mono ?_; rw [HVO.out]; rintro e w' ⟨rfl, rfl⟩)
    go_ret
    exact ⟨rfl, hx5⟩
  have b1 : ((y.length : Int) != (n : Int)) = false := by rw [bne_eq_false_iff_eq]; exact d1
  by_cases d2 : (line.length : Int) = n + 1
  case neg =>
    have b2 : ((line.length : Int) != (n : Int) + 1) = true := by rw [bne_iff_ne]; exact d2
    go_wp2_with (go_at_call 50; refine (rvars_any _ _ _ HRV.out).mono ?_; rw [HVO.out]; rintro e w' ⟨rfl, rfl⟩)
    go_ret
    exact ⟨rfl, hx5⟩
  have b2 : ((line.length : Int) != (n : Int) + 1) = false := by rw [bne_eq_false_iff_eq]; exact d2
  obtain ⟨P2, hP2⟩ : ∃ P2 : Nat → Bool, ∀ s, P2 s = (ev (fitL p (idxL line.length) line) (s : Int) % p == ext (vrow p Ls inp i) (onL p x y (s : Int)) % p) := ⟨_, fun _ => rfl⟩
  have HC := Lib.hid (catch2 HPP.out (vrow p Ls inp i) x y line n (by omega) (by omega) (by omega) P2 hP2)
  have HP2 := Lib.hid hP2
  have HD0 := Lib.hid (show x.length = n by omega)
  have HD1 := Lib.hid (show x.length ≤ y.length by omega)
  have HD2 := Lib.hid (show line.length ≤ 100000 by omega)
  have hx7 : x.length ≤ 100000 := by omega
  clear hP2 d0 d1 d2
  go_wp2_with (go_at_call 50; refine (rvars_any _ _ _ HRV.out).mono ?_; rw [HVO.out]; rintro e w' ⟨rfl, rfl⟩)
  clear hiv hcv c0 c1
  go_loopw [34, 35, 36, 37, 38, 39, 40] (fun x34 x35 x36 _ _ _ _ ws => ∃ t : Nat, (t : Int) ≤ p ∧ x36 = .int .i64 t ∧ x35 = .int .i64 (cntN P2 t : Nat) ∧ x34 = .bool (unlN P2 n t) ∧ Ext w5 ws) (fun _ _ x36 _ _ _ _ _ => p.toNat - (intOf x36).toNat)
  case atStart => exact ⟨0, by omega, rfl, rfl, rfl, Ext.refl _⟩
  case round =>
    obtain ⟨t, htp, rfl, rfl, rfl, hws⟩ := hrel
    have hcn := cntN_le P2 t
    by_cases htl : (t : Int) < p
    · have hvl : i < (vals p Ls inp Ls.length).length := by rw [vals_length]; omega
      have hiv := HS.out.run_index (P := Tryd.prog) slRows i hvl
      have hcv := (HS.out.ext hws).cell i hvl
      have hxs := hx5.trans hws
      obtain ⟨M, hM⟩ : ∃ M, ext (vrow p Ls inp i) (onL p x y (t : Int)) % p = M := ⟨_, rfl⟩
      obtain ⟨K, hK⟩ : ∃ K, ev (fitL p (idxL line.length) line) (t : Int) % p = K := ⟨_, rfl⟩
      have hKM := HP2.out t
      rw [hM, hK] at hKM
      have HM := Lib.hid hM; have HK := Lib.hid hK
      have HOL := Lib.hid (show (onL p x y (t : Int)).length = n by rw [onL_length]; exact HD0.out)
      clear hM hK hvl
      cases hPt : P2 t with
      | true =>
        rw [hPt] at hKM
        have k1 : (K == M) = true := hKM.symm
        have k2 : (K != M) = false := by rw [bne_eq_false_iff_eq]; exact beq_iff_eq.1 k1
        have HS1 := Lib.hid (cntN_step_t hPt)
        have HS2 := Lib.hid (unlN_step_t (v := n) hPt)
        clear hKM hPt
        generalize cntN P2 t = Cn at *
        generalize unlN P2 n t = Bn at *
        by_cases htv : t ≤ n
        all_goals
          go_wp2_with (first | (go_at_call 51; refine (ron_any p t _ _ x y _ hp2 hip (HXX.out.ext hxs) (HY.out.ext hxs) hx7 HD1.out).mono ?_; rintro e wa ⟨ua, rfl, hxa, hua⟩; have HUA := Lib.hid hua; clear hua; replace hcv := hxa.cell hcv) | (go_at_call 47; refine (sExtend_ok ((HF.out.ext hws).ext hxa) _ _ (vrow p Ls inp i) (onL p x y (t : Int)) ((HRV.out.ext hws).ext hxa) HUA.out n (by omega) HRL.out HOL.out).mono ?_; rw [HM.out]; rintro e wb ⟨rfl, hxb⟩) | (go_at_call 49; refine (rthrough_any p t _ line _ hp2 hip (((HL.out.ext hxs).ext hxa).ext hxb) HD2.out).mono ?_; rw [HK.out]; rintro e wc ⟨rfl, hxc⟩))
          go_roundw
          case rel => exact ⟨t + 1, by omega, by go_num, by rw [HS1.out]; go_num, by rw [HS2.out], hws.trans (hxa.trans (hxb.trans hxc))⟩
          case measure => simp [intOf]; omega
      | false =>
        rw [hPt] at hKM
        have k1 : (K == M) = false := hKM.symm
        have k2 : (K != M) = true := by rw [bne_iff_ne]; exact beq_eq_false_iff_ne.1 k1
        have HS1 := Lib.hid (cntN_step_f hPt)
        by_cases htv : t ≤ n
        · have HS2 := Lib.hid (unlN_step_f hPt htv)
          clear hKM hPt
          generalize cntN P2 t = Cn at *
          generalize unlN P2 n t = Bn at *
          go_wp2_with (first | (go_at_call 51; refine (ron_any p t _ _ x y _ hp2 hip (HXX.out.ext hxs) (HY.out.ext hxs) hx7 HD1.out).mono ?_; rintro e wa ⟨ua, rfl, hxa, hua⟩; have HUA := Lib.hid hua; clear hua; replace hcv := hxa.cell hcv) | (go_at_call 47; refine (sExtend_ok ((HF.out.ext hws).ext hxa) _ _ (vrow p Ls inp i) (onL p x y (t : Int)) ((HRV.out.ext hws).ext hxa) HUA.out n (by omega) HRL.out HOL.out).mono ?_; rw [HM.out]; rintro e wb ⟨rfl, hxb⟩) | (go_at_call 49; refine (rthrough_any p t _ line _ hp2 hip (((HL.out.ext hxs).ext hxa).ext hxb) HD2.out).mono ?_; rw [HK.out]; rintro e wc ⟨rfl, hxc⟩))
          go_roundw
          case rel => exact ⟨t + 1, by omega, by go_num, by rw [HS1.out], by rw [HS2.out], hws.trans (hxa.trans (hxb.trans hxc))⟩
          case measure => simp [intOf]; omega
        · have HS2 := Lib.hid (unlN_step_o (P := P2) htv)
          clear hKM hPt
          generalize cntN P2 t = Cn at *
          generalize unlN P2 n t = Bn at *
          go_wp2_with (first | (go_at_call 51; refine (ron_any p t _ _ x y _ hp2 hip (HXX.out.ext hxs) (HY.out.ext hxs) hx7 HD1.out).mono ?_; rintro e wa ⟨ua, rfl, hxa, hua⟩; have HUA := Lib.hid hua; clear hua; replace hcv := hxa.cell hcv) | (go_at_call 47; refine (sExtend_ok ((HF.out.ext hws).ext hxa) _ _ (vrow p Ls inp i) (onL p x y (t : Int)) ((HRV.out.ext hws).ext hxa) HUA.out n (by omega) HRL.out HOL.out).mono ?_; rw [HM.out]; rintro e wb ⟨rfl, hxb⟩) | (go_at_call 49; refine (rthrough_any p t _ line _ hp2 hip (((HL.out.ext hxs).ext hxa).ext hxb) HD2.out).mono ?_; rw [HK.out]; rintro e wc ⟨rfl, hxc⟩))
          go_roundw
          case rel => exact ⟨t + 1, by omega, by go_num, by rw [HS1.out], by rw [HS2.out], hws.trans (hxa.trans (hxb.trans hxc))⟩
          case measure => simp [intOf]; omega
    · have ht : p.toNat = t := by omega
      have hCC := HC.out
      rw [ht] at hCC
      obtain ⟨C1, C2⟩ := hCC
      clear ht
      cases hB : unlN P2 n t with
      | false =>
        have hC := C1 hB
        generalize cntN P2 t = Cn at *
        have hCp : ((t : Int) == p) = true := by rw [beq_iff_eq]; omega
        have HCP := Lib.hid hCp
        clear C1 C2 hB hCp
        go_wp2_with fail
        go_ret
        exact ⟨ret_bool HCP.out, hx5.trans hws⟩
      | true =>
        have hC := C2 hB
        generalize cntN P2 t = Cn at *
        have hCp : (Cn : Int) ≤ n := by omega
        clear C1 C2 hB
        go_wp2_with fail
        go_ret
        exact ⟨rfl, hx5.trans hws⟩

set_option maxRecDepth 100000 in
set_option maxHeartbeats 4000000 in
theorem gatesCatches_b (p wd : Int) (lv vi vz vt vx vy vl : Value) (Ls : List (List Tri)) (R : Nat → Value) (inp z told x y line : List Int) (layer : Int) (w : World) (h : okP p) (hg : Hnd w) (hp200 : p ≤ 200) (hv : LysAt w lv Ls R) (hi : Ints w vi inp) (hz : Ints w vz z) (ht : Ints w vt told) (hx : Ints w vx x) (hy : Ints w vy y) (hl : Ints w vl line) (hE : walkErr wd Ls inp.length = 0) (i : Nat) (hi2 : layer = i) (hP : partErr wd Ls inp.length i z.length 0 = 0) (hQ : partErr wd Ls inp.length i z.length 1 = 0) (h3 : told.length ≠ 3) :
    Calls Tryd.prog 11 #[.int .i64 p, .agg #[.int .i64 wd, lv], .int .i64 layer, vi, vz, vt, vx, vy, vl] w fun e w' => e = .returned (.bool true) ∧ Ext w w' := by
  subst hi2
  have H := Lib.hid h; have HG := Lib.hid hg; have HV := Lib.hid hv; have HI := Lib.hid hi; have HZ := Lib.hid hz; have HT := Lib.hid ht; have HXX := Lib.hid hx; have HY := Lib.hid hy; have HL := Lib.hid hl
  obtain ⟨hpp, lo, hip⟩ := h
  have HPP := Lib.hid hpp
  have hp2 : 2 ≤ p := by omega
  have hlen := hv.len
  have hlt := ht.run_len (P := Tryd.prog) slInts
  have hlx := hx.run_len (P := Tryd.prog) slInts
  have hly := hy.run_len (P := Tryd.prog) slInts
  have hll := hl.run_len (P := Tryd.prog) slInts
  have HC1 := Lib.hid (oneC_part hp2)
  have HC2 := Lib.hid oneC_perr
  obtain ⟨ao, cap, rfl⟩ := hv.shape
  have c0 := cell_new w #[.int .i64 wd, .slice ao Ls.length cap] 80 0
  have c1 := cell_new w #[.int .i64 wd, .slice ao Ls.length cap] 80 1
  clear hpp hg hv hi hz ht hx hy hl
  have HW := Lib.hid hE
  have hpo := partErr_ok hP
  rw [Int.toNat_natCast] at hpo
  have hil : i < Ls.length := by have := of_decide_eq_true hpo.2.1; omega
  have HCE := Lib.hid (walkErr_ok hE).1
  have HIN := Lib.hid (walkErr_ok hE).2
  have hlen8 : Ls.length ≤ 8 := (cirErr_ok HCE.out).1.2.2.2.1
  have hbd := beneath_bd (cirErr_ok HCE.out).1 hil
  obtain ⟨n, hn⟩ := Int.eq_ofNat_of_zero_le hbd.1
  rw [hn] at hbd
  have hn6 : n ≤ 6 := by omega
  have HRL := Lib.hid (vrow_two (p := p) HCE.out HIN.out hil hn)
  have HVO := Lib.hid (show varOf (vrow p Ls inp i).length = n by rw [HRL.out, Int.natCast_pow]; exact varOf_of n (by omega))
  obtain ⟨N, hN⟩ : ∃ N, partV p wd Ls inp i z [] = N := ⟨_, rfl⟩
  have HPR := Lib.hid ((partR_ok (p := p) (inp := inp) (z := z) (xs := []) hP).trans hN)
  have HPE := Lib.hid (show partErr wd Ls inp.length i z.length ([] : List Int).length = 0 from hP)
  have HPN := Lib.hid (show partS (nthY Ls i) n (vrow p Ls inp i) z [] (nthY Ls i).length % p = N by rw [← hN]; unfold partV; rw [hn, Int.toNat_natCast])
  have HBN := Lib.hid hn
  have HQE := Lib.hid (show partErr wd Ls inp.length i z.length ([0] : List Int).length = 0 from hQ)
  have HQA := Lib.hid (fun r : Int => show partErr wd Ls inp.length i z.length ([r] : List Int).length = 0 from hQ)
  have HQP := Lib.hid (fun r : Int => partR_ok (p := p) (inp := inp) (z := z) (xs := [r]) (HQA.out r))
  have HQR := Lib.hid (HQP.out 0)
  have b3 : ((told.length : Int) == 3) = false := by rw [beq_eq_false_iff_ne]; omega
  clear hQ h3
  clear hE hP hN hn hpo hbd
  go_enter Tryd.func11, Tryd.ntmps11
  go_wp2_with (go_at_call 13; refine (sfield_ok _ _ H.out (HG.out.ext (Ext.alloc _ _))).mono ?_; rintro e w1 ⟨v, rfl, hx1, f, g0, rfl, hf⟩; obtain ⟨bf, rfl⟩ := hf.ptr; obtain ⟨fs, hfs⟩ := hf.fld; replace c0 : w1.cell? ⟨w.heap.size, 0, none⟩ = some (.int .i64 wd) := hx1.cell c0; replace c1 : w1.cell? ⟨w.heap.size, 1, none⟩ = some (.slice ao Ls.length cap) := hx1.cell c1; replace hx1 := (Ext.alloc _ _).trans hx1; have HF := Lib.hid hfs; clear hf hfs)
  have hxa := (Ext.alloc w1 (Obj.cells #[.int .i64 1, .int .i64 0, .int .i64 0] 104)).trans ((Ext.alloc _ (Obj.cells #[.slice (some ⟨w1.heap.size, 0, none⟩) 1 1] 89)).trans (Ext.alloc _ (Obj.cells #[.int .i64 1] 3)))
  have IL := ints_lit ((w1.alloc (Obj.cells #[.int .i64 1, .int .i64 0, .int .i64 0] 104)).alloc (Obj.cells #[.slice (some ⟨w1.heap.size, 0, none⟩) 1 1] 89)) 1 3
  rw [show ((w1.alloc (Obj.cells #[.int .i64 1, .int .i64 0, .int .i64 0] 104)).alloc (Obj.cells #[.slice (some ⟨w1.heap.size, 0, none⟩) 1 1] 89)).heap.size = w1.heap.size + 1 + 1 by simp] at IL
  refine (Part_any (HF.out.ext hxa) 0 _ _ _ _ oneC _ [1] [] [] 0 ((lys_one w1 104 89).ext (Ext.alloc _ _)) IL (Ints.nil _) (Ints.nil _)).mono ?_
  rw [HC1.out, HC2.out, errv_zero]
  rintro e w2 ⟨rfl, hx2⟩
  replace hx2 := hxa.trans hx2
  replace c0 : w2.cell? ⟨w.heap.size, 0, none⟩ = some (.int .i64 wd) := hx2.cell c0
  replace c1 : w2.cell? ⟨w.heap.size, 1, none⟩ = some (.slice ao Ls.length cap) := hx2.cell c1
  replace HF := Lib.hid (HF.out.ext hx2)
  replace hx2 := hx1.trans hx2
  clear hxa
  go_wp2_with fail
  refine (Part_any HF.out wd _ _ _ _ Ls R inp z [] i (HV.out.ext hx2) (HI.out.ext hx2) (HZ.out.ext hx2) (Ints.nil _)).mono ?_
  rw [HPR.out, HPE.out, errv_zero]
  rintro e w3 ⟨rfl, hx3⟩
  replace c0 : w3.cell? ⟨w.heap.size, 0, none⟩ = some (.int .i64 wd) := hx3.cell c0
  replace c1 : w3.cell? ⟨w.heap.size, 1, none⟩ = some (.slice ao Ls.length cap) := hx3.cell c1
  replace HF := Lib.hid (HF.out.ext hx3)
  replace hx3 := hx2.trans hx3
  go_wp2_with (go_at_call 33; refine (values_ok HF.out wd _ _ Ls R inp (HV.out.ext hx3) (HI.out.ext hx3) HW.out).mono ?_; rintro e w4 ⟨v4, rfl, hx4, u4, rfl, S, hr4⟩; have HS := Lib.hid hr4; have hlv := hr4.run_len (P := Tryd.prog) slRows; rw [vals_length] at hlv; clear hr4; replace c0 : w4.cell? ⟨w.heap.size, 0, none⟩ = some (.int .i64 wd) := hx4.cell c0; replace c1 : w4.cell? ⟨w.heap.size, 1, none⟩ = some (.slice ao Ls.length cap) := hx4.cell c1; replace HF := Lib.hid (HF.out.ext hx4); replace hx4 := hx3.trans hx4)
  have hx4a := hx4.trans (Ext.alloc w4 (Obj.cells #[.int .i64 0] 3))
  refine (Part_any (HF.out.ext (Ext.alloc w4 _)) wd _ _ _ _ Ls R inp z [0] i (HV.out.ext hx4a) (HI.out.ext hx4a) (HZ.out.ext hx4a) (ints_lit w4 0 3)).mono ?_
  rw [HQR.out, HQE.out, errv_zero]
  rintro e w5 ⟨rfl, hx5⟩
  replace hx5 := (Ext.alloc w4 (Obj.cells #[.int .i64 0] 3)).trans hx5
  replace c0 : w5.cell? ⟨w.heap.size, 0, none⟩ = some (.int .i64 wd) := hx5.cell c0
  replace c1 : w5.cell? ⟨w.heap.size, 1, none⟩ = some (.slice ao Ls.length cap) := hx5.cell c1
  replace HF := Lib.hid (HF.out.ext hx5)
  replace HS := Lib.hid (HS.out.ext hx5)
  replace hx5 := hx4.trans hx5
  have hvl : i < (vals p Ls inp Ls.length).length := by rw [vals_length]; omega
  have hiv := HS.out.run_index (P := Tryd.prog) slRows i hvl
  have hcv := HS.out.cell i hvl
  have hrv := HS.out.row i hvl
  rw [vals_nth _ _ _ (by omega)] at hrv
  have HRV := Lib.hid hrv
  clear hrv hvl
  by_cases d0 : (x.length : Int) = n
  case neg =>
    have b0 : ((x.length : Int) != (n : Int)) = true := by rw [bne_iff_ne]; exact d0
    go_wp2_with (go_at_call 50; refine (rvars_any _ _ _ HRV.out).mono ?_; rw [HVO.out]; rintro e w' ⟨rfl, rfl⟩)
    go_ret
    exact ⟨rfl, hx5⟩
  have b0 : ((x.length : Int) != (n : Int)) = false := by rw [bne_eq_false_iff_eq]; exact d0
  by_cases d1 : (y.length : Int) = n
  case neg =>
    have b1 : ((y.length : Int) != (n : Int)) = true := by rw [bne_iff_ne]; exact d1
    go_wp2_with (go_at_call 50; refine (rvars_any _ _ _ HRV.out).mono ?_; rw [HVO.out]; rintro e w' ⟨rfl, rfl⟩)
    go_ret
    exact ⟨rfl, hx5⟩
  have b1 : ((y.length : Int) != (n : Int)) = false := by rw [bne_eq_false_iff_eq]; exact d1
  by_cases d2 : (line.length : Int) = n + 1
  case neg =>
    have b2 : ((line.length : Int) != (n : Int) + 1) = true := by rw [bne_iff_ne]; exact d2
    go_wp2_with (go_at_call 50; refine (rvars_any _ _ _ HRV.out).mono ?_; rw [HVO.out]; rintro e w' ⟨rfl, rfl⟩)
    go_ret
    exact ⟨rfl, hx5⟩
  have b2 : ((line.length : Int) != (n : Int) + 1) = false := by rw [bne_eq_false_iff_eq]; exact d2
  obtain ⟨P2, hP2⟩ : ∃ P2 : Nat → Bool, ∀ s, P2 s = (ev (fitL p (idxL line.length) line) (s : Int) % p == ext (vrow p Ls inp i) (onL p x y (s : Int)) % p) := ⟨_, fun _ => rfl⟩
  have HC := Lib.hid (catch2 HPP.out (vrow p Ls inp i) x y line n (by omega) (by omega) (by omega) P2 hP2)
  have HP2 := Lib.hid hP2
  have HD0 := Lib.hid (show x.length = n by omega)
  have HD1 := Lib.hid (show x.length ≤ y.length by omega)
  have HD2 := Lib.hid (show line.length ≤ 100000 by omega)
  have hx7 : x.length ≤ 100000 := by omega
  clear hP2 d0 d1 d2
  go_wp2_with (go_at_call 50; refine (rvars_any _ _ _ HRV.out).mono ?_; rw [HVO.out]; rintro e w' ⟨rfl, rfl⟩)
  clear hiv hcv c0 c1
  go_loopw [34, 35, 36, 37, 38, 39, 40] (fun x34 x35 x36 _ _ _ _ ws => ∃ t : Nat, (t : Int) ≤ p ∧ x36 = .int .i64 t ∧ x35 = .int .i64 (cntN P2 t : Nat) ∧ x34 = .bool (unlN P2 n t) ∧ Ext w5 ws) (fun _ _ x36 _ _ _ _ _ => p.toNat - (intOf x36).toNat)
  case atStart => exact ⟨0, by omega, rfl, rfl, rfl, Ext.refl _⟩
  case round =>
    obtain ⟨t, htp, rfl, rfl, rfl, hws⟩ := hrel
    have hcn := cntN_le P2 t
    by_cases htl : (t : Int) < p
    · have hvl : i < (vals p Ls inp Ls.length).length := by rw [vals_length]; omega
      have hiv := HS.out.run_index (P := Tryd.prog) slRows i hvl
      have hcv := (HS.out.ext hws).cell i hvl
      have hxs := hx5.trans hws
      obtain ⟨M, hM⟩ : ∃ M, ext (vrow p Ls inp i) (onL p x y (t : Int)) % p = M := ⟨_, rfl⟩
      obtain ⟨K, hK⟩ : ∃ K, ev (fitL p (idxL line.length) line) (t : Int) % p = K := ⟨_, rfl⟩
      have hKM := HP2.out t
      rw [hM, hK] at hKM
      have HM := Lib.hid hM; have HK := Lib.hid hK
      have HOL := Lib.hid (show (onL p x y (t : Int)).length = n by rw [onL_length]; exact HD0.out)
      clear hM hK hvl
      cases hPt : P2 t with
      | true =>
        rw [hPt] at hKM
        have k1 : (K == M) = true := hKM.symm
        have k2 : (K != M) = false := by rw [bne_eq_false_iff_eq]; exact beq_iff_eq.1 k1
        have HS1 := Lib.hid (cntN_step_t hPt)
        have HS2 := Lib.hid (unlN_step_t (v := n) hPt)
        clear hKM hPt
        generalize cntN P2 t = Cn at *
        generalize unlN P2 n t = Bn at *
        by_cases htv : t ≤ n
        all_goals
          go_wp2_with (first | (go_at_call 51; refine (ron_any p t _ _ x y _ hp2 hip (HXX.out.ext hxs) (HY.out.ext hxs) hx7 HD1.out).mono ?_; rintro e wa ⟨ua, rfl, hxa, hua⟩; have HUA := Lib.hid hua; clear hua; replace hcv := hxa.cell hcv) | (go_at_call 47; refine (sExtend_ok ((HF.out.ext hws).ext hxa) _ _ (vrow p Ls inp i) (onL p x y (t : Int)) ((HRV.out.ext hws).ext hxa) HUA.out n (by omega) HRL.out HOL.out).mono ?_; rw [HM.out]; rintro e wb ⟨rfl, hxb⟩) | (go_at_call 49; refine (rthrough_any p t _ line _ hp2 hip (((HL.out.ext hxs).ext hxa).ext hxb) HD2.out).mono ?_; rw [HK.out]; rintro e wc ⟨rfl, hxc⟩))
          go_roundw
          case rel => exact ⟨t + 1, by omega, by go_num, by rw [HS1.out]; go_num, by rw [HS2.out], hws.trans (hxa.trans (hxb.trans hxc))⟩
          case measure => simp [intOf]; omega
      | false =>
        rw [hPt] at hKM
        have k1 : (K == M) = false := hKM.symm
        have k2 : (K != M) = true := by rw [bne_iff_ne]; exact beq_eq_false_iff_ne.1 k1
        have HS1 := Lib.hid (cntN_step_f hPt)
        by_cases htv : t ≤ n
        · have HS2 := Lib.hid (unlN_step_f hPt htv)
          clear hKM hPt
          generalize cntN P2 t = Cn at *
          generalize unlN P2 n t = Bn at *
          go_wp2_with (first | (go_at_call 51; refine (ron_any p t _ _ x y _ hp2 hip (HXX.out.ext hxs) (HY.out.ext hxs) hx7 HD1.out).mono ?_; rintro e wa ⟨ua, rfl, hxa, hua⟩; have HUA := Lib.hid hua; clear hua; replace hcv := hxa.cell hcv) | (go_at_call 47; refine (sExtend_ok ((HF.out.ext hws).ext hxa) _ _ (vrow p Ls inp i) (onL p x y (t : Int)) ((HRV.out.ext hws).ext hxa) HUA.out n (by omega) HRL.out HOL.out).mono ?_; rw [HM.out]; rintro e wb ⟨rfl, hxb⟩) | (go_at_call 49; refine (rthrough_any p t _ line _ hp2 hip (((HL.out.ext hxs).ext hxa).ext hxb) HD2.out).mono ?_; rw [HK.out]; rintro e wc ⟨rfl, hxc⟩))
          go_roundw
          case rel => exact ⟨t + 1, by omega, by go_num, by rw [HS1.out], by rw [HS2.out], hws.trans (hxa.trans (hxb.trans hxc))⟩
          case measure => simp [intOf]; omega
        · have HS2 := Lib.hid (unlN_step_o (P := P2) htv)
          clear hKM hPt
          generalize cntN P2 t = Cn at *
          generalize unlN P2 n t = Bn at *
          go_wp2_with (first | (go_at_call 51; refine (ron_any p t _ _ x y _ hp2 hip (HXX.out.ext hxs) (HY.out.ext hxs) hx7 HD1.out).mono ?_; rintro e wa ⟨ua, rfl, hxa, hua⟩; have HUA := Lib.hid hua; clear hua; replace hcv := hxa.cell hcv) | (go_at_call 47; refine (sExtend_ok ((HF.out.ext hws).ext hxa) _ _ (vrow p Ls inp i) (onL p x y (t : Int)) ((HRV.out.ext hws).ext hxa) HUA.out n (by omega) HRL.out HOL.out).mono ?_; rw [HM.out]; rintro e wb ⟨rfl, hxb⟩) | (go_at_call 49; refine (rthrough_any p t _ line _ hp2 hip (((HL.out.ext hxs).ext hxa).ext hxb) HD2.out).mono ?_; rw [HK.out]; rintro e wc ⟨rfl, hxc⟩))
          go_roundw
          case rel => exact ⟨t + 1, by omega, by go_num, by rw [HS1.out], by rw [HS2.out], hws.trans (hxa.trans (hxb.trans hxc))⟩
          case measure => simp [intOf]; omega
    · have ht : p.toNat = t := by omega
      have hCC := HC.out
      rw [ht] at hCC
      obtain ⟨C1, C2⟩ := hCC
      clear ht
      cases hB : unlN P2 n t with
      | false =>
        have hC := C1 hB
        generalize cntN P2 t = Cn at *
        have hCp : ((t : Int) == p) = true := by rw [beq_iff_eq]; omega
        have HCP := Lib.hid hCp
        clear C1 C2 hB hCp
        go_wp2_with fail
        go_ret
        exact ⟨ret_bool HCP.out, hx5.trans hws⟩
      | true =>
        have hC := C2 hB
        generalize cntN P2 t = Cn at *
        have hCp : (Cn : Int) ≤ n := by omega
        clear C1 C2 hB
        go_wp2_with fail
        go_ret
        exact ⟨rfl, hx5.trans hws⟩

set_option maxRecDepth 100000 in
set_option maxHeartbeats 4000000 in
theorem gatesCatches_c (p wd : Int) (lv vi vz vt vx vy vl : Value) (Ls : List (List Tri)) (R : Nat → Value) (inp z told x y line : List Int) (layer : Int) (w : World) (h : okP p) (hg : Hnd w) (hp200 : p ≤ 200) (hv : LysAt w lv Ls R) (hi : Ints w vi inp) (hz : Ints w vz z) (ht : Ints w vt told) (hx : Ints w vx x) (hy : Ints w vy y) (hl : Ints w vl line) (hE : walkErr wd Ls inp.length = 0) (i : Nat) (hi2 : layer = i) (hP : partErr wd Ls inp.length i z.length 0 = 0) (hQ : partErr wd Ls inp.length i z.length 1 = 0) (h3 : told.length = 3) (hG0 : fadd p (nth told 0) (nth told 1) = partV p wd Ls inp i z []) :
    Calls Tryd.prog 11 #[.int .i64 p, .agg #[.int .i64 wd, lv], .int .i64 layer, vi, vz, vt, vx, vy, vl] w fun e w' => e = .returned (.bool true) ∧ Ext w w' := by
  subst hi2
  have H := Lib.hid h; have HG := Lib.hid hg; have HV := Lib.hid hv; have HI := Lib.hid hi; have HZ := Lib.hid hz; have HT := Lib.hid ht; have HXX := Lib.hid hx; have HY := Lib.hid hy; have HL := Lib.hid hl
  obtain ⟨hpp, lo, hip⟩ := h
  have HPP := Lib.hid hpp
  have hp2 : 2 ≤ p := by omega
  have hlen := hv.len
  have hlt := ht.run_len (P := Tryd.prog) slInts
  have hlx := hx.run_len (P := Tryd.prog) slInts
  have hly := hy.run_len (P := Tryd.prog) slInts
  have hll := hl.run_len (P := Tryd.prog) slInts
  have HC1 := Lib.hid (oneC_part hp2)
  have HC2 := Lib.hid oneC_perr
  obtain ⟨ao, cap, rfl⟩ := hv.shape
  have c0 := cell_new w #[.int .i64 wd, .slice ao Ls.length cap] 80 0
  have c1 := cell_new w #[.int .i64 wd, .slice ao Ls.length cap] 80 1
  clear hpp hg hv hi hz ht hx hy hl
  have HW := Lib.hid hE
  have hpo := partErr_ok hP
  rw [Int.toNat_natCast] at hpo
  have hil : i < Ls.length := by have := of_decide_eq_true hpo.2.1; omega
  have HCE := Lib.hid (walkErr_ok hE).1
  have HIN := Lib.hid (walkErr_ok hE).2
  have hlen8 : Ls.length ≤ 8 := (cirErr_ok HCE.out).1.2.2.2.1
  have hbd := beneath_bd (cirErr_ok HCE.out).1 hil
  obtain ⟨n, hn⟩ := Int.eq_ofNat_of_zero_le hbd.1
  rw [hn] at hbd
  have hn6 : n ≤ 6 := by omega
  have HRL := Lib.hid (vrow_two (p := p) HCE.out HIN.out hil hn)
  have HVO := Lib.hid (show varOf (vrow p Ls inp i).length = n by rw [HRL.out, Int.natCast_pow]; exact varOf_of n (by omega))
  obtain ⟨N, hN⟩ : ∃ N, partV p wd Ls inp i z [] = N := ⟨_, rfl⟩
  have HPR := Lib.hid ((partR_ok (p := p) (inp := inp) (z := z) (xs := []) hP).trans hN)
  have HPE := Lib.hid (show partErr wd Ls inp.length i z.length ([] : List Int).length = 0 from hP)
  have HPN := Lib.hid (show partS (nthY Ls i) n (vrow p Ls inp i) z [] (nthY Ls i).length % p = N by rw [← hN]; unfold partV; rw [hn, Int.toNat_natCast])
  have HBN := Lib.hid hn
  have HQE := Lib.hid (show partErr wd Ls inp.length i z.length ([0] : List Int).length = 0 from hQ)
  have HQA := Lib.hid (fun r : Int => show partErr wd Ls inp.length i z.length ([r] : List Int).length = 0 from hQ)
  have HQP := Lib.hid (fun r : Int => partR_ok (p := p) (inp := inp) (z := z) (xs := [r]) (HQA.out r))
  have HQR := Lib.hid (HQP.out 0)
  have b3 : ((told.length : Int) == 3) = true := by rw [beq_iff_eq]; omega
  have ht0 := HT.out.run_index (P := Tryd.prog) slInts 0 (by omega)
  have ht1 := HT.out.run_index (P := Tryd.prog) slInts 1 (by omega)
  rw [show ((0 : Nat) : Int) = 0 from rfl] at ht0
  rw [show ((1 : Nat) : Int) = 1 from rfl] at ht1
  have hk0 := HT.out.cell 0 (by omega)
  have hk1 := HT.out.cell 1 (by omega)
  obtain ⟨G, hG⟩ : ∃ G, fadd p (nth told 0) (nth told 1) = G := ⟨_, rfl⟩
  have HGG := Lib.hid hG
  have bG : (G != N) = false := by rw [bne_eq_false_iff_eq, ← hG, hG0, hN]
  clear hQ h3 hG hG0
  clear hE hP hN hn hpo hbd
  go_enter Tryd.func11, Tryd.ntmps11
  go_wp2_with (go_at_call 13; refine (sfield_ok _ _ H.out (HG.out.ext (Ext.alloc _ _))).mono ?_; rintro e w1 ⟨v, rfl, hx1, f, g0, rfl, hf⟩; obtain ⟨bf, rfl⟩ := hf.ptr; obtain ⟨fs, hfs⟩ := hf.fld; replace c0 : w1.cell? ⟨w.heap.size, 0, none⟩ = some (.int .i64 wd) := hx1.cell c0; replace c1 : w1.cell? ⟨w.heap.size, 1, none⟩ = some (.slice ao Ls.length cap) := hx1.cell c1; replace hx1 := (Ext.alloc _ _).trans hx1; have HF := Lib.hid hfs; clear hf hfs)
  have hxa := (Ext.alloc w1 (Obj.cells #[.int .i64 1, .int .i64 0, .int .i64 0] 104)).trans ((Ext.alloc _ (Obj.cells #[.slice (some ⟨w1.heap.size, 0, none⟩) 1 1] 89)).trans (Ext.alloc _ (Obj.cells #[.int .i64 1] 3)))
  have IL := ints_lit ((w1.alloc (Obj.cells #[.int .i64 1, .int .i64 0, .int .i64 0] 104)).alloc (Obj.cells #[.slice (some ⟨w1.heap.size, 0, none⟩) 1 1] 89)) 1 3
  rw [show ((w1.alloc (Obj.cells #[.int .i64 1, .int .i64 0, .int .i64 0] 104)).alloc (Obj.cells #[.slice (some ⟨w1.heap.size, 0, none⟩) 1 1] 89)).heap.size = w1.heap.size + 1 + 1 by simp] at IL
  refine (Part_any (HF.out.ext hxa) 0 _ _ _ _ oneC _ [1] [] [] 0 ((lys_one w1 104 89).ext (Ext.alloc _ _)) IL (Ints.nil _) (Ints.nil _)).mono ?_
  rw [HC1.out, HC2.out, errv_zero]
  rintro e w2 ⟨rfl, hx2⟩
  replace hx2 := hxa.trans hx2
  replace c0 : w2.cell? ⟨w.heap.size, 0, none⟩ = some (.int .i64 wd) := hx2.cell c0
  replace c1 : w2.cell? ⟨w.heap.size, 1, none⟩ = some (.slice ao Ls.length cap) := hx2.cell c1
  replace HF := Lib.hid (HF.out.ext hx2)
  replace hx2 := hx1.trans hx2
  clear hxa
  go_wp2_with fail
  refine (Part_any HF.out wd _ _ _ _ Ls R inp z [] i (HV.out.ext hx2) (HI.out.ext hx2) (HZ.out.ext hx2) (Ints.nil _)).mono ?_
  rw [HPR.out, HPE.out, errv_zero]
  rintro e w3 ⟨rfl, hx3⟩
  replace c0 : w3.cell? ⟨w.heap.size, 0, none⟩ = some (.int .i64 wd) := hx3.cell c0
  replace c1 : w3.cell? ⟨w.heap.size, 1, none⟩ = some (.slice ao Ls.length cap) := hx3.cell c1
  replace HF := Lib.hid (HF.out.ext hx3)
  replace hx3 := hx2.trans hx3
  go_wp2_with (go_at_call 33; refine (values_ok HF.out wd _ _ Ls R inp (HV.out.ext hx3) (HI.out.ext hx3) HW.out).mono ?_; rintro e w4 ⟨v4, rfl, hx4, u4, rfl, S, hr4⟩; have HS := Lib.hid hr4; have hlv := hr4.run_len (P := Tryd.prog) slRows; rw [vals_length] at hlv; clear hr4; replace c0 : w4.cell? ⟨w.heap.size, 0, none⟩ = some (.int .i64 wd) := hx4.cell c0; replace c1 : w4.cell? ⟨w.heap.size, 1, none⟩ = some (.slice ao Ls.length cap) := hx4.cell c1; replace HF := Lib.hid (HF.out.ext hx4); replace hx4 := hx3.trans hx4)
  have hx4a := hx4.trans (Ext.alloc w4 (Obj.cells #[.int .i64 0] 3))
  refine (Part_any (HF.out.ext (Ext.alloc w4 _)) wd _ _ _ _ Ls R inp z [0] i (HV.out.ext hx4a) (HI.out.ext hx4a) (HZ.out.ext hx4a) (ints_lit w4 0 3)).mono ?_
  rw [HQR.out, HQE.out, errv_zero]
  rintro e w5 ⟨rfl, hx5⟩
  replace hx5 := (Ext.alloc w4 (Obj.cells #[.int .i64 0] 3)).trans hx5
  replace c0 : w5.cell? ⟨w.heap.size, 0, none⟩ = some (.int .i64 wd) := hx5.cell c0
  replace c1 : w5.cell? ⟨w.heap.size, 1, none⟩ = some (.slice ao Ls.length cap) := hx5.cell c1
  replace HF := Lib.hid (HF.out.ext hx5)
  replace HS := Lib.hid (HS.out.ext hx5)
  replace hx5 := hx4.trans hx5
  replace hk0 := hx5.cell hk0
  replace hk1 := hx5.cell hk1
  go_wp2_with fail
  go_quiet ((go_at_call 48; exact radd_q p (nth told 0) (nth told 1) _ _ hp2 hip))
  have hx6 := Ext.drewN w5 nq
  generalize w5.drewN nq = w6 at *
  replace c0 : w6.cell? ⟨w.heap.size, 0, none⟩ = some (.int .i64 wd) := hx6.cell c0
  replace c1 : w6.cell? ⟨w.heap.size, 1, none⟩ = some (.slice ao Ls.length cap) := hx6.cell c1
  replace HF := Lib.hid (HF.out.ext hx6)
  replace HS := Lib.hid (HS.out.ext hx6)
  replace hx6 := hx5.trans hx6
  clear hk0 hk1
  rw [HGG.out]
  have hvl : i < (vals p Ls inp Ls.length).length := by rw [vals_length]; omega
  have hiv := HS.out.run_index (P := Tryd.prog) slRows i hvl
  have hcv := HS.out.cell i hvl
  have hrv := HS.out.row i hvl
  rw [vals_nth _ _ _ (by omega)] at hrv
  have HRV := Lib.hid hrv
  clear hrv hvl
  by_cases d0 : (x.length : Int) = n
  case neg =>
    have b0 : ((x.length : Int) != (n : Int)) = true := by rw [bne_iff_ne]; exact d0
    go_wp2_with (go_at_call 50; refine (rvars_any _ _ _ HRV.out).mono ?_; rw [HVO.out]; rintro e w' ⟨rfl, rfl⟩)
    go_ret
    exact ⟨rfl, hx6⟩
  have b0 : ((x.length : Int) != (n : Int)) = false := by rw [bne_eq_false_iff_eq]; exact d0
  by_cases d1 : (y.length : Int) = n
  case neg =>
    have b1 : ((y.length : Int) != (n : Int)) = true := by rw [bne_iff_ne]; exact d1
    go_wp2_with (go_at_call 50; refine (rvars_any _ _ _ HRV.out).mono ?_; rw [HVO.out]; rintro e w' ⟨rfl, rfl⟩)
    go_ret
    exact ⟨rfl, hx6⟩
  have b1 : ((y.length : Int) != (n : Int)) = false := by rw [bne_eq_false_iff_eq]; exact d1
  by_cases d2 : (line.length : Int) = n + 1
  case neg =>
    have b2 : ((line.length : Int) != (n : Int) + 1) = true := by rw [bne_iff_ne]; exact d2
    go_wp2_with (go_at_call 50; refine (rvars_any _ _ _ HRV.out).mono ?_; rw [HVO.out]; rintro e w' ⟨rfl, rfl⟩)
    go_ret
    exact ⟨rfl, hx6⟩
  have b2 : ((line.length : Int) != (n : Int) + 1) = false := by rw [bne_eq_false_iff_eq]; exact d2
  obtain ⟨P2, hP2⟩ : ∃ P2 : Nat → Bool, ∀ s, P2 s = (ev (fitL p (idxL line.length) line) (s : Int) % p == ext (vrow p Ls inp i) (onL p x y (s : Int)) % p) := ⟨_, fun _ => rfl⟩
  have HC := Lib.hid (catch2 HPP.out (vrow p Ls inp i) x y line n (by omega) (by omega) (by omega) P2 hP2)
  have HP2 := Lib.hid hP2
  have HD0 := Lib.hid (show x.length = n by omega)
  have HD1 := Lib.hid (show x.length ≤ y.length by omega)
  have HD2 := Lib.hid (show line.length ≤ 100000 by omega)
  have hx7 : x.length ≤ 100000 := by omega
  clear hP2 d0 d1 d2
  go_wp2_with (go_at_call 50; refine (rvars_any _ _ _ HRV.out).mono ?_; rw [HVO.out]; rintro e w' ⟨rfl, rfl⟩)
  clear hiv hcv c0 c1
  go_loopw [34, 35, 36, 37, 38, 39, 40] (fun x34 x35 x36 _ _ _ _ ws => ∃ t : Nat, (t : Int) ≤ p ∧ x36 = .int .i64 t ∧ x35 = .int .i64 (cntN P2 t : Nat) ∧ x34 = .bool (unlN P2 n t) ∧ Ext w6 ws) (fun _ _ x36 _ _ _ _ _ => p.toNat - (intOf x36).toNat)
  case atStart => exact ⟨0, by omega, rfl, rfl, rfl, Ext.refl _⟩
  case round =>
    obtain ⟨t, htp, rfl, rfl, rfl, hws⟩ := hrel
    have hcn := cntN_le P2 t
    by_cases htl : (t : Int) < p
    · have hvl : i < (vals p Ls inp Ls.length).length := by rw [vals_length]; omega
      have hiv := HS.out.run_index (P := Tryd.prog) slRows i hvl
      have hcv := (HS.out.ext hws).cell i hvl
      have hxs := hx6.trans hws
      obtain ⟨M, hM⟩ : ∃ M, ext (vrow p Ls inp i) (onL p x y (t : Int)) % p = M := ⟨_, rfl⟩
      obtain ⟨K, hK⟩ : ∃ K, ev (fitL p (idxL line.length) line) (t : Int) % p = K := ⟨_, rfl⟩
      have hKM := HP2.out t
      rw [hM, hK] at hKM
      have HM := Lib.hid hM; have HK := Lib.hid hK
      have HOL := Lib.hid (show (onL p x y (t : Int)).length = n by rw [onL_length]; exact HD0.out)
      clear hM hK hvl
      cases hPt : P2 t with
      | true =>
        rw [hPt] at hKM
        have k1 : (K == M) = true := hKM.symm
        have k2 : (K != M) = false := by rw [bne_eq_false_iff_eq]; exact beq_iff_eq.1 k1
        have HS1 := Lib.hid (cntN_step_t hPt)
        have HS2 := Lib.hid (unlN_step_t (v := n) hPt)
        clear hKM hPt
        generalize cntN P2 t = Cn at *
        generalize unlN P2 n t = Bn at *
        by_cases htv : t ≤ n
        all_goals
          go_wp2_with (first | (go_at_call 51; refine (ron_any p t _ _ x y _ hp2 hip (HXX.out.ext hxs) (HY.out.ext hxs) hx7 HD1.out).mono ?_; rintro e wa ⟨ua, rfl, hxa, hua⟩; have HUA := Lib.hid hua; clear hua; replace hcv := hxa.cell hcv) | (go_at_call 47; refine (sExtend_ok ((HF.out.ext hws).ext hxa) _ _ (vrow p Ls inp i) (onL p x y (t : Int)) ((HRV.out.ext hws).ext hxa) HUA.out n (by omega) HRL.out HOL.out).mono ?_; rw [HM.out]; rintro e wb ⟨rfl, hxb⟩) | (go_at_call 49; refine (rthrough_any p t _ line _ hp2 hip (((HL.out.ext hxs).ext hxa).ext hxb) HD2.out).mono ?_; rw [HK.out]; rintro e wc ⟨rfl, hxc⟩))
          go_roundw
          case rel => exact ⟨t + 1, by omega, by go_num, by rw [HS1.out]; go_num, by rw [HS2.out], hws.trans (hxa.trans (hxb.trans hxc))⟩
          case measure => simp [intOf]; omega
      | false =>
        rw [hPt] at hKM
        have k1 : (K == M) = false := hKM.symm
        have k2 : (K != M) = true := by rw [bne_iff_ne]; exact beq_eq_false_iff_ne.1 k1
        have HS1 := Lib.hid (cntN_step_f hPt)
        by_cases htv : t ≤ n
        · have HS2 := Lib.hid (unlN_step_f hPt htv)
          clear hKM hPt
          generalize cntN P2 t = Cn at *
          generalize unlN P2 n t = Bn at *
          go_wp2_with (first | (go_at_call 51; refine (ron_any p t _ _ x y _ hp2 hip (HXX.out.ext hxs) (HY.out.ext hxs) hx7 HD1.out).mono ?_; rintro e wa ⟨ua, rfl, hxa, hua⟩; have HUA := Lib.hid hua; clear hua; replace hcv := hxa.cell hcv) | (go_at_call 47; refine (sExtend_ok ((HF.out.ext hws).ext hxa) _ _ (vrow p Ls inp i) (onL p x y (t : Int)) ((HRV.out.ext hws).ext hxa) HUA.out n (by omega) HRL.out HOL.out).mono ?_; rw [HM.out]; rintro e wb ⟨rfl, hxb⟩) | (go_at_call 49; refine (rthrough_any p t _ line _ hp2 hip (((HL.out.ext hxs).ext hxa).ext hxb) HD2.out).mono ?_; rw [HK.out]; rintro e wc ⟨rfl, hxc⟩))
          go_roundw
          case rel => exact ⟨t + 1, by omega, by go_num, by rw [HS1.out], by rw [HS2.out], hws.trans (hxa.trans (hxb.trans hxc))⟩
          case measure => simp [intOf]; omega
        · have HS2 := Lib.hid (unlN_step_o (P := P2) htv)
          clear hKM hPt
          generalize cntN P2 t = Cn at *
          generalize unlN P2 n t = Bn at *
          go_wp2_with (first | (go_at_call 51; refine (ron_any p t _ _ x y _ hp2 hip (HXX.out.ext hxs) (HY.out.ext hxs) hx7 HD1.out).mono ?_; rintro e wa ⟨ua, rfl, hxa, hua⟩; have HUA := Lib.hid hua; clear hua; replace hcv := hxa.cell hcv) | (go_at_call 47; refine (sExtend_ok ((HF.out.ext hws).ext hxa) _ _ (vrow p Ls inp i) (onL p x y (t : Int)) ((HRV.out.ext hws).ext hxa) HUA.out n (by omega) HRL.out HOL.out).mono ?_; rw [HM.out]; rintro e wb ⟨rfl, hxb⟩) | (go_at_call 49; refine (rthrough_any p t _ line _ hp2 hip (((HL.out.ext hxs).ext hxa).ext hxb) HD2.out).mono ?_; rw [HK.out]; rintro e wc ⟨rfl, hxc⟩))
          go_roundw
          case rel => exact ⟨t + 1, by omega, by go_num, by rw [HS1.out], by rw [HS2.out], hws.trans (hxa.trans (hxb.trans hxc))⟩
          case measure => simp [intOf]; omega
    · have ht : p.toNat = t := by omega
      have hCC := HC.out
      rw [ht] at hCC
      obtain ⟨C1, C2⟩ := hCC
      clear ht
      cases hB : unlN P2 n t with
      | false =>
        have hC := C1 hB
        generalize cntN P2 t = Cn at *
        have hCp : ((t : Int) == p) = true := by rw [beq_iff_eq]; omega
        have HCP := Lib.hid hCp
        clear C1 C2 hB hCp
        go_wp2_with fail
        go_ret
        exact ⟨ret_bool HCP.out, hx6.trans hws⟩
      | true =>
        have hC := C2 hB
        generalize cntN P2 t = Cn at *
        have hCp : (Cn : Int) ≤ n := by omega
        clear C1 C2 hB
        go_wp2_with fail
        go_ret
        exact ⟨rfl, hx6.trans hws⟩

set_option maxRecDepth 100000 in
set_option maxHeartbeats 4000000 in
theorem gatesCatches_d (p wd : Int) (lv vi vz vt vx vy vl : Value) (Ls : List (List Tri)) (R : Nat → Value) (inp z told x y line : List Int) (layer : Int) (w : World) (h : okP p) (hg : Hnd w) (hp200 : p ≤ 200) (hv : LysAt w lv Ls R) (hi : Ints w vi inp) (hz : Ints w vz z) (ht : Ints w vt told) (hx : Ints w vx x) (hy : Ints w vy y) (hl : Ints w vl line) (hE : walkErr wd Ls inp.length = 0) (i : Nat) (hi2 : layer = i) (hP : partErr wd Ls inp.length i z.length 0 = 0) (hQ : partErr wd Ls inp.length i z.length 1 = 0) (h3 : told.length = 3) (hG0 : fadd p (nth told 0) (nth told 1) ≠ partV p wd Ls inp i z []) :
    Calls Tryd.prog 11 #[.int .i64 p, .agg #[.int .i64 wd, lv], .int .i64 layer, vi, vz, vt, vx, vy, vl] w fun e w' => e = .returned (.bool true) ∧ Ext w w' := by
  subst hi2
  have H := Lib.hid h; have HG := Lib.hid hg; have HV := Lib.hid hv; have HI := Lib.hid hi; have HZ := Lib.hid hz; have HT := Lib.hid ht; have HXX := Lib.hid hx; have HY := Lib.hid hy; have HL := Lib.hid hl
  obtain ⟨hpp, lo, hip⟩ := h
  have HPP := Lib.hid hpp
  have hp2 : 2 ≤ p := by omega
  have hlen := hv.len
  have hlt := ht.run_len (P := Tryd.prog) slInts
  have hlx := hx.run_len (P := Tryd.prog) slInts
  have hly := hy.run_len (P := Tryd.prog) slInts
  have hll := hl.run_len (P := Tryd.prog) slInts
  have HC1 := Lib.hid (oneC_part hp2)
  have HC2 := Lib.hid oneC_perr
  obtain ⟨ao, cap, rfl⟩ := hv.shape
  have c0 := cell_new w #[.int .i64 wd, .slice ao Ls.length cap] 80 0
  have c1 := cell_new w #[.int .i64 wd, .slice ao Ls.length cap] 80 1
  clear hpp hg hv hi hz ht hx hy hl
  have HW := Lib.hid hE
  have hpo := partErr_ok hP
  rw [Int.toNat_natCast] at hpo
  have hil : i < Ls.length := by have := of_decide_eq_true hpo.2.1; omega
  have HCE := Lib.hid (walkErr_ok hE).1
  have HIN := Lib.hid (walkErr_ok hE).2
  have hlen8 : Ls.length ≤ 8 := (cirErr_ok HCE.out).1.2.2.2.1
  have hbd := beneath_bd (cirErr_ok HCE.out).1 hil
  obtain ⟨n, hn⟩ := Int.eq_ofNat_of_zero_le hbd.1
  rw [hn] at hbd
  have hn6 : n ≤ 6 := by omega
  have HRL := Lib.hid (vrow_two (p := p) HCE.out HIN.out hil hn)
  have HVO := Lib.hid (show varOf (vrow p Ls inp i).length = n by rw [HRL.out, Int.natCast_pow]; exact varOf_of n (by omega))
  obtain ⟨N, hN⟩ : ∃ N, partV p wd Ls inp i z [] = N := ⟨_, rfl⟩
  have HPR := Lib.hid ((partR_ok (p := p) (inp := inp) (z := z) (xs := []) hP).trans hN)
  have HPE := Lib.hid (show partErr wd Ls inp.length i z.length ([] : List Int).length = 0 from hP)
  have HPN := Lib.hid (show partS (nthY Ls i) n (vrow p Ls inp i) z [] (nthY Ls i).length % p = N by rw [← hN]; unfold partV; rw [hn, Int.toNat_natCast])
  have HBN := Lib.hid hn
  have HQE := Lib.hid (show partErr wd Ls inp.length i z.length ([0] : List Int).length = 0 from hQ)
  have HQA := Lib.hid (fun r : Int => show partErr wd Ls inp.length i z.length ([r] : List Int).length = 0 from hQ)
  have HQP := Lib.hid (fun r : Int => partR_ok (p := p) (inp := inp) (z := z) (xs := [r]) (HQA.out r))
  have HQR := Lib.hid (HQP.out 0)
  have b3 : ((told.length : Int) == 3) = true := by rw [beq_iff_eq]; omega
  have ht0 := HT.out.run_index (P := Tryd.prog) slInts 0 (by omega)
  have ht1 := HT.out.run_index (P := Tryd.prog) slInts 1 (by omega)
  rw [show ((0 : Nat) : Int) = 0 from rfl] at ht0
  rw [show ((1 : Nat) : Int) = 1 from rfl] at ht1
  have hk0 := HT.out.cell 0 (by omega)
  have hk1 := HT.out.cell 1 (by omega)
  obtain ⟨G, hG⟩ : ∃ G, fadd p (nth told 0) (nth told 1) = G := ⟨_, rfl⟩
  have HGG := Lib.hid hG
  have bG : (G != N) = true := by rw [bne_iff_ne, ← hG, ← hN]; exact hG0
  obtain ⟨P1, hP1⟩ : ∃ P1 : Nat → Bool, ∀ r : Nat, P1 r = (ev (fitL p (idxL told.length) told) (r : Int) % p == partV p wd Ls inp i z [(r : Int)]) := ⟨_, fun _ => rfl⟩
  have HP1 := Lib.hid hP1
  have HK1 := Lib.hid (show cntN P1 p.toNat ≤ 2 by
    have h1 : 1 ≤ n := by
      have h2 := (partErr_ok hQ).2.2.2
      rw [Int.toNat_natCast, hn] at h2
      omega
    have h4 := catch1 HPP.out lo (nthY Ls i) n h1 (vrow p Ls inp i) z told (nthY Ls i).length h3 (by rw [HPN.out, ← hN]; exact hG0)
    have h5 : P1 = fun r : Nat => ev (fitL p (idxL told.length) told) (r : Int) % p == partS (nthY Ls i) n (vrow p Ls inp i) z [(r : Int)] (nthY Ls i).length % p := by
      funext r; rw [hP1 r]; unfold partV; rw [hn, Int.toNat_natCast]
    rw [h5]; exact h4)
  have HT3 := Lib.hid (show told.length ≤ 100000 by omega)
  clear hQ h3 hG hG0 hP1
  clear hE hP hN hn hpo hbd
  go_enter Tryd.func11, Tryd.ntmps11
  go_wp2_with (go_at_call 13; refine (sfield_ok _ _ H.out (HG.out.ext (Ext.alloc _ _))).mono ?_; rintro e w1 ⟨v, rfl, hx1, f, g0, rfl, hf⟩; obtain ⟨bf, rfl⟩ := hf.ptr; obtain ⟨fs, hfs⟩ := hf.fld; replace c0 : w1.cell? ⟨w.heap.size, 0, none⟩ = some (.int .i64 wd) := hx1.cell c0; replace c1 : w1.cell? ⟨w.heap.size, 1, none⟩ = some (.slice ao Ls.length cap) := hx1.cell c1; replace hx1 := (Ext.alloc _ _).trans hx1; have HF := Lib.hid hfs; clear hf hfs)
  have hxa := (Ext.alloc w1 (Obj.cells #[.int .i64 1, .int .i64 0, .int .i64 0] 104)).trans ((Ext.alloc _ (Obj.cells #[.slice (some ⟨w1.heap.size, 0, none⟩) 1 1] 89)).trans (Ext.alloc _ (Obj.cells #[.int .i64 1] 3)))
  have IL := ints_lit ((w1.alloc (Obj.cells #[.int .i64 1, .int .i64 0, .int .i64 0] 104)).alloc (Obj.cells #[.slice (some ⟨w1.heap.size, 0, none⟩) 1 1] 89)) 1 3
  rw [show ((w1.alloc (Obj.cells #[.int .i64 1, .int .i64 0, .int .i64 0] 104)).alloc (Obj.cells #[.slice (some ⟨w1.heap.size, 0, none⟩) 1 1] 89)).heap.size = w1.heap.size + 1 + 1 by simp] at IL
  refine (Part_any (HF.out.ext hxa) 0 _ _ _ _ oneC _ [1] [] [] 0 ((lys_one w1 104 89).ext (Ext.alloc _ _)) IL (Ints.nil _) (Ints.nil _)).mono ?_
  rw [HC1.out, HC2.out, errv_zero]
  rintro e w2 ⟨rfl, hx2⟩
  replace hx2 := hxa.trans hx2
  replace c0 : w2.cell? ⟨w.heap.size, 0, none⟩ = some (.int .i64 wd) := hx2.cell c0
  replace c1 : w2.cell? ⟨w.heap.size, 1, none⟩ = some (.slice ao Ls.length cap) := hx2.cell c1
  replace HF := Lib.hid (HF.out.ext hx2)
  replace hx2 := hx1.trans hx2
  clear hxa
  go_wp2_with fail
  refine (Part_any HF.out wd _ _ _ _ Ls R inp z [] i (HV.out.ext hx2) (HI.out.ext hx2) (HZ.out.ext hx2) (Ints.nil _)).mono ?_
  rw [HPR.out, HPE.out, errv_zero]
  rintro e w3 ⟨rfl, hx3⟩
  replace c0 : w3.cell? ⟨w.heap.size, 0, none⟩ = some (.int .i64 wd) := hx3.cell c0
  replace c1 : w3.cell? ⟨w.heap.size, 1, none⟩ = some (.slice ao Ls.length cap) := hx3.cell c1
  replace HF := Lib.hid (HF.out.ext hx3)
  replace hx3 := hx2.trans hx3
  go_wp2_with (go_at_call 33; refine (values_ok HF.out wd _ _ Ls R inp (HV.out.ext hx3) (HI.out.ext hx3) HW.out).mono ?_; rintro e w4 ⟨v4, rfl, hx4, u4, rfl, S, hr4⟩; have HS := Lib.hid hr4; have hlv := hr4.run_len (P := Tryd.prog) slRows; rw [vals_length] at hlv; clear hr4; replace c0 : w4.cell? ⟨w.heap.size, 0, none⟩ = some (.int .i64 wd) := hx4.cell c0; replace c1 : w4.cell? ⟨w.heap.size, 1, none⟩ = some (.slice ao Ls.length cap) := hx4.cell c1; replace HF := Lib.hid (HF.out.ext hx4); replace hx4 := hx3.trans hx4)
  have hx4a := hx4.trans (Ext.alloc w4 (Obj.cells #[.int .i64 0] 3))
  refine (Part_any (HF.out.ext (Ext.alloc w4 _)) wd _ _ _ _ Ls R inp z [0] i (HV.out.ext hx4a) (HI.out.ext hx4a) (HZ.out.ext hx4a) (ints_lit w4 0 3)).mono ?_
  rw [HQR.out, HQE.out, errv_zero]
  rintro e w5 ⟨rfl, hx5⟩
  replace hx5 := (Ext.alloc w4 (Obj.cells #[.int .i64 0] 3)).trans hx5
  replace c0 : w5.cell? ⟨w.heap.size, 0, none⟩ = some (.int .i64 wd) := hx5.cell c0
  replace c1 : w5.cell? ⟨w.heap.size, 1, none⟩ = some (.slice ao Ls.length cap) := hx5.cell c1
  replace HF := Lib.hid (HF.out.ext hx5)
  replace HS := Lib.hid (HS.out.ext hx5)
  replace hx5 := hx4.trans hx5
  replace hk0 := hx5.cell hk0
  replace hk1 := hx5.cell hk1
  go_wp2_with fail
  go_quiet ((go_at_call 48; exact radd_q p (nth told 0) (nth told 1) _ _ hp2 hip))
  have hx6 := Ext.drewN w5 nq
  generalize w5.drewN nq = w6 at *
  replace c0 : w6.cell? ⟨w.heap.size, 0, none⟩ = some (.int .i64 wd) := hx6.cell c0
  replace c1 : w6.cell? ⟨w.heap.size, 1, none⟩ = some (.slice ao Ls.length cap) := hx6.cell c1
  replace HF := Lib.hid (HF.out.ext hx6)
  replace HS := Lib.hid (HS.out.ext hx6)
  replace hx6 := hx5.trans hx6
  clear hk0 hk1
  rw [HGG.out]
  go_wp2_with fail
  have C0 := Lib.hid c0; have C1 := Lib.hid c1
  clear c0 c1
  go_loopw [28, 29, 30, 31, 32] (fun x28 x29 _ _ _ wr => ∃ r : Nat, (r : Int) ≤ p ∧ x29 = .int .i64 r ∧ x28 = .int .i64 (cntN P1 r : Nat) ∧ Ext w6 wr) (fun _ x29 _ _ _ _ => p.toNat - (intOf x29).toNat)
  case atStart => exact ⟨0, by omega, rfl, rfl, Ext.refl _⟩
  case round =>
    obtain ⟨r, hrp, rfl, rfl, hwr⟩ := hrel
    have hcn := cntN_le P1 r
    have c0 := hwr.cell C0.out
    have c1 := hwr.cell C1.out
    have hxr := hx6.trans hwr
    by_cases hrl : (r : Int) < p
    · obtain ⟨M, hM⟩ : ∃ M, partV p wd Ls inp i z [(r : Int)] = M := ⟨_, rfl⟩
      obtain ⟨K, hK⟩ : ∃ K, ev (fitL p (idxL told.length) told) (r : Int) % p = K := ⟨_, rfl⟩
      have hKM := HP1.out r
      rw [hM, hK] at hKM
      have HM := Lib.hid ((HQP.out (r : Int)).trans hM); have HK := Lib.hid hK
      have hra := Ext.alloc wr (Obj.cells #[.int .i64 r] 3)
      clear hM hK
      cases hPr : P1 r with
      | true =>
        rw [hPr] at hKM
        have k1 : (K == M) = true := hKM.symm
        have HS1 := Lib.hid (cntN_step_t hPr)
        clear hKM hPr
        generalize cntN P1 r = Cn at *
        go_wp2_with fail
        refine (Part_any ((HF.out.ext hwr).ext hra) wd _ _ _ _ Ls R inp z [(r : Int)] i (HV.out.ext (hxr.trans hra)) (HI.out.ext (hxr.trans hra)) (HZ.out.ext (hxr.trans hra)) (ints_lit wr (r : Int) 3)).mono ?_
        rw [HM.out, HQA.out (r : Int), errv_zero]
        rintro e wa ⟨rfl, hxa⟩
        go_wp2_with (go_at_call 49; refine (rthrough_any p r _ told _ hp2 hip (((HT.out.ext hxr).ext hra).ext hxa) HT3.out).mono ?_; rw [HK.out]; rintro e wb ⟨rfl, hxb⟩)
        go_roundw
        case rel => exact ⟨r + 1, by omega, by go_num, by rw [HS1.out]; go_num, hwr.trans (hra.trans (hxa.trans hxb))⟩
        case measure => simp [intOf]; omega
      | false =>
        rw [hPr] at hKM
        have k1 : (K == M) = false := hKM.symm
        have HS1 := Lib.hid (cntN_step_f hPr)
        clear hKM hPr
        generalize cntN P1 r = Cn at *
        go_wp2_with fail
        refine (Part_any ((HF.out.ext hwr).ext hra) wd _ _ _ _ Ls R inp z [(r : Int)] i (HV.out.ext (hxr.trans hra)) (HI.out.ext (hxr.trans hra)) (HZ.out.ext (hxr.trans hra)) (ints_lit wr (r : Int) 3)).mono ?_
        rw [HM.out, HQA.out (r : Int), errv_zero]
        rintro e wa ⟨rfl, hxa⟩
        go_wp2_with (go_at_call 49; refine (rthrough_any p r _ told _ hp2 hip (((HT.out.ext hxr).ext hra).ext hxa) HT3.out).mono ?_; rw [HK.out]; rintro e wb ⟨rfl, hxb⟩)
        go_roundw
        case rel => exact ⟨r + 1, by omega, by go_num, by rw [HS1.out], hwr.trans (hra.trans (hxa.trans hxb))⟩
        case measure => simp [intOf]; omega
    · have hrt : p.toNat = r := by omega
      have hk2 := HK1.out
      rw [hrt] at hk2
      clear hrt
      generalize cntN P1 r = Cn at *
      replace HF := Lib.hid (HF.out.ext hwr)
      replace HS := Lib.hid (HS.out.ext hwr)
      have hvl : i < (vals p Ls inp Ls.length).length := by rw [vals_length]; omega
      have hiv := HS.out.run_index (P := Tryd.prog) slRows i hvl
      have hcv := HS.out.cell i hvl
      have hrv := HS.out.row i hvl
      rw [vals_nth _ _ _ (by omega)] at hrv
      have HRV := Lib.hid hrv
      clear hrv hvl
      by_cases d0 : (x.length : Int) = n
      case neg =>
        have b0 : ((x.length : Int) != (n : Int)) = true := by rw [bne_iff_ne]; exact d0
        go_wp2_with (go_at_call 50; refine (rvars_any _ _ _ HRV.out).mono ?_; rw [HVO.out]; rintro e w' ⟨rfl, rfl⟩)
        go_ret
        exact ⟨rfl, hxr⟩
      have b0 : ((x.length : Int) != (n : Int)) = false := by rw [bne_eq_false_iff_eq]; exact d0
      by_cases d1 : (y.length : Int) = n
      case neg =>
        have b1 : ((y.length : Int) != (n : Int)) = true := by rw [bne_iff_ne]; exact d1
        go_wp2_with (go_at_call 50; refine (rvars_any _ _ _ HRV.out).mono ?_; rw [HVO.out]; rintro e w' ⟨rfl, rfl⟩)
        go_ret
        exact ⟨rfl, hxr⟩
      have b1 : ((y.length : Int) != (n : Int)) = false := by rw [bne_eq_false_iff_eq]; exact d1
      by_cases d2 : (line.length : Int) = n + 1
      case neg =>
        have b2 : ((line.length : Int) != (n : Int) + 1) = true := by rw [bne_iff_ne]; exact d2
        go_wp2_with (go_at_call 50; refine (rvars_any _ _ _ HRV.out).mono ?_; rw [HVO.out]; rintro e w' ⟨rfl, rfl⟩)
        go_ret
        exact ⟨rfl, hxr⟩
      have b2 : ((line.length : Int) != (n : Int) + 1) = false := by rw [bne_eq_false_iff_eq]; exact d2
      obtain ⟨P2, hP2⟩ : ∃ P2 : Nat → Bool, ∀ s, P2 s = (ev (fitL p (idxL line.length) line) (s : Int) % p == ext (vrow p Ls inp i) (onL p x y (s : Int)) % p) := ⟨_, fun _ => rfl⟩
      have HC := Lib.hid (catch2 HPP.out (vrow p Ls inp i) x y line n (by omega) (by omega) (by omega) P2 hP2)
      have HP2 := Lib.hid hP2
      have HD0 := Lib.hid (show x.length = n by omega)
      have HD1 := Lib.hid (show x.length ≤ y.length by omega)
      have HD2 := Lib.hid (show line.length ≤ 100000 by omega)
      have hx7 : x.length ≤ 100000 := by omega
      clear hP2 d0 d1 d2
      go_wp2_with (go_at_call 50; refine (rvars_any _ _ _ HRV.out).mono ?_; rw [HVO.out]; rintro e w' ⟨rfl, rfl⟩)
      clear hiv hcv c0 c1
      go_loopw [34, 35, 36, 37, 38, 39, 40] (fun x34 x35 x36 _ _ _ _ ws => ∃ t : Nat, (t : Int) ≤ p ∧ x36 = .int .i64 t ∧ x35 = .int .i64 (cntN P2 t : Nat) ∧ x34 = .bool (unlN P2 n t) ∧ Ext wr ws) (fun _ _ x36 _ _ _ _ _ => p.toNat - (intOf x36).toNat)
      case atStart => exact ⟨0, by omega, rfl, rfl, rfl, Ext.refl _⟩
      case round =>
        obtain ⟨t, htp, rfl, rfl, rfl, hws⟩ := hrel
        have hcn := cntN_le P2 t
        by_cases htl : (t : Int) < p
        · have hvl : i < (vals p Ls inp Ls.length).length := by rw [vals_length]; omega
          have hiv := HS.out.run_index (P := Tryd.prog) slRows i hvl
          have hcv := (HS.out.ext hws).cell i hvl
          have hxs := hxr.trans hws
          obtain ⟨M, hM⟩ : ∃ M, ext (vrow p Ls inp i) (onL p x y (t : Int)) % p = M := ⟨_, rfl⟩
          obtain ⟨K, hK⟩ : ∃ K, ev (fitL p (idxL line.length) line) (t : Int) % p = K := ⟨_, rfl⟩
          have hKM := HP2.out t
          rw [hM, hK] at hKM
          have HM := Lib.hid hM; have HK := Lib.hid hK
          have HOL := Lib.hid (show (onL p x y (t : Int)).length = n by rw [onL_length]; exact HD0.out)
          clear hM hK hvl
          cases hPt : P2 t with
          | true =>
            rw [hPt] at hKM
            have k1 : (K == M) = true := hKM.symm
            have k2 : (K != M) = false := by rw [bne_eq_false_iff_eq]; exact beq_iff_eq.1 k1
            have HS1 := Lib.hid (cntN_step_t hPt)
            have HS2 := Lib.hid (unlN_step_t (v := n) hPt)
            clear hKM hPt
            generalize cntN P2 t = Cn at *
            generalize unlN P2 n t = Bn at *
            by_cases htv : t ≤ n
            all_goals
              go_wp2_with (first | (go_at_call 51; refine (ron_any p t _ _ x y _ hp2 hip (HXX.out.ext hxs) (HY.out.ext hxs) hx7 HD1.out).mono ?_; rintro e wa ⟨ua, rfl, hxa, hua⟩; have HUA := Lib.hid hua; clear hua; replace hcv := hxa.cell hcv) | (go_at_call 47; refine (sExtend_ok ((HF.out.ext hws).ext hxa) _ _ (vrow p Ls inp i) (onL p x y (t : Int)) ((HRV.out.ext hws).ext hxa) HUA.out n (by omega) HRL.out HOL.out).mono ?_; rw [HM.out]; rintro e wb ⟨rfl, hxb⟩) | (go_at_call 49; refine (rthrough_any p t _ line _ hp2 hip (((HL.out.ext hxs).ext hxa).ext hxb) HD2.out).mono ?_; rw [HK.out]; rintro e wc ⟨rfl, hxc⟩))
              go_roundw
              case rel => exact ⟨t + 1, by omega, by go_num, by rw [HS1.out]; go_num, by rw [HS2.out], hws.trans (hxa.trans (hxb.trans hxc))⟩
              case measure => simp [intOf]; omega
          | false =>
            rw [hPt] at hKM
            have k1 : (K == M) = false := hKM.symm
            have k2 : (K != M) = true := by rw [bne_iff_ne]; exact beq_eq_false_iff_ne.1 k1
            have HS1 := Lib.hid (cntN_step_f hPt)
            by_cases htv : t ≤ n
            · have HS2 := Lib.hid (unlN_step_f hPt htv)
              clear hKM hPt
              generalize cntN P2 t = Cn at *
              generalize unlN P2 n t = Bn at *
              go_wp2_with (first | (go_at_call 51; refine (ron_any p t _ _ x y _ hp2 hip (HXX.out.ext hxs) (HY.out.ext hxs) hx7 HD1.out).mono ?_; rintro e wa ⟨ua, rfl, hxa, hua⟩; have HUA := Lib.hid hua; clear hua; replace hcv := hxa.cell hcv) | (go_at_call 47; refine (sExtend_ok ((HF.out.ext hws).ext hxa) _ _ (vrow p Ls inp i) (onL p x y (t : Int)) ((HRV.out.ext hws).ext hxa) HUA.out n (by omega) HRL.out HOL.out).mono ?_; rw [HM.out]; rintro e wb ⟨rfl, hxb⟩) | (go_at_call 49; refine (rthrough_any p t _ line _ hp2 hip (((HL.out.ext hxs).ext hxa).ext hxb) HD2.out).mono ?_; rw [HK.out]; rintro e wc ⟨rfl, hxc⟩))
              go_roundw
              case rel => exact ⟨t + 1, by omega, by go_num, by rw [HS1.out], by rw [HS2.out], hws.trans (hxa.trans (hxb.trans hxc))⟩
              case measure => simp [intOf]; omega
            · have HS2 := Lib.hid (unlN_step_o (P := P2) htv)
              clear hKM hPt
              generalize cntN P2 t = Cn at *
              generalize unlN P2 n t = Bn at *
              go_wp2_with (first | (go_at_call 51; refine (ron_any p t _ _ x y _ hp2 hip (HXX.out.ext hxs) (HY.out.ext hxs) hx7 HD1.out).mono ?_; rintro e wa ⟨ua, rfl, hxa, hua⟩; have HUA := Lib.hid hua; clear hua; replace hcv := hxa.cell hcv) | (go_at_call 47; refine (sExtend_ok ((HF.out.ext hws).ext hxa) _ _ (vrow p Ls inp i) (onL p x y (t : Int)) ((HRV.out.ext hws).ext hxa) HUA.out n (by omega) HRL.out HOL.out).mono ?_; rw [HM.out]; rintro e wb ⟨rfl, hxb⟩) | (go_at_call 49; refine (rthrough_any p t _ line _ hp2 hip (((HL.out.ext hxs).ext hxa).ext hxb) HD2.out).mono ?_; rw [HK.out]; rintro e wc ⟨rfl, hxc⟩))
              go_roundw
              case rel => exact ⟨t + 1, by omega, by go_num, by rw [HS1.out], by rw [HS2.out], hws.trans (hxa.trans (hxb.trans hxc))⟩
              case measure => simp [intOf]; omega
        · have ht : p.toNat = t := by omega
          have hCC := HC.out
          rw [ht] at hCC
          obtain ⟨C1, C2⟩ := hCC
          clear ht
          cases hB : unlN P2 n t with
          | false =>
            have hC := C1 hB
            generalize cntN P2 t = Cn at *
            have hCp : ((t : Int) == p) = true := by rw [beq_iff_eq]; omega
            have HCP := Lib.hid hCp
            clear C1 C2 hB hCp
            go_wp2_with fail
            go_ret
            exact ⟨ret_bool HCP.out, hxr.trans hws⟩
          | true =>
            have hC := C2 hB
            generalize cntN P2 t = Cn at *
            have hCp : (Cn : Int) ≤ n := by omega
            clear C1 C2 hB
            go_wp2_with fail
            go_ret
            exact ⟨rfl, hxr.trans hws⟩

end Go.Proofs.YthjemncbphdomaaDoor
