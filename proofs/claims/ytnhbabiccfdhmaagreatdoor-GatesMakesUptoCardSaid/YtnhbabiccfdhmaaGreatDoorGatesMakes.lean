/- GatesMakes: what shows any circuit: the law's walk: for every input it returns true and leaves all that was there as it was. -/
import Derived.Test.YtnhbabiccfdhmaaGreatDoorGk
import Derived.Test.YtnhbabiccfdhmaaGreatDoorZx16
namespace Go.Att
open Go.RowKit
theorem walkErr_cirM {wd : Int} {Ls : List (List Tri)} {n : Nat} (h : cirErr wd Ls ≠ 0) : walkErr wd Ls n = cirErr wd Ls := by unfold walkErr; rw [if_neg h]
theorem walkErr_twoM {wd : Int} {Ls : List (List Tri)} {n : Nat} (h : cirErr wd Ls = 0) (h2 : wideOf n ≠ wd) : walkErr wd Ls n = 2 := by
  unfold walkErr; rw [if_pos h, if_neg]
  intro hn
  obtain ⟨⟨s1, s2, -⟩, -⟩ := cirErr_ok h
  apply h2
  rw [hn, wideOf_of _ (by omega)]; omega
theorem walkErr_nilM {wd : Int} {Ls : List (List Tri)} {n : Nat} (h : cirErr wd Ls = 0) (h2 : wideOf n = wd) : walkErr wd Ls n = 0 ∧ (n : Int) = 2 ^ wd.toNat := by
  obtain ⟨⟨s1, s2, -⟩, -⟩ := cirErr_ok h
  have hn : (n : Int) = 2 ^ wd.toNat := by rw [← h2]; exact wideOf_pow (by omega)
  exact ⟨by unfold walkErr; rw [if_pos h, if_pos hn], hn⟩
theorem IsPw.le {p : Int} {k : Nat} (h : IsPw p k) (h23 : 23 ≤ p) (hp2 : p ≤ 2147483647) : (k : Int) ≤ 9223372036854775807 := by
  apply Classical.byContradiction
  intro hc
  exact h.2.2 (p - 2).toNat (by omega) (by omega) (gcd_last h23)
theorem Cub.shape' {w : World} {v : Value} {L : List (List (List Int))} (h : Cub w v L) : ∃ a n c, v = .slice a n c := by
  obtain ⟨Q, h1, -⟩ := h
  obtain ⟨ao, cap, h1, _⟩ := h1; exact ⟨ao, _, cap, h1⟩
theorem Rws.shape' {w : World} {v : Value} {L : List (List Int)} (h : Rws w v L) : ∃ a n c, v = .slice a n c := by
  obtain ⟨Q, h1⟩ := h
  obtain ⟨ao, cap, h1⟩ := h1.shape; exact ⟨ao, _, cap, h1⟩
end Go.Att
namespace Go.Proofs.YtnhbabiccfdhmaaGreatDoor
open Go.RowKit Go.Att
set_option maxRecDepth 100000 in
set_option maxHeartbeats 4000000 in
theorem gatesMakes_bad (p : Int) (c v2 : Value) (w : World) (wd : Int) (lv : Value) (hc : c = .agg #[.int .i64 wd, lv]) (h : ¬ (okP p ∧ 23 ≤ p)) (hg : Hnd w) :
    Calls Tryz.prog 4 #[.int .i64 p, c, v2] w fun e w' => e = .returned (.bool true) ∧ Ext w w' := by
  subst hc
  have HG := Lib.hid hg; clear hg
  by_cases h1 : okP p
  · have h2 : p < 23 := by have : ¬ 23 ≤ p := fun h3 => h ⟨h1, h3⟩; omega
    have H := Lib.hid h1; clear h h1
    go_enter Tryz.func4, Tryz.ntmps4
    go_wp2_with (go_at_call 22; refine (sspg_low _ _ H.out h2 (HG.out.ext (Ext.alloc _ _))).mono ?_; rintro e w' ⟨v, rfl, hx, rfl⟩)
    go_ret
    exact ⟨rfl, (Ext.alloc _ _).trans hx⟩
  · have H := Lib.hid h1; clear h h1
    go_enter Tryz.func4, Tryz.ntmps4
    go_wp2_with (go_at_call 22; refine (sspg_bad _ _ H.out (HG.out.ext (Ext.alloc _ _))).mono ?_; rintro e w' ⟨v, rfl, hx, rfl⟩)
    go_ret
    exact ⟨rfl, (Ext.alloc _ _).trans hx⟩
set_option maxRecDepth 100000 in
set_option maxHeartbeats 8000000 in
theorem gatesMakes_err (p wd : Int) (lv vi : Value) (Ls : List (List Tri)) (R : Nat → Value) (inp : List Int) (w : World) (h : okP p) (h23 : 23 ≤ p) (hg : Hnd w) (hv : LysAt w lv Ls R) (hi : Ints w vi inp) (hE : walkErr wd Ls inp.length ≠ 0) :
    Calls Tryz.prog 4 #[.int .i64 p, .agg #[.int .i64 wd, lv], vi] w fun e w' => e = .returned (.bool true) ∧ Ext w w' := by
  have H := Lib.hid h; have HG := Lib.hid hg; have HV := Lib.hid hv; have HI := Lib.hid hi; have HE := Lib.hid hE
  obtain ⟨ao, cap, rfl⟩ := hv.shape
  have hli := hi.run_len (P := Tryz.prog) slInts
  have c0 := cell_new w #[.int .i64 wd, .slice ao Ls.length cap] 48 0
  have c1 := cell_new w #[.int .i64 wd, .slice ao Ls.length cap] 48 1
  have HX0 := Lib.hid (Ext.alloc w (Obj.cells #[.int .i64 wd, .slice ao Ls.length cap] 48))
  have HK0 := Lib.hid c0; have HK1 := Lib.hid c1
  clear h hg hv hi hE c0 c1
  go_enter Tryz.func4, Tryz.ntmps4
  go_upto_region 4 with (go_at_call 22; refine (sspg_ok _ _ H.out h23 (HG.out.ext HX0.out)).mono ?_; rintro e w1 ⟨v, rfl, hx, s, f, g, rfl, hs, hf⟩; obtain ⟨bs, rfl, hcs⟩ := hs.ptr; obtain ⟨bf, rfl⟩ := hf.ptr; clear hs hf)
  have HX1 := Lib.hid (HX0.out.trans hx)
  have c0 : w1.cell? ⟨w.heap.size, 0, none⟩ = some (.int .i64 wd) := hx.cell HK0.out
  have c1 : w1.cell? ⟨w.heap.size, 1, none⟩ = some (.slice ao Ls.length cap) := hx.cell HK1.out
  clear HX0 hx
  by_cases hcir : cirErr wd Ls = 0
  · have hF : wideOf inp.length ≠ wd := fun hF => HE.out (walkErr_nilM hcir hF).1
    have HW2 := Lib.hid (walkErr_twoM hcir hF)
    have b9 : (wideOf inp.length != wd) = true := by rw [bne_iff_ne]; exact hF
    have HCE := Lib.hid hcir
    clear hcir hF
    go_upto_region 5 with (go_at_call 23; refine (make_bad bs bf wd _ vi Ls R inp _ hcs (HV.out.ext HX1.out) (HI.out.ext HX1.out) HE.out).mono ?_; rw [HW2.out]; rintro e w2 ⟨v2, rfl, hx2, rfl⟩)
    have HX3 := Lib.hid ((HX1.out.trans hx2).trans (Ext.alloc w2 (Obj.cells #[.slice none 0 0, .slice none 0 0] 53)))
    have d0 := (Ext.alloc w2 (Obj.cells #[.slice none 0 0, .slice none 0 0] 53)).cell (hx2.cell c0)
    have d1 := (Ext.alloc w2 (Obj.cells #[.slice none 0 0, .slice none 0 0] 53)).cell (hx2.cell c1)
    have HO3 := Lib.hid (BlkOf.new w2 [.slice none 0 0, .slice none 0 0] 53)
    obtain ⟨w3, hw3⟩ : ∃ w3, w3 = w2.alloc (Obj.cells #[.slice none 0 0, .slice none 0 0] 53) := ⟨_, rfl⟩
    rw [← hw3] at HX3 d0 d1 HO3 ⊢
    clear hw3 hx2 c0 c1 hcs
    generalize w2.heap.size = ob at *
    go_wp2_with (go_at_call 24; refine (rfaultc_any wd _ Ls R _ (HV.out.ext HX3.out)).mono ?_; rw [HCE.out]; rintro e w4 ⟨rfl, hx4⟩; have HX4 := Lib.hid (HX3.out.trans hx4); have e0 := hx4.cell d0; have HO4 := Lib.hid (HO3.out.ext hx4); clear hx4 d0 d1 HX3 HO3)
    go_wp2_with (go_at_call 25; refine (rwide_any _ _).mono ?_; rintro e w' ⟨rfl, rfl⟩)
    refine (error_any 2 2 _ (HG.out.ext HX4.out)).mono ?_
    rw [show ((2 : Int) == 2) = true from beq_self_eq_true _]
    rintro e w5 ⟨rfl, hx5⟩
    have HX5 := Lib.hid (HX4.out.trans hx5)
    have o0 : w5.cell? ⟨ob, 0, none⟩ = some (.slice none 0 0) := (HO4.out.ext hx5).cell 0
    have o1 : w5.cell? ⟨ob, 1, none⟩ = some (.slice none 0 0) := (HO4.out.ext hx5).cell 1
    clear hx5 HX4 HO4 e0
    go_wp2_with (go_at_call 26; refine (layered_same _ _ _ _ [] [] _ (Cub.nil _) (Cub.nil _) (Rws.nil _) (Rws.nil _)).mono ?_; rintro e w6 ⟨rfl, hx6⟩)
    go_ret
    exact ⟨rfl, HX5.out.trans hx6⟩
  · have HW2 := Lib.hid (walkErr_cirM (n := inp.length) hcir)
    have b9 : (cirErr wd Ls == 0) = false := by rw [beq_eq_false_iff_ne]; exact hcir
    have b8 : (cirErr wd Ls != 0) = true := by rw [bne_iff_ne]; exact hcir
    clear hcir
    go_upto_region 5 with (go_at_call 23; refine (make_bad bs bf wd _ vi Ls R inp _ hcs (HV.out.ext HX1.out) (HI.out.ext HX1.out) HE.out).mono ?_; rw [HW2.out]; rintro e w2 ⟨v2, rfl, hx2, rfl⟩)
    have HX3 := Lib.hid ((HX1.out.trans hx2).trans (Ext.alloc w2 (Obj.cells #[.slice none 0 0, .slice none 0 0] 53)))
    have d0 := (Ext.alloc w2 (Obj.cells #[.slice none 0 0, .slice none 0 0] 53)).cell (hx2.cell c0)
    have d1 := (Ext.alloc w2 (Obj.cells #[.slice none 0 0, .slice none 0 0] 53)).cell (hx2.cell c1)
    have HO3 := Lib.hid (BlkOf.new w2 [.slice none 0 0, .slice none 0 0] 53)
    obtain ⟨w3, hw3⟩ : ∃ w3, w3 = w2.alloc (Obj.cells #[.slice none 0 0, .slice none 0 0] 53) := ⟨_, rfl⟩
    rw [← hw3] at HX3 d0 d1 HO3 ⊢
    clear hw3 hx2 c0 c1 hcs
    generalize w2.heap.size = ob at *
    go_wp2_with (go_at_call 24; refine (rfaultc_any wd _ Ls R _ (HV.out.ext HX3.out)).mono ?_; rintro e w4 ⟨rfl, hx4⟩; have HX4 := Lib.hid (HX3.out.trans hx4); have e0 := hx4.cell d0; have HO4 := Lib.hid (HO3.out.ext hx4); clear hx4 d0 d1 HX3 HO3)
    go_wp2_with fail
    refine (error_any (cirErr wd Ls) (cirErr wd Ls) _ (HG.out.ext HX4.out)).mono ?_
    rw [show ((cirErr wd Ls) == (cirErr wd Ls)) = true from beq_self_eq_true _]
    rintro e w5 ⟨rfl, hx5⟩
    have HX5 := Lib.hid (HX4.out.trans hx5)
    have o0 : w5.cell? ⟨ob, 0, none⟩ = some (.slice none 0 0) := (HO4.out.ext hx5).cell 0
    have o1 : w5.cell? ⟨ob, 1, none⟩ = some (.slice none 0 0) := (HO4.out.ext hx5).cell 1
    clear hx5 HX4 HO4 e0
    go_wp2_with (go_at_call 26; refine (layered_same _ _ _ _ [] [] _ (Cub.nil _) (Cub.nil _) (Rws.nil _) (Rws.nil _)).mono ?_; rintro e w6 ⟨rfl, hx6⟩)
    go_ret
    exact ⟨rfl, HX5.out.trans hx6⟩
set_option maxRecDepth 100000 in
set_option maxHeartbeats 8000000 in
theorem gatesMakes_ok (p wd : Int) (lv vi : Value) (Ls : List (List Tri)) (R : Nat → Value) (inp : List Int) (w : World) (h : okP p) (h23 : 23 ≤ p) (hg : Hnd w) (hv : LysAt w lv Ls R) (hi : Ints w vi inp) (hE : walkErr wd Ls inp.length = 0) :
    Calls Tryz.prog 4 #[.int .i64 p, .agg #[.int .i64 wd, lv], vi] w fun e w' => e = .returned (.bool true) ∧ Ext w w' := by
  have hp2 : p ≤ 2147483647 := h.2.2
  have H := Lib.hid h; have HG := Lib.hid hg; have HV := Lib.hid hv; have HI := Lib.hid hi; have HE := Lib.hid hE
  obtain ⟨hcir, hin⟩ := walkErr_ok hE
  have HCE := Lib.hid hcir; have HIN := Lib.hid hin
  have hS := (cirErr_ok hcir).1
  have b9 : (wideOf inp.length != wd) = false := by
    rw [bne_eq_false_iff_eq, hin, wideOf_of _ (by have := hS.2.1; omega)]
    have := hS.1; omega
  obtain ⟨n, hn⟩ : ∃ n : Nat, wideOf (nthY Ls (Ls.length - 1)).length = n := ⟨(wideOf (nthY Ls (Ls.length - 1)).length).toNat, by have := hS.2.2.2.2 (Ls.length - 1) (by have := hS.2.2.1; omega); omega⟩
  have HN := Lib.hid hn
  obtain ⟨ao, cap, rfl⟩ := hv.shape
  have hli := hi.run_len (P := Tryz.prog) slInts
  have c0 := cell_new w #[.int .i64 wd, .slice ao Ls.length cap] 48 0
  have c1 := cell_new w #[.int .i64 wd, .slice ao Ls.length cap] 48 1
  have HX0 := Lib.hid (Ext.alloc w (Obj.cells #[.int .i64 wd, .slice ao Ls.length cap] 48))
  have HK0 := Lib.hid c0; have HK1 := Lib.hid c1
  clear h hg hv hi hE c0 c1 hcir hin hS hn
  go_enter Tryz.func4, Tryz.ntmps4
  go_upto_region 4 with (go_at_call 22; refine (sspg_ok _ _ H.out h23 (HG.out.ext HX0.out)).mono ?_; rintro e w1 ⟨v, rfl, hx, s, f, g, rfl, hs, hf⟩; obtain ⟨bf, rfl⟩ := hf.ptr; obtain ⟨fs, hfs⟩ := hf.fld; obtain ⟨bs, k, rt, rfl, hpw, hsp⟩ := hs; have HFS := Lib.hid hfs; have HPW := Lib.hid hpw; have HSP := Lib.hid hsp; clear hf hfs hpw hsp)
  have HX1 := Lib.hid (HX0.out.trans hx)
  have c0 : w1.cell? ⟨w.heap.size, 0, none⟩ = some (.int .i64 wd) := hx.cell HK0.out
  have c1 : w1.cell? ⟨w.heap.size, 1, none⟩ = some (.slice ao Ls.length cap) := hx.cell HK1.out
  clear HX0 hx HK0 HK1
  obtain ⟨z, hz⟩ : ∃ z, z = drwL p k (begS p k wd Ls (vrow p Ls inp Ls.length)) n := ⟨_, rfl⟩
  obtain ⟨D, hD⟩ : ∃ D, D = drwS p k (begS p k wd Ls (vrow p Ls inp Ls.length)) n := ⟨_, rfl⟩
  have HZD := Lib.hid hz; have HDD := Lib.hid hD
  clear hz hD
  have hk64 := HPW.out.le h23 hp2
  go_upto_region 5 with (go_at_call 23; refine (make_ok (p := p) (k := k) HSP.out HFS.out hk64 (HV.out.ext HX1.out) (HI.out.ext HX1.out) HE.out n HN.out z D HZD.out HDD.out).mono ?_; rintro e w2 ⟨v2, rfl, hx2, vr, vl, rfl, hcu, hrw⟩; obtain ⟨ar, nr, cr, rfl⟩ := hcu.shape'; obtain ⟨al, nl, cl, rfl⟩ := hrw.shape'; have HCU := Lib.hid hcu; have HRW := Lib.hid hrw; clear hcu hrw)
  have HX3 := Lib.hid ((HX1.out.trans hx2).trans (Ext.alloc w2 (Obj.cells #[.slice ar nr cr, .slice al nl cl] 53)))
  have d0 := (Ext.alloc w2 (Obj.cells #[.slice ar nr cr, .slice al nl cl] 53)).cell (hx2.cell c0)
  have d1 := (Ext.alloc w2 (Obj.cells #[.slice ar nr cr, .slice al nl cl] 53)).cell (hx2.cell c1)
  have HO3 := Lib.hid (BlkOf.new w2 [.slice ar nr cr, .slice al nl cl] 53)
  have HC3 := Lib.hid (HCU.out.ext (Ext.alloc w2 (Obj.cells #[.slice ar nr cr, .slice al nl cl] 53)))
  have HR3 := Lib.hid (HRW.out.ext (Ext.alloc w2 (Obj.cells #[.slice ar nr cr, .slice al nl cl] 53)))
  obtain ⟨w3, hw3⟩ : ∃ w3, w3 = w2.alloc (Obj.cells #[.slice ar nr cr, .slice al nl cl] 53) := ⟨_, rfl⟩
  rw [← hw3] at HX3 d0 d1 HO3 HC3 HR3 ⊢
  clear hw3 hx2 c0 c1 HCU HRW
  generalize w2.heap.size = ob at *
  go_wp2_with (first | (go_at_call 24; refine (rfaultc_any wd _ Ls R _ (HV.out.ext HX3.out)).mono ?_; rw [HCE.out]; rintro e w4 ⟨rfl, hx4⟩; have HX4 := Lib.hid (HX3.out.trans hx4); have e0 := hx4.cell d0; have e1 := hx4.cell d1; have HX34 := Lib.hid hx4; clear hx4 d0 d1) | (go_at_call 25; refine (rwide_any _ _).mono ?_; rintro e w' ⟨rfl, rfl⟩))
  refine (error_any 0 0 _ (HG.out.ext HX4.out)).mono ?_
  rw [show ((0 : Int) == 0) = true from beq_self_eq_true _]
  rintro e w5 ⟨rfl, hx5⟩
  have HX5 := Lib.hid (HX4.out.trans hx5)
  have HX35 := Lib.hid (HX34.out.trans hx5)
  have j0 := hx5.cell e0; have j1 := hx5.cell e1
  clear hx5 HX4 HX34 e0 e1
  go_upto_region 15 with (go_at_call 27; refine (rmake_any (p := p) (k := k) h23 hp2 HPW.out (HV.out.ext HX5.out) (HI.out.ext HX5.out) HCE.out HIN.out n HN.out z D HZD.out HDD.out).mono ?_; rintro e w6 ⟨v6, rfl, hx6, ur, ul, rfl, hcu, hrw⟩; obtain ⟨br, mr, dr, rfl⟩ := hcu.shape'; obtain ⟨bl, ml, dl, rfl⟩ := hrw.shape'; have HCU := Lib.hid hcu; have HRW := Lib.hid hrw; clear hcu hrw)
  have hxb := Ext.alloc w6 (Obj.cells #[.slice br mr dr, .slice bl ml dl] 53)
  have HO7 := (HO3.out.ext HX35.out).ext (hx6.trans hxb)
  have s0 := HO7.cell 0
  have s1 := HO7.cell 1
  have s2 := cell_new w6 #[.slice br mr dr, .slice bl ml dl] 53 0
  have s3 := cell_new w6 #[.slice br mr dr, .slice bl ml dl] 53 1
  have HX7 := Lib.hid ((HX5.out.trans hx6).trans hxb)
  have HA := Lib.hid (HC3.out.ext (HX35.out.trans (hx6.trans hxb))); have HAR := Lib.hid (HR3.out.ext (HX35.out.trans (hx6.trans hxb)))
  have HB := Lib.hid (HCU.out.ext hxb); have HBR := Lib.hid (HRW.out.ext hxb)
  clear hx6 HO7 hxb HC3 HR3 HCU HRW HX35 HO3 HX3 HX5 j0 j1
  have q0 : (w6.alloc (Obj.cells #[.slice br mr dr, .slice bl ml dl] 53)).cell? ⟨ob, 0, none⟩ = some (.slice ar nr cr) := s0
  have q1 : (w6.alloc (Obj.cells #[.slice br mr dr, .slice bl ml dl] 53)).cell? ⟨ob, 1, none⟩ = some (.slice al nl cl) := s1
  have q2 : (w6.alloc (Obj.cells #[.slice br mr dr, .slice bl ml dl] 53)).cell? ⟨w6.heap.size, 0, none⟩ = some (.slice br mr dr) := s2
  have q3 : (w6.alloc (Obj.cells #[.slice br mr dr, .slice bl ml dl] 53)).cell? ⟨w6.heap.size, 1, none⟩ = some (.slice bl ml dl) := s3
  clear s0 s1 s2 s3
  generalize w6.alloc (Obj.cells #[.slice br mr dr, .slice bl ml dl] 53) = w7 at *
  go_wp2_with (go_at_call 26; refine (layered_same _ _ _ _ _ _ _ HA.out HB.out HAR.out HBR.out).mono ?_; rintro e w8 ⟨rfl, hx8⟩)
  go_ret
  exact ⟨rfl, HX7.out.trans hx8⟩
end Go.Proofs.YtnhbabiccfdhmaaGreatDoor
