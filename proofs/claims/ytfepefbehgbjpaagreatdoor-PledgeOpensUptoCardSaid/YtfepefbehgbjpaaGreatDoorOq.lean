/- What a pledge says, the program's side, where the pledge was made behind the chain: contract. Printed by wip/mkoq.py. -/
import Derived.Test.YtfepefbehgbjpaaGreatDoorNv
namespace Go.Att
structure PldR (w : World) (a b c d e f : Value) (o : Pld) (R4 R5 : Nat → Value) : Prop where
  root : Ints w a o.root
  mixed : Ints w b o.mixed
  point : Ints w c o.point
  places : Ints w d o.places
  rows : RwsAt w e o.rows R4
  nodes : RwsAt w f o.nodes R5
end Go.Att
namespace Go.Proofs.YtfepefbehgbjpaaGreatDoor
open Go.RowKit Go.Att
section
variable {w0 w : World} {cb bs bf : Nat} {p g0 : Int} {k : Nat} {fs D : List Int} {dv va r0 r1 r2 r3 r4 r5 : Value} {at_ : List Int} {o : Pld} {sh rt : Int}
set_option maxRecDepth 100000 in
set_option maxHeartbeats 16000000 in
theorem pcheck_okG {R4 R5 : Nat → Value} (hsp : Spg w0 (.pointer (some ⟨bs, 0, none⟩)) p k) (h2p : 2 ≤ p) (hp2 : p ≤ 2147483647) (n : Nat) (hd : DomOf w0 dv (.pointer (some ⟨bf, 0, none⟩)) n sh rt) (hf : Fld w0 (.pointer (some ⟨bf, 0, none⟩)) p g0 fs) (hn1 : 1 ≤ n) (hn2 : n ≤ 65536) (v : Nat) (hv : v ≤ 12) (hroom : roomB n v = true) (hav : at_.length = v) (asked : Nat) (ha1 : 1 ≤ asked) (ha2 : asked ≤ 64) (hx0 : Ext w0 w) (hb : w0.heap.size ≤ cb) (ha : Ints w0 va at_) (ho : ∀ W, w.grownBy W (some cb) → PldR W r0 r1 r2 r3 r4 r5 o R4 R5) (hle : PldLe o 1048576) (hc : ChP w cb (.pointer (some ⟨bs, 0, none⟩)) D) (hD : D.length = 4) :
    Calls Tryz.prog 16 #[.pointer (some ⟨bs, 0, none⟩), .pointer (some ⟨cb, 0, none⟩), dv, .int .i64 v, va, .int .i64 asked, .agg #[r0, r1, r2, r3, r4, r5]] w fun e w' => PlGot w cb (plV p k sh rt n D v at_ asked o).1 (plV p k sh rt n D v at_ asked o).2 e w' ∧ ((plV p k sh rt n D v at_ asked o).2 = true → ChP w' cb (.pointer (some ⟨bs, 0, none⟩)) (drwS p k (plD5 p k D o at_) asked)) := by
  have hla := ha.run_len (P := Tryz.prog) slInts
  obtain ⟨aa, ac, hshp⟩ := ha.shape
  rw [hav] at hla hshp
  subst hshp
  have hl0 := (ho w (World.grownBy.refl _ _)).root.run_len (P := Tryz.prog) slInts
  have hl1 := (ho w (World.grownBy.refl _ _)).mixed.run_len (P := Tryz.prog) slInts
  have hl2 := (ho w (World.grownBy.refl _ _)).point.run_len (P := Tryz.prog) slInts
  have hb0 := hle.root; have hb1 := hle.mixed; have hb2 := hle.point
  have HSP := Lib.hid hsp; have HDO := Lib.hid hd; have HFL := Lib.hid hf
  have HA := Lib.hid ha; have HOG := Lib.hid ho; have HLE := Lib.hid hle; have HAV := Lib.hid hav
  have HPV := Lib.hid (show plV p k sh rt n D v at_ asked o = if (plFit (v - v / 2) o && (plShow p k n (v / 2) o (plL p k D o at_ n asked) && plAll p sh rt (plR p k D o at_) (v / 2) at_ o (plL p k D o at_ n asked))) = true then (plN p (v / 2) (v - v / 2) at_ o, true) else (0, false) from rfl)
  have CS0 : ∀ W, Ext w W → Calls Tryz.prog 56 #[dv, .int .i64 v] W (Gives W fun u W' => ∃ kk, u = .tuple #[.pointer (some ⟨kk, 0, none⟩), .bool true] ∧ W'.cell? ⟨kk, 0, none⟩ = some (.pointer (some ⟨bf, 0, none⟩)) ∧ W'.cell? ⟨kk, 1, none⟩ = some dv ∧ W'.cell? ⟨kk, 2, none⟩ = some (.int .i64 (v / 2 : Nat)) ∧ W'.cell? ⟨kk, 3, none⟩ = some (.int .i64 (v - v / 2 : Nat))) := fun W hx => (shaped_any (HDO.out.ext (hx0.trans hx)) (by omega) (by omega) v (by omega)).mono fun e w' h => by
    obtain ⟨u, h1, h2, s, h3, kk, h4, h5⟩ := h
    exact ⟨u, h1, h2, kk, by rw [h3, hroom, h4], h5⟩
  obtain ⟨a, ha'⟩ : ∃ a, v / 2 = a := ⟨_, rfl⟩
  obtain ⟨c, hc'⟩ : ∃ c, v - a = c := ⟨_, rfl⟩
  have HAC := Lib.hid (show a ≤ 6 ∧ c ≤ 6 ∧ a + c = v from by omega)
  rw [ha'] at HPV CS0
  rw [hc'] at HPV CS0
  have CS := Lib.hid CS0
  have CA := Lib.hid (fun W => by have := pasks_any W asked; rw [decide_eq_true (show 1 ≤ (asked : Int) ∧ (asked : Int) ≤ 64 by omega)] at this; exact this)
  have hsh2 := shl_pow HAC.out.2.1
  have hpc : (2 : Nat) ^ c ≤ 64 := Nat.le_trans (Nat.pow_le_pow_right (by decide) HAC.out.2.1) (by decide)
  have hpa : (2 : Nat) ^ a ≤ 64 := Nat.le_trans (Nat.pow_le_pow_right (by decide) HAC.out.1) (by decide)
  obtain ⟨Mc, hMce⟩ : ∃ M, (2 : Nat) ^ c = M := ⟨_, rfl⟩
  obtain ⟨Ma, hMae⟩ : ∃ M, (2 : Nat) ^ a = M := ⟨_, rfl⟩
  rw [hMce] at hpc hsh2
  rw [hMae] at hpa
  have HMC := Lib.hid hMce; have HMA := Lib.hid hMae
  have h0c : (0 : Int) ≤ c ∧ (c : Int) ≤ 6 := by have := HAC.out; omega
  obtain ⟨PV, hPV⟩ : ∃ PV, plV p k sh rt n D v at_ asked o = PV := ⟨_, rfl⟩
  rw [hPV] at HPV ⊢
  have hX := (Ext.alloc w (Obj.cells #[.slice aa v ac] 22)).trans (Ext.alloc _ (Obj.cells #[r0, r1, r2, r3, r4, r5] 33))
  have hK := (Ext.alloc _ (Obj.cells #[r0, r1, r2, r3, r4, r5] 33)).cell (cell_new w #[.slice aa v ac] 22 0)
  have hK2 := BlkOf.new (w.alloc (Obj.cells #[.slice aa v ac] 22)) [r0, r1, r2, r3, r4, r5] 33
  rw [World.size_alloc] at hK2
  have HX := Lib.hid hX; have HK := Lib.hid hK; have HK2 := Lib.hid hK2; have HX0 := Lib.hid hx0; have HB := Lib.hid hb
  have HCB := Lib.hid (World.block_lt_of_cell? w _ hc.c0)
  have HC := Lib.hid hc
  have HD := Lib.hid hD
  clear ha' hc' ha ho hle hav hX hK hK2 hc hD hx0 hroom hPV hMce hMae CS0 hsp hd hf
  go_enter Tryz.func16, Tryz.ntmps16
  go_upto_region 1 with (fail)
  generalize hW1 : (w.alloc (Obj.cells #[.slice aa v ac] 22)).alloc (Obj.cells #[r0, r1, r2, r3, r4, r5] 33) = W1 at *
  clear hW1
  have k0 : W1.cell? ⟨w.heap.size, 0, none⟩ = some (.slice aa v ac) := HK.out
  go_upto_region 4 with (first | (go_at_call 24; refine (CA.out _).mono ?_; rintro e w' ⟨rfl, rfl⟩) | (go_at_call 56; refine (CS.out _ HX.out).mono ?_; rintro e w2 ⟨u, rfl, hx2, ks, rfl, s0, s1, s2, s3⟩; have HX2 := Lib.hid hx2; have HS0 := Lib.hid s0; have HS1 := Lib.hid s1; have HS2 := Lib.hid s2; have HS3 := Lib.hid s3; clear hx2 k0 s0 s1 s2 s3))
  have hx3 := Ext.alloc w2 (Obj.cells #[.pointer (some ⟨ks, 0, none⟩)] 68)
  have hk16 := cell_new w2 #[.pointer (some ⟨ks, 0, none⟩)] 68 0
  have HKS := Lib.hid (show cb ≠ ks from by
    rintro rfl
    obtain ⟨vd, h1, h2⟩ := ((HC.out.ext HX.out).ext HX2.out).c1
    obtain ⟨ad, cd, rfl⟩ := h2.shape
    obtain ⟨bd, rfl⟩ := HDO.out.ptr
    rw [HS1.out] at h1; cases h1)
  have HXA := Lib.hid (HX2.out.trans hx3)
  have S3 : Hid (PrgS w0 w.heap.size w2.heap.size ks (.slice aa v ac) (.pointer (some ⟨bf, 0, none⟩)) dv [r0, r1, r2, r3, r4, r5] a c 33 (w2.alloc (Obj.cells #[.pointer (some ⟨ks, 0, none⟩)] 68))) := Lib.hid ⟨HX0.out.trans (HX.out.trans HXA.out), HXA.out.cell HK.out, HK2.out.ext HXA.out, hk16, hx3.cell HS0.out, hx3.cell HS1.out, hx3.cell HS2.out, hx3.cell HS3.out⟩
  have G3 := Lib.hid ((HX.out.trans HXA.out).grownBy (some cb))
  have C3 := Lib.hid ((HC.out.ext HX.out).ext HXA.out)
  have HQ16 := Lib.hid (show cb < w2.heap.size from by have := (HX.out.trans HX2.out).size; have := HCB.out; omega)
  clear hx3 hk16 HX HX2 HXA HS0 HS1 HS2 HS3 HK HK2 HC CS CA
  generalize w2.alloc (Obj.cells #[.pointer (some ⟨ks, 0, none⟩)] 68) = w3 at *
  generalize w2.heap.size = q16 at *
  generalize w.heap.size = q at *
  have t0 : w3.cell? ⟨q16, 0, none⟩ = some (.pointer (some ⟨ks, 0, none⟩)) := S3.out.t
  have t3 : w3.cell? ⟨ks, 3, none⟩ = some (.int .i64 c) := S3.out.s3
  have m1 : w3.cell? ⟨q + 1, 1, none⟩ = some r1 := S3.out.o.cell 1
  have m2 : w3.cell? ⟨q + 1, 2, none⟩ = some r2 := S3.out.o.cell 2
  by_cases hf1 : o.mixed.length = Mc
  case neg =>
    have HF := Lib.hid (show PV = (0, false) from by
      rw [HPV.out, if_neg]
      unfold plFit
      rw [HMC.out, decide_eq_false hf1]; simp)
    have e1 : ((o.mixed.length : Int) != (Mc : Int)) = true := by rw [bne_iff_ne]; omega
    have e2 : ¬ ((o.mixed.length : Int) = (Mc : Int)) := by omega
    clear hf1
    go_quiet (fail)
    go_wp2_with fail
    go_ret2
    exact ⟨⟨by rw [HF.out]; rfl, grown_one G3.out ((Ext.drewN _ _).grownBy _)⟩, fun e => by rw [HF.out] at e; simp at e⟩
  by_cases hf2 : o.point.length = Mc
  case neg =>
    have HF := Lib.hid (show PV = (0, false) from by
      rw [HPV.out, if_neg]
      unfold plFit
      rw [HMC.out, decide_eq_false hf2]; simp)
    have e1 : ((o.point.length : Int) != (Mc : Int)) = true := by rw [bne_iff_ne]; omega
    have e2 : ¬ ((o.point.length : Int) = (Mc : Int)) := by omega
    rw [hf1] at hl1
    clear hf2
    go_quiet (fail)
    go_wp2_with fail
    go_ret2
    exact ⟨⟨by rw [HF.out]; rfl, grown_one G3.out ((Ext.drewN _ _).grownBy _)⟩, fun e => by rw [HF.out] at e; simp at e⟩
  have HFIT := Lib.hid (show plFit c o = true from by unfold plFit; rw [HMC.out, decide_eq_true hf1, decide_eq_true hf2]; rfl)
  have HF1 := Lib.hid hf1; have HF2 := Lib.hid hf2
  rw [hf1] at hl1
  rw [hf2] at hl2
  clear hf1 hf2
  go_quiet (fail)
  have hxq := Ext.drewN w3 nq
  replace S3 := Lib.hid (S3.out.ext hxq); replace G3 := Lib.hid (grown_one G3.out (hxq.grownBy _)); replace C3 := Lib.hid (C3.out.ext hxq)
  clear t0 t3 m1 m2 hxq
  generalize w3.drewN nq = w4 at *
  have m0 : w4.cell? ⟨q + 1, 0, none⟩ = some r0 := S3.out.o.cell 0
  go_upto_region 7 with (go_at_call 28; refine (ctake_any C3.out (HSP.out.ext S3.out.x) r0 o.root ((HOG.out _ G3.out).root) (by rw [HD.out]; omega)).mono ?_; rintro e w5 ⟨rfl, hg, hcc, -⟩; have S5 := Lib.hid (S3.out.grown hg HB.out HCB.out (by have := HQ16.out; omega) HKS.out); have G5 := Lib.hid (grown_one G3.out hg); have C5 := Lib.hid hcc; clear hg hcc)
  clear S3 G3 C3 m0
  have k0 : w5.cell? ⟨q, 0, none⟩ = some (.slice aa v ac) := S5.out.at_
  go_upto_region 8 with (go_at_call 28; refine (ctake_any C5.out (HSP.out.ext S5.out.x) (.slice aa v ac) at_ (HA.out.ext S5.out.x) (by rw [stepP_length, HAV.out]; omega)).mono ?_; rintro e w6 ⟨rfl, hg, hcc, -⟩; have S6 := Lib.hid (S5.out.grown hg HB.out HCB.out (by have := HQ16.out; omega) HKS.out); have G6 := Lib.hid (grown_one G5.out hg); have C6 : Hid (ChP w6 cb (.pointer (some ⟨bs, 0, none⟩)) (plD2 p k D o at_)) := Lib.hid hcc; clear hg hcc)
  clear S5 G5 C5 k0
  have CD := Lib.hid (cdraw_any C6.out (HSP.out.ext S6.out.x) (by rw [show (plD2 p k D o at_).length = 4 from stepP_length _ _ _ _ _]; omega))
  obtain ⟨rr, hrr⟩ : ∃ rr, nth (stepP p k 4 (plD2 p k D o at_) []) 0 = rr := ⟨_, rfl⟩
  rw [hrr] at CD
  have HRR := Lib.hid (show plR p k D o at_ = rr from hrr)
  clear hrr
  go_upto_region 9 with (go_at_call 29; refine CD.out.mono ?_; rintro e w7 ⟨rfl, hg, hcc, -⟩; have S7 := Lib.hid (S6.out.grown hg HB.out HCB.out (by have := HQ16.out; omega) HKS.out); have G7 := Lib.hid (grown_one G6.out hg); have C7 : Hid (ChP w7 cb (.pointer (some ⟨bs, 0, none⟩)) (plD3 p k D o at_)) := Lib.hid hcc; clear hg hcc)
  clear CD S6 G6 C6
  have hx8 := Ext.alloc w7 (Obj.cells #[.int .i64 rr] 3)
  have hk18 := cell_new w7 #[.int .i64 rr] 3 0
  replace S7 := Lib.hid (S7.out.ext hx8); replace G7 := Lib.hid (grown_one G7.out (hx8.grownBy _))
  have HQ18 := Lib.hid (show cb < w7.heap.size from World.block_lt_of_cell? w7 _ C7.out.c0)
  replace C7 := Lib.hid (C7.out.ext hx8)
  have K8 := Lib.hid hk18
  clear hx8 hk18
  generalize w7.alloc (Obj.cells #[.int .i64 rr] 3) = w8 at *
  generalize w7.heap.size = q18 at *
  have m1 : w8.cell? ⟨q + 1, 1, none⟩ = some r1 := S7.out.o.cell 1
  go_upto_region 10 with (go_at_call 28; refine (ctake_any C7.out (HSP.out.ext S7.out.x) r1 o.mixed ((HOG.out _ G7.out).mixed) (by rw [show (plD3 p k D o at_).length = 4 from stepP_length _ _ _ _ _]; omega)).mono ?_; rintro e w9 ⟨rfl, hg, hcc, -⟩; have S9 := Lib.hid (S7.out.grown hg HB.out HCB.out (by have := HQ16.out; omega) HKS.out); have G9 := Lib.hid (grown_one G7.out hg); have C9 := Lib.hid hcc; have K9 := Lib.hid (hg.cell K8.out (fun e => by have := HQ18.out; have := Option.some.inj e; simp only at this; omega)); clear hg hcc)
  clear S7 G7 C7 K8 m1
  have m2 : w9.cell? ⟨q + 1, 2, none⟩ = some r2 := S9.out.o.cell 2
  go_upto_region 11 with (go_at_call 28; refine (ctake_any C9.out (HSP.out.ext S9.out.x) r2 o.point ((HOG.out _ G9.out).point) (by rw [stepP_length]; omega)).mono ?_; rintro e wA ⟨rfl, hg, hcc, -⟩; have SA := Lib.hid (S9.out.grown hg HB.out HCB.out (by have := HQ16.out; omega) HKS.out); have GA := Lib.hid (grown_one G9.out hg); have C5 : Hid (ChP wA cb (.pointer (some ⟨bs, 0, none⟩)) (plD5 p k D o at_)) := Lib.hid hcc; have KA := Lib.hid (hg.cell K9.out (fun e => by have := HQ18.out; have := Option.some.inj e; simp only at this; omega)); clear hg hcc)
  clear S9 G9 C9 K9 m2
  have CSZ := Lib.hid (size_any (HDO.out.ext SA.out.x))
  have CDR : Hid (∀ m, Calls Tryz.prog 36 #[.pointer (some ⟨cb, 0, none⟩), .int .i64 n, .int .i64 asked] (wA.drewN m) fun e w' => ∃ v, e = .returned v ∧ (wA.drewN m).grownBy w' (some cb) ∧ ChP w' cb (.pointer (some ⟨bs, 0, none⟩)) (drwS p k (plD5 p k D o at_) asked) ∧ Ints w' v (plL p k D o at_ n asked) ∧ NewIn (wA.drewN m) v) := Lib.hid fun m => cdrawn_any h2p hp2 (C5.out.ext (Ext.drewN _ m)) (fun w' hg => HSP.out.ext ((SA.out.ext (Ext.drewN _ m)).grown hg HB.out HCB.out (by have := HQ16.out; omega) HKS.out).x) (stepP_length _ _ _ _ _) n (by omega) (by omega) asked ha1 ha2
  go_upto_region 13 with (first | (go_at_call 37; refine CSZ.out.mono ?_; rintro e w' ⟨rfl, mS, rfl⟩) | (go_at_call 36; refine (CDR.out _).mono ?_; rintro e wB ⟨vL, rfl, hg, hch, hoL, -⟩; have HCHB := Lib.hid hch; clear hch; have hg2 := grown_one ((Ext.drewN wA mS).grownBy (some cb)) hg; have SB := Lib.hid (SA.out.grown hg2 HB.out HCB.out (by have := HQ16.out; omega) HKS.out); have GB := Lib.hid (grown_one GA.out hg2); have KB := Lib.hid (hg2.cell KA.out (fun e => by have := HQ18.out; have := Option.some.inj e; simp only at this; omega)); have HLB := Lib.hid hoL; clear hg hg2 hoL))
  clear SA GA C5 KA CSZ CDR
  have hLin : ∀ i, i < (plL p k D o at_ n asked).length → 0 ≤ nth (plL p k D o at_ n asked) i ∧ nth (plL p k D o at_ n asked) i < (n : Int) := fun i hi => plL_in (by omega) hi
  have hLlen := plL_len (p := p) (k := k) (D := D) (o := o) (at_ := at_) (n := (n : Int)) (asked := asked)
  obtain ⟨L, hL⟩ : ∃ L, plL p k D o at_ n asked = L := ⟨_, rfl⟩
  rw [hL] at hLin hLlen HLB HPV
  rw [HRR.out] at HPV
  have HLIN := Lib.hid hLin
  have HLLEN := Lib.hid hLlen
  have HSHE := Lib.hid (show plShow p k n a o L = ((o.places == L) && (!(o.rows.any fun l => decide (l.length ≠ Ma))) && treeB p k o.root n o.places o.rows o.nodes) from by unfold plShow; rw [HMA.out]; exact shows_three _ _ _ _ _ _ _ _ _)
  have CE0 : ∀ W, Ext wB W → Calls Tryz.prog 58 #[r3, vL] W fun e w' => e = .returned (.bool (o.places == L)) ∧ ∃ q, w' = W.drewN q := fun W hx => pequal_any ((HOG.out _ GB.out).places.ext hx) (HLB.out.ext hx)
  have CZ := Lib.hid (fun W (hx : Ext wB W) => size_any ((HDO.out.ext SB.out.x).ext hx))
  have CT0 : (o.places == L) = true → ∀ W, Ext wB W → Calls Tryz.prog 59 #[.pointer (some ⟨bs, 0, none⟩), r0, .int .i64 n, .agg #[r3, r4, r5]] W fun e w' => e = .returned (.bool (treeB p k o.root n o.places o.rows o.nodes)) ∧ Ext W w' := fun he W hx => tcheck_any (HSP.out.ext (SB.out.x.trans hx)) ((HOG.out _ GB.out).root.ext hx) ((HOG.out _ GB.out).places.ext hx) ((HOG.out _ GB.out).rows.ext hx) ((HOG.out _ GB.out).nodes.ext hx) (by rw [eq_of_beq he]; have := HLLEN.out; omega) (fun i hi => by have := HLE.out.row i hi; omega) n hn1 hn2
  have CC0 : ∀ W, Ext wB W → Calls Tryz.prog 60 #[r4, .func (.func 57) #[] #[.pointer (some ⟨q16, 0, none⟩)]] W (Rd W (.bool (o.rows.any fun l => decide (l.length ≠ Ma)))) := fun W hx => contains1_any ((HOG.out _ GB.out).rows.ext hx) _ _ _ pck1_enter fun W2 i hx2 hi => by
    have := pck1_any ((((HOG.out _ GB.out).rows.row i hi).ext hx).ext hx2) HAC.out.1 ((SB.out.ext (hx.trans hx2)).t) ((SB.out.ext (hx.trans hx2)).s2)
    rw [HMA.out] at this; exact this
  obtain ⟨e1, he1⟩ : ∃ e, (o.places == L) = e := ⟨_, rfl⟩
  obtain ⟨e2, he2⟩ : ∃ e, treeB p k o.root n o.places o.rows o.nodes = e := ⟨_, rfl⟩
  obtain ⟨e3, he3⟩ : ∃ e, (o.rows.any fun l => decide (l.length ≠ Ma)) = e := ⟨_, rfl⟩
  rw [he1] at CE0 CT0 HSHE
  rw [he2] at CT0 HSHE
  rw [he3] at CC0 HSHE
  have CE := Lib.hid CE0; have CC := Lib.hid CC0
  clear he1 he2 he3 hL hLin hLlen CE0 CC0 hl0 hl1 hl2 hsh2 hb0 hb1 hb2 h0c hpc
  have m3 : wB.cell? ⟨q + 1, 3, none⟩ = some r3 := SB.out.o.cell 3
  cases e1 with
  | false =>
    have HF := Lib.hid (show PV = (0, false) from by rw [HPV.out, if_neg]; rw [HSHE.out]; simp)
    clear CT0
    go_quiet ((go_at_call 58; exact Calls.quiet_of (CE.out _ (Ext.drewN _ _))))
    go_wp2_with fail
    go_ret2
    exact ⟨⟨by rw [HF.out]; rfl, grown_one GB.out ((Ext.drewN _ _).grownBy _)⟩, fun e => by rw [HF.out] at e; simp at e⟩
  | true =>
    have CT := Lib.hid (CT0 rfl)
    clear CT0
    have m0 : wB.cell? ⟨q + 1, 0, none⟩ = some r0 := SB.out.o.cell 0
    have m4 : wB.cell? ⟨q + 1, 4, none⟩ = some r4 := SB.out.o.cell 4
    have m5 : wB.cell? ⟨q + 1, 5, none⟩ = some r5 := SB.out.o.cell 5
    have HK : Hid (∀ W, Ext wB W → W.cell? ⟨q + 1, 0, none⟩ = some r0 ∧ W.cell? ⟨q + 1, 3, none⟩ = some r3 ∧ W.cell? ⟨q + 1, 4, none⟩ = some r4 ∧ W.cell? ⟨q + 1, 5, none⟩ = some r5) := Lib.hid fun W hx => ⟨hx.cell m0, hx.cell m3, hx.cell m4, hx.cell m5⟩
    have CEX : Hid (∀ W, Ext wB W → Calls Tryz.prog 58 #[r3, vL] W fun e w' => e = .returned (.bool true) ∧ Ext W w') := Lib.hid fun W hx => (CE.out W hx).mono fun e w' h => ⟨h.1, by obtain ⟨_, q, rfl⟩ := h; exact Ext.drewN _ _⟩
    have CZX : Hid (∀ W, Ext wB W → Calls Tryz.prog 37 #[dv] W fun e w' => e = .returned (.int .i64 n) ∧ Ext W w') := Lib.hid fun W hx => (CZ.out W hx).mono fun e w' h => ⟨h.1, by obtain ⟨_, q, rfl⟩ := h; exact Ext.drewN _ _⟩
    have CCX : Hid (∀ W, Ext wB W → Calls Tryz.prog 60 #[r4, .func (.func 57) #[] #[.pointer (some ⟨q16, 0, none⟩)]] W fun e w' => e = .returned (.bool e3) ∧ Ext W w') := Lib.hid fun W hx => (CC.out W hx).mono fun e w' h => ⟨h.1, by obtain ⟨_, q, rfl⟩ := h; exact Ext.drewN _ _⟩
    clear CE CZ CC
    have HE0 := Lib.hid (Ext.drew wB)
    cases e2 with
    | false =>
      have HF := Lib.hid (show PV = (0, false) from by rw [HPV.out, if_neg]; rw [HSHE.out]; simp)
      refine wp_region_extg 23 [SP.eq (.pointer (some ⟨q + 1, 3, none⟩)), SP.eq (.pointer (some ⟨q + 1, 3, none⟩)), SP.eq r3, SP.eq vL, SP.eq (.bool true), SP.eq (.bool false), SP.eq (.bool false), SP.eq (.pointer (some ⟨bs, 0, none⟩)), SP.eq (.pointer (some ⟨q + 1, 0, none⟩)), SP.eq r0, SP.eq dv, SP.eq (.int .i64 n), SP.eq (.pointer (some ⟨q + 1, 3, none⟩)), SP.eq (.agg #[r3, r4, r5]), SP.eq (.bool false), SP.eq (.bool true), SP.eq (.bool true), SP.eq (.bool true), SP.eq undef, SP.eq undef, SP.eq undef, SP.eq undef, SP.eq undef] (by kernel_rfl) (by kernel_rfl) (by kernel_rfl) ?_ ?_
      · refine ⟨?_, ?_, ?_, ?_, ?_, ?_, ?_, ?_, ?_, ?_, ?_, ?_, ?_, ?_, ?_, ?_, ?_, ?_, ?_, ?_, ?_, ?_, ?_, trivial⟩
        · refine ExtStep.mk rfl fun vs W hx hd => ?_
          clear hd
          simp only [fillA, fillL, dstL, List.take_succ_cons, List.take_zero, List.filterMap_cons, List.filterMap_nil, List.contains_cons, List.contains_nil, Nat.reduceAdd, Nat.zero_add, Nat.reduceBEq, Bool.or_false, Bool.or_true, Bool.false_eq_true, ↓reduceIte]
          go_wp2_with fail
          exact ⟨by trivial, Ext.refl _, rfl⟩
        · refine ExtStep.mk rfl fun vs W hx hd => ?_
          have e95 : vs 95 = (.pointer (some ⟨q + 1, 3, none⟩)) := hd 0 (by kernel_rfl)
          clear hd
          simp only [fillA, fillL, dstL, List.take_succ_cons, List.take_zero, List.filterMap_cons, List.filterMap_nil, List.contains_cons, List.contains_nil, Nat.reduceAdd, Nat.zero_add, Nat.reduceBEq, Bool.or_false, Bool.or_true, Bool.false_eq_true, ↓reduceIte]
          rw [e95]
          go_wp2_with fail
          exact ⟨by trivial, Ext.refl _, rfl⟩
        · refine ExtStep.mk rfl fun vs W hx hd => ?_
          have e96 : vs 96 = (.pointer (some ⟨q + 1, 3, none⟩)) := hd 1 (by kernel_rfl)
          clear hd
          simp only [fillA, fillL, dstL, List.take_succ_cons, List.take_zero, List.filterMap_cons, List.filterMap_nil, List.contains_cons, List.contains_nil, Nat.reduceAdd, Nat.zero_add, Nat.reduceBEq, Bool.or_false, Bool.or_true, Bool.false_eq_true, ↓reduceIte]
          rw [e96]
          have hk := (HK.out _ hx).2.1
          go_wp2_with fail
          exact ⟨by trivial, Ext.refl _, rfl⟩
        · refine ExtStep.mk rfl fun vs W hx hd => ?_
          clear hd
          simp only [fillA, fillL, dstL, List.take_succ_cons, List.take_zero, List.filterMap_cons, List.filterMap_nil, List.contains_cons, List.contains_nil, Nat.reduceAdd, Nat.zero_add, Nat.reduceBEq, Bool.or_false, Bool.or_true, Bool.false_eq_true, ↓reduceIte]
          go_wp2_with fail
          exact ⟨by trivial, Ext.refl _, rfl⟩
        · refine ExtStep.mk rfl fun vs W hx hd => ?_
          have e97 : vs 97 = r3 := hd 2 (by kernel_rfl)
          have e98 : vs 98 = vL := hd 3 (by kernel_rfl)
          clear hd
          simp only [fillA, fillL, dstL, List.take_succ_cons, List.take_zero, List.filterMap_cons, List.filterMap_nil, List.contains_cons, List.contains_nil, Nat.reduceAdd, Nat.zero_add, Nat.reduceBEq, Bool.or_false, Bool.or_true, Bool.false_eq_true, ↓reduceIte]
          rw [e97, e98]
          go_wp2_with (go_at_call 58; refine (CEX.out _ hx).mono ?_; rintro e w3 ⟨rfl, hx3⟩)
          exact ⟨by trivial, hx3, rfl⟩
        · refine ExtStep.mk rfl fun vs W hx hd => ?_
          have e99 : vs 99 = (.bool true) := hd 4 (by kernel_rfl)
          clear hd
          simp only [fillA, fillL, dstL, List.take_succ_cons, List.take_zero, List.filterMap_cons, List.filterMap_nil, List.contains_cons, List.contains_nil, Nat.reduceAdd, Nat.zero_add, Nat.reduceBEq, Bool.or_false, Bool.or_true, Bool.false_eq_true, ↓reduceIte]
          rw [e99]
          go_wp2_with fail
          exact ⟨by trivial, Ext.refl _, rfl⟩
        · refine ExtStep.mk rfl fun vs W hx hd => ?_
          have e100 : vs 100 = (.bool false) := hd 5 (by kernel_rfl)
          clear hd
          simp only [fillA, fillL, dstL, List.take_succ_cons, List.take_zero, List.filterMap_cons, List.filterMap_nil, List.contains_cons, List.contains_nil, Nat.reduceAdd, Nat.zero_add, Nat.reduceBEq, Bool.or_false, Bool.or_true, Bool.false_eq_true, ↓reduceIte]
          rw [e100]
          go_wp2_with fail
          exact ⟨by trivial, Ext.refl _, rfl⟩
        · refine ExtStep.mk rfl fun vs W hx hd => ?_
          have e101 : vs 101 = (.bool false) := hd 6 (by kernel_rfl)
          clear hd
          simp only [fillA, fillL, dstL, List.take_succ_cons, List.take_zero, List.filterMap_cons, List.filterMap_nil, List.contains_cons, List.contains_nil, Nat.reduceAdd, Nat.zero_add, Nat.reduceBEq, Bool.or_false, Bool.or_true, Bool.false_eq_true, ↓reduceIte]
          rw [e101]
          go_wp2_with fail
          exact ⟨by trivial, Ext.refl _, rfl⟩
        · refine ExtStep.mk rfl fun vs W hx hd => ?_
          have e101 : vs 101 = (.bool false) := hd 6 (by kernel_rfl)
          clear hd
          simp only [fillA, fillL, dstL, List.take_succ_cons, List.take_zero, List.filterMap_cons, List.filterMap_nil, List.contains_cons, List.contains_nil, Nat.reduceAdd, Nat.zero_add, Nat.reduceBEq, Bool.or_false, Bool.or_true, Bool.false_eq_true, ↓reduceIte]
          rw [e101]
          go_wp2_with fail
          exact ⟨by trivial, Ext.refl _, rfl⟩
        · refine ExtStep.mk rfl fun vs W hx hd => ?_
          have e101 : vs 101 = (.bool false) := hd 6 (by kernel_rfl)
          have e103 : vs 103 = (.pointer (some ⟨q + 1, 0, none⟩)) := hd 8 (by kernel_rfl)
          clear hd
          simp only [fillA, fillL, dstL, List.take_succ_cons, List.take_zero, List.filterMap_cons, List.filterMap_nil, List.contains_cons, List.contains_nil, Nat.reduceAdd, Nat.zero_add, Nat.reduceBEq, Bool.or_false, Bool.or_true, Bool.false_eq_true, ↓reduceIte]
          rw [e101, e103]
          have hk := (HK.out _ hx).1
          go_wp2_with fail
          exact ⟨by trivial, Ext.refl _, rfl⟩
        · refine ExtStep.mk rfl fun vs W hx hd => ?_
          have e101 : vs 101 = (.bool false) := hd 6 (by kernel_rfl)
          clear hd
          simp only [fillA, fillL, dstL, List.take_succ_cons, List.take_zero, List.filterMap_cons, List.filterMap_nil, List.contains_cons, List.contains_nil, Nat.reduceAdd, Nat.zero_add, Nat.reduceBEq, Bool.or_false, Bool.or_true, Bool.false_eq_true, ↓reduceIte]
          rw [e101]
          go_wp2_with fail
          exact ⟨by trivial, Ext.refl _, rfl⟩
        · refine ExtStep.mk rfl fun vs W hx hd => ?_
          have e101 : vs 101 = (.bool false) := hd 6 (by kernel_rfl)
          have e105 : vs 105 = dv := hd 10 (by kernel_rfl)
          clear hd
          simp only [fillA, fillL, dstL, List.take_succ_cons, List.take_zero, List.filterMap_cons, List.filterMap_nil, List.contains_cons, List.contains_nil, Nat.reduceAdd, Nat.zero_add, Nat.reduceBEq, Bool.or_false, Bool.or_true, Bool.false_eq_true, ↓reduceIte]
          rw [e101, e105]
          go_wp2_with (go_at_call 37; refine (CZX.out _ hx).mono ?_; rintro e w3 ⟨rfl, hx3⟩)
          exact ⟨by trivial, hx3, rfl⟩
        · refine ExtStep.mk rfl fun vs W hx hd => ?_
          have e101 : vs 101 = (.bool false) := hd 6 (by kernel_rfl)
          clear hd
          simp only [fillA, fillL, dstL, List.take_succ_cons, List.take_zero, List.filterMap_cons, List.filterMap_nil, List.contains_cons, List.contains_nil, Nat.reduceAdd, Nat.zero_add, Nat.reduceBEq, Bool.or_false, Bool.or_true, Bool.false_eq_true, ↓reduceIte]
          rw [e101]
          go_wp2_with fail
          exact ⟨by trivial, Ext.refl _, rfl⟩
        · refine ExtStep.mk rfl fun vs W hx hd => ?_
          have e101 : vs 101 = (.bool false) := hd 6 (by kernel_rfl)
          have e107 : vs 107 = (.pointer (some ⟨q + 1, 3, none⟩)) := hd 12 (by kernel_rfl)
          clear hd
          simp only [fillA, fillL, dstL, List.take_succ_cons, List.take_zero, List.filterMap_cons, List.filterMap_nil, List.contains_cons, List.contains_nil, Nat.reduceAdd, Nat.zero_add, Nat.reduceBEq, Bool.or_false, Bool.or_true, Bool.false_eq_true, ↓reduceIte]
          rw [e101, e107]
          obtain ⟨-, hk3, hk4, hk5⟩ := HK.out _ hx
          go_wp2_with fail
          exact ⟨by trivial, Ext.refl _, rfl⟩
        · refine ExtStep.mk rfl fun vs W hx hd => ?_
          have e101 : vs 101 = (.bool false) := hd 6 (by kernel_rfl)
          have e102 : vs 102 = (.pointer (some ⟨bs, 0, none⟩)) := hd 7 (by kernel_rfl)
          have e104 : vs 104 = r0 := hd 9 (by kernel_rfl)
          have e106 : vs 106 = (.int .i64 n) := hd 11 (by kernel_rfl)
          have e108 : vs 108 = (.agg #[r3, r4, r5]) := hd 13 (by kernel_rfl)
          clear hd
          simp only [fillA, fillL, dstL, List.take_succ_cons, List.take_zero, List.filterMap_cons, List.filterMap_nil, List.contains_cons, List.contains_nil, Nat.reduceAdd, Nat.zero_add, Nat.reduceBEq, Bool.or_false, Bool.or_true, Bool.false_eq_true, ↓reduceIte]
          rw [e101, e102, e104, e106, e108]
          go_wp2_with (go_at_call 59; refine (CT.out _ hx).mono ?_; rintro e w3 ⟨rfl, hx3⟩)
          exact ⟨by trivial, hx3, rfl⟩
        · refine ExtStep.mk rfl fun vs W hx hd => ?_
          have e101 : vs 101 = (.bool false) := hd 6 (by kernel_rfl)
          have e109 : vs 109 = (.bool false) := hd 14 (by kernel_rfl)
          clear hd
          simp only [fillA, fillL, dstL, List.take_succ_cons, List.take_zero, List.filterMap_cons, List.filterMap_nil, List.contains_cons, List.contains_nil, Nat.reduceAdd, Nat.zero_add, Nat.reduceBEq, Bool.or_false, Bool.or_true, Bool.false_eq_true, ↓reduceIte]
          rw [e101, e109]
          go_wp2_with fail
          exact ⟨by trivial, Ext.refl _, rfl⟩
        · refine ExtStep.mk rfl fun vs W hx hd => ?_
          have e101 : vs 101 = (.bool false) := hd 6 (by kernel_rfl)
          have e110 : vs 110 = (.bool true) := hd 15 (by kernel_rfl)
          clear hd
          simp only [fillA, fillL, dstL, List.take_succ_cons, List.take_zero, List.filterMap_cons, List.filterMap_nil, List.contains_cons, List.contains_nil, Nat.reduceAdd, Nat.zero_add, Nat.reduceBEq, Bool.or_false, Bool.or_true, Bool.false_eq_true, ↓reduceIte]
          rw [e101, e110]
          go_wp2_with fail
          exact ⟨by trivial, Ext.refl _, rfl⟩
        · refine ExtStep.mk rfl fun vs W hx hd => ?_
          have e111 : vs 111 = (.bool true) := hd 16 (by kernel_rfl)
          clear hd
          simp only [fillA, fillL, dstL, List.take_succ_cons, List.take_zero, List.filterMap_cons, List.filterMap_nil, List.contains_cons, List.contains_nil, Nat.reduceAdd, Nat.zero_add, Nat.reduceBEq, Bool.or_false, Bool.or_true, Bool.false_eq_true, ↓reduceIte]
          rw [e111]
          go_wp2_with fail
          exact ⟨by trivial, Ext.refl _, rfl⟩
        · refine ExtStep.mk rfl fun vs W hx hd => ?_
          have e112 : vs 112 = (.bool true) := hd 17 (by kernel_rfl)
          clear hd
          simp only [fillA, fillL, dstL, List.take_succ_cons, List.take_zero, List.filterMap_cons, List.filterMap_nil, List.contains_cons, List.contains_nil, Nat.reduceAdd, Nat.zero_add, Nat.reduceBEq, Bool.or_false, Bool.or_true, Bool.false_eq_true, ↓reduceIte]
          rw [e112]
          go_wp2_with fail
          exact ⟨by trivial, Ext.refl _, rfl⟩
        · refine ExtStep.mk rfl fun vs W hx hd => ?_
          have e112 : vs 112 = (.bool true) := hd 17 (by kernel_rfl)
          clear hd
          simp only [fillA, fillL, dstL, List.take_succ_cons, List.take_zero, List.filterMap_cons, List.filterMap_nil, List.contains_cons, List.contains_nil, Nat.reduceAdd, Nat.zero_add, Nat.reduceBEq, Bool.or_false, Bool.or_true, Bool.false_eq_true, ↓reduceIte]
          rw [e112]
          go_wp2_with fail
          exact ⟨by trivial, Ext.refl _, rfl⟩
        · refine ExtStep.mk rfl fun vs W hx hd => ?_
          have e112 : vs 112 = (.bool true) := hd 17 (by kernel_rfl)
          clear hd
          simp only [fillA, fillL, dstL, List.take_succ_cons, List.take_zero, List.filterMap_cons, List.filterMap_nil, List.contains_cons, List.contains_nil, Nat.reduceAdd, Nat.zero_add, Nat.reduceBEq, Bool.or_false, Bool.or_true, Bool.false_eq_true, ↓reduceIte]
          rw [e112]
          go_wp2_with fail
          exact ⟨by trivial, Ext.refl _, rfl⟩
        · refine ExtStep.mk rfl fun vs W hx hd => ?_
          have e112 : vs 112 = (.bool true) := hd 17 (by kernel_rfl)
          clear hd
          simp only [fillA, fillL, dstL, List.take_succ_cons, List.take_zero, List.filterMap_cons, List.filterMap_nil, List.contains_cons, List.contains_nil, Nat.reduceAdd, Nat.zero_add, Nat.reduceBEq, Bool.or_false, Bool.or_true, Bool.false_eq_true, ↓reduceIte]
          rw [e112]
          go_wp2_with fail
          exact ⟨by trivial, Ext.refl _, rfl⟩
        · refine ExtStep.mk rfl fun vs W hx hd => ?_
          have e112 : vs 112 = (.bool true) := hd 17 (by kernel_rfl)
          clear hd
          simp only [fillA, fillL, dstL, List.take_succ_cons, List.take_zero, List.filterMap_cons, List.filterMap_nil, List.contains_cons, List.contains_nil, Nat.reduceAdd, Nat.zero_add, Nat.reduceBEq, Bool.or_false, Bool.or_true, Bool.false_eq_true, ↓reduceIte]
          rw [e112]
          go_wp2_with fail
          exact ⟨by trivial, Ext.refl _, rfl⟩
      · intro vs W hx hall
        have e112 : vs 112 = .bool true := hall.at 17 (by omega) rfl
        have e117 : vs 117 = undef := hall.at 22 (by omega) rfl
        simp only [fillA, fillL, dstL, List.take_succ_cons, List.take_zero, List.filterMap_cons, List.filterMap_nil, List.contains_cons, List.contains_nil, Nat.reduceAdd, Nat.zero_add, Nat.reduceBEq, Bool.or_false, Bool.or_true, Bool.false_eq_true, ↓reduceIte]
        rw [e112, e117]
        go_wp2_with fail
        go_ret2
        exact ⟨⟨by rw [HF.out]; rfl, grown_one GB.out (hx.grownBy _)⟩, fun e => by rw [HF.out] at e; simp at e⟩
    | true =>
      first | go_region_held3 (fun w' => w'.cell? ⟨q + 1, 0, none⟩ = some r0 ∧ w'.cell? ⟨q + 1, 3, none⟩ = some r3 ∧ w'.cell? ⟨q + 1, 4, none⟩ = some r4 ∧ w'.cell? ⟨q + 1, 5, none⟩ = some r5) (first | exact HK.out _ HE4.out | exact HK.out _ HE3.out | exact HK.out _ HE2.out | exact HK.out _ HE1.out | exact HK.out _ HE0.out | go_keep) (first | (go_at_call 58; refine (CEX.out _ HE0.out).mono ?_; rintro e wE ⟨rfl, hxE⟩; have HE1 := Lib.hid (HE0.out.trans hxE); clear hxE) | (go_at_call 37; refine (CZX.out _ HE1.out).mono ?_; rintro e wF ⟨rfl, hxF⟩; have HE2 := Lib.hid (HE1.out.trans hxF); clear hxF) | (go_at_call 59; refine (CT.out _ HE2.out).mono ?_; rintro e wT ⟨rfl, hxT⟩; have HE3 := Lib.hid (HE2.out.trans hxT); clear hxT) | (go_at_call 60; refine (CCX.out _ HE3.out).mono ?_; rintro e wC ⟨rfl, hxC⟩; have HE4 := Lib.hid (HE3.out.trans hxC); clear hxC)) | fail
      clear CEX CZX CCX CT HE0 HE1 HE2 HE3 HK m0 m3 m4 m5
      cases e3 with
      | true =>
        have HF := Lib.hid (show PV = (0, false) from by rw [HPV.out, if_neg]; rw [HSHE.out]; simp)
        go_wp2_with fail
        go_ret2
        exact ⟨⟨by rw [HF.out]; rfl, grown_one GB.out (HE4.out.grownBy _)⟩, fun e => by rw [HF.out] at e; simp at e⟩
      | false =>
        have HSHT := Lib.hid (show plShow p k n a o L = true from by rw [HSHE.out]; rfl)
        have HCHC := Lib.hid (HCHB.out.ext HE4.out); have SC := Lib.hid (SB.out.ext HE4.out); have GC := Lib.hid (grown_one GB.out (HE4.out.grownBy _)); have KC := Lib.hid (HE4.out.cell KB.out); have HLC := Lib.hid (HLB.out.ext HE4.out)
        clear SB GB KB HLB HE4 HSHE
        have hlL := HLC.out.run_len (P := Tryz.prog) slInts
        obtain ⟨hpl, hrl, hrow⟩ := plShow_row HSHT.out
        have HRL := Lib.hid hrl; have HROW := Lib.hid hrow
        clear hpl hrl hrow
        go_wp2_with fail
        go_loopw [21, 22, 23, 24, 121] (fun _ _ _ _ x121 wr => ∃ i : Nat, i ≤ L.length ∧ x121 = .int .i64 i ∧ Hid (∀ j, j < i → plOk p sh rt rr a at_ o L j = true) ∧ Hid (Ext wC wr)) (fun _ _ _ _ x121 _ => L.length - (intOf x121).toNat)
        case atStart => exact ⟨0, Nat.zero_le _, rfl, Lib.hid (fun j hj => by omega), Lib.hid (Ext.refl _)⟩
        case round =>
          obtain ⟨i, hi, rfl, HI, HX⟩ := hrel
          have SR := Lib.hid (SC.out.ext HX.out)
          have t0 : wr.cell? ⟨q16, 0, none⟩ = some (.pointer (some ⟨ks, 0, none⟩)) := SR.out.t
          have m2 : wr.cell? ⟨q + 1, 2, none⟩ = some r2 := SR.out.o.cell 2
          by_cases hil : i < L.length
          · have m4 : wr.cell? ⟨q + 1, 4, none⟩ = some r4 := SR.out.o.cell 4
            have m1 : wr.cell? ⟨q + 1, 1, none⟩ = some r1 := SR.out.o.cell 1
            have hirow : i < o.rows.length := by rw [HRL.out]; exact hil
            have hir := (HOG.out _ GC.out).rows.run_index (P := Tryz.prog) slRows i hirow
            have hcr := ((HOG.out _ GC.out).rows.ext HX.out).cell i hirow
            have HRI := Lib.hid (((HOG.out _ GC.out).rows.row i hirow).ext HX.out)
            have HRIL := Lib.hid (show (nthL o.rows i).length = Ma from by rw [HROW.out i hirow, HMA.out])
            have hLi := HLIN.out i hil
            obtain ⟨t, ht⟩ : ∃ t : Nat, nth L i = (t : Int) := ⟨(nth L i).toNat, by omega⟩
            have htn : t < n := by omega
            have hil2 := HLC.out.run_index (P := Tryz.prog) slInts i hil
            have hcl2 := (HLC.out.ext HX.out).cell i hil
            rw [ht] at hcl2
            have HOK := Lib.hid (show plOk p sh rt rr a at_ o L i = ((dtU p (fun j => fpow p rr j) (nthL o.rows i) Ma == ev o.mixed (ptAt p sh rt t) % p) && (dtU p (fun j => wgt (at_.take a) j % p) (nthL o.rows i) Ma == ev o.point (ptAt p sh rt t) % p)) from by unfold plOk; rw [ht, Int.toNat_natCast, HMA.out])
            have CA10 : ∀ W, Ext wr W → Calls Tryz.prog 61 #[.pointer (some ⟨ks, 0, none⟩), r1, .int .i64 t, R4 i, .func (.func 62) #[] #[.pointer (some ⟨q16, 0, none⟩), .pointer (some ⟨q18, 0, none⟩)]] W fun e w' => e = .returned (.bool (dtU p (fun j => fpow p rr j) (nthL o.rows i) Ma == ev o.mixed (ptAt p sh rt t) % p)) ∧ Ext W w' := fun W hx => (agrees_any (w := W) (HFL.out.ext (SR.out.x.trans hx)) (hx.cell SR.out.s0) (hx.cell SR.out.s1) (HDO.out.ext (SR.out.x.trans hx)) ((HOG.out _ GC.out).mixed.ext (HX.out.trans hx)) (HRI.out.ext hx) (by have := HLE.out.mixed; omega) t (by omega) (by omega) _ _ _ (fun j => fpow p rr j) pck2_enter fun W2 j hx2 hj => pck2_any (HFL.out.ext (SR.out.x.trans (hx.trans hx2))) ((hx.trans hx2).cell SR.out.t) ((hx.trans hx2).cell SR.out.s0) rr ((HX.out.trans (hx.trans hx2)).cell KC.out) j (by rw [HRIL.out] at hj; omega)).mono fun e w' h => ⟨by rw [h.1, HRIL.out], h.2⟩
            have CA20 : ∀ W, Ext wr W → Calls Tryz.prog 61 #[.pointer (some ⟨ks, 0, none⟩), r2, .int .i64 t, R4 i, .func (.func 63) #[] #[.pointer (some ⟨q16, 0, none⟩), .pointer (some ⟨q, 0, none⟩)]] W fun e w' => e = .returned (.bool (dtU p (fun j => wgt (at_.take a) j % p) (nthL o.rows i) Ma == ev o.point (ptAt p sh rt t) % p)) ∧ Ext W w' := fun W hx => (agrees_any (w := W) (HFL.out.ext (SR.out.x.trans hx)) (hx.cell SR.out.s0) (hx.cell SR.out.s1) (HDO.out.ext (SR.out.x.trans hx)) ((HOG.out _ GC.out).point.ext (HX.out.trans hx)) (HRI.out.ext hx) (by have := HLE.out.point; omega) t (by omega) (by omega) _ _ _ (fun j => wgt (at_.take a) j % p) pck3_enter fun W2 j hx2 hj => pck3_any (HFL.out.ext (SR.out.x.trans (hx.trans hx2))) ((hx.trans hx2).cell SR.out.t) ((hx.trans hx2).cell SR.out.s0) ((hx.trans hx2).cell SR.out.s2) ((hx.trans hx2).cell SR.out.at_) (HA.out.ext (SR.out.x.trans (hx.trans hx2))) (by rw [HAV.out]; have := HAC.out; omega) (by rw [HAV.out]; omega) j (by rw [HRIL.out] at hj; omega)).mono fun e w' h => ⟨by rw [h.1, HRIL.out], h.2⟩
            obtain ⟨b1, hb1⟩ : ∃ x, (dtU p (fun j => fpow p rr j) (nthL o.rows i) Ma == ev o.mixed (ptAt p sh rt t) % p) = x := ⟨_, rfl⟩
            obtain ⟨b2, hb2⟩ : ∃ x, (dtU p (fun j => wgt (at_.take a) j % p) (nthL o.rows i) Ma == ev o.point (ptAt p sh rt t) % p) = x := ⟨_, rfl⟩
            rw [hb1, hb2] at HOK
            have CA1 : Hid (∀ W, Ext wr W → Calls Tryz.prog 61 #[.pointer (some ⟨ks, 0, none⟩), r1, .int .i64 t, R4 i, .func (.func 62) #[] #[.pointer (some ⟨q16, 0, none⟩), .pointer (some ⟨q18, 0, none⟩)]] W fun e w' => e = .returned (.bool b1) ∧ Ext W w') := Lib.hid fun W hx => (CA10 W hx).mono fun e w' h => ⟨by rw [h.1, hb1], h.2⟩
            have CA2 : Hid (∀ W, Ext wr W → Calls Tryz.prog 61 #[.pointer (some ⟨ks, 0, none⟩), r2, .int .i64 t, R4 i, .func (.func 63) #[] #[.pointer (some ⟨q16, 0, none⟩), .pointer (some ⟨q, 0, none⟩)]] W fun e w' => e = .returned (.bool b2) ∧ Ext W w') := Lib.hid fun W hx => (CA20 W hx).mono fun e w' h => ⟨by rw [h.1, hb2], h.2⟩
            have HIL := Lib.hid hil
            clear CA10 CA20 hb1 hb2 hLi ht hirow
            go_upto_region 20 with (go_at_call 61; refine (CA1.out _ (Ext.refl _)).mono ?_; rintro e wD ⟨rfl, hxD⟩; have HXD := Lib.hid hxD; clear hxD)
            replace m2 := HXD.out.cell m2
            replace t0 := HXD.out.cell t0
            clear CA1 m1 m4 hcr hcl2
            cases b1 with
            | false =>
              have HF := Lib.hid (show PV = (0, false) from by rw [HPV.out, if_neg]; rw [plAll_not HIL.out (by rw [HOK.out]; rfl)]; simp)
              go_wp2_with fail
              go_ret2
              exact ⟨⟨by rw [HF.out]; rfl, grown_one GC.out ((HX.out.trans HXD.out).grownBy _)⟩, fun e => by rw [HF.out] at e; simp at e⟩
            | true =>
              cases b2 with
              | false =>
                have HF := Lib.hid (show PV = (0, false) from by rw [HPV.out, if_neg]; rw [plAll_not HIL.out (by rw [HOK.out]; rfl)]; simp)
                go_wp2_with (go_at_call 61; refine (CA2.out _ HXD.out).mono ?_; rintro e wE2 ⟨rfl, hxE⟩; have HXE := Lib.hid hxE; clear hxE)
                go_ret2
                exact ⟨⟨by rw [HF.out]; rfl, grown_one GC.out ((HX.out.trans (HXD.out.trans HXE.out)).grownBy _)⟩, fun e => by rw [HF.out] at e; simp at e⟩
              | true =>
                have HO1 := Lib.hid (show plOk p sh rt rr a at_ o L i = true from by rw [HOK.out]; rfl)
                have hLL := HLLEN.out
                have hil := HIL.out
                go_wp2_with (go_at_call 61; refine (CA2.out _ HXD.out).mono ?_; rintro e wE2 ⟨rfl, hxE⟩; have HXE := Lib.hid hxE; clear hxE)
                go_roundw
                case rel => exact ⟨i + 1, by have := HIL.out; omega, by go_num, Lib.hid (fun j hj => by
                  rcases Nat.lt_or_eq_of_le (show j ≤ i by omega) with h | rfl
                  · exact HI.out j h
                  · exact HO1.out), Lib.hid (HX.out.trans (HXD.out.trans HXE.out))⟩
                case measure => have := HIL.out; simp [intOf]; omega
          · obtain rfl : i = L.length := by omega
            obtain ⟨nv, hnv⟩ : ∃ nv, plN p a c at_ o = nv := ⟨_, rfl⟩
            have HF := Lib.hid (show PV = (nv, true) from by rw [HPV.out, if_pos, hnv]; rw [HFIT.out, HSHT.out, plAll_yes HI.out]; rfl)
            have CI : Hid (Calls Tryz.prog 38 #[.pointer (some ⟨ks, 0, none⟩), r2, .slice aa v ac] wr fun e w' => e = .returned (.int .i64 nv) ∧ Ext wr w') := Lib.hid ((pis_any (HFL.out.ext SR.out.x) SR.out.s0 SR.out.s2 ((HOG.out _ GC.out).point.ext HX.out) (HA.out.ext SR.out.x) (by rw [HAV.out]; have := HAC.out; omega) (by rw [HAV.out]; omega)).mono fun e w' h => ⟨by rw [h.1, ← hnv, HF2.out, ← HMC.out]; rfl, h.2⟩)
            have k0 : wr.cell? ⟨q, 0, none⟩ = some (.slice aa v ac) := SR.out.at_
            clear hnv
            go_wp2_with (go_at_call 38; refine CI.out.mono ?_; rintro e wD ⟨rfl, hxD⟩)
            go_ret2
            exact ⟨⟨by rw [HF.out]; rfl, grown_one GC.out ((HX.out.trans hxD).grownBy _)⟩, fun _ => HCHC.out.ext (HX.out.trans hxD)⟩
end
end Go.Proofs.YtfepefbehgbjpaaGreatDoor
