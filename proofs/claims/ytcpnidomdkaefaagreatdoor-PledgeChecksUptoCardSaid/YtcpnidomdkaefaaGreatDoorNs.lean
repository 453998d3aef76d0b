/- What a pledge says, the document's side: attestref12.Check where a table fits: contract. Printed by wip/mkns.py. -/
import Derived.Test.YtcpnidomdkaefaaGreatDoorZx21
namespace Go.Proofs.YtcpnidomdkaefaaGreatDoor
open Go.RowKit Go.Att
section
variable {w0 w : World} {b : Nat} {p : Int} {k : Nat} {D : List Int} {va r0 r1 r2 r3 r4 r5 : Value} {at_ : List Int} {o : Pld} {sh rt : Int}
set_option maxRecDepth 100000 in
set_option maxHeartbeats 16000000 in
theorem rpcheck_ok (h23 : 23 ≤ p) (hp2 : p ≤ 2147483647) (hk : IsPw p k) (hsh : 0 ≤ sh ∧ sh < p) (n : Nat) (hn1 : 1 ≤ n) (hn2 : n ≤ 65536) (v : Nat) (hv : v ≤ 12) (hroom : roomB n v = true) (hav : at_.length = v) (asked : Nat) (ha1 : 1 ≤ asked) (ha2 : asked ≤ 64) (hx0 : Ext w0 w) (hb : w0.heap.size ≤ b) (ha : Ints w0 va at_) (ho : PldAt w0 r0 r1 r2 r3 r4 r5 o) (hle : PldLe o 1048576) (hc : ChD w b p D) (hD : D.length = 4) :
    Calls Tryz.prog 11 #[.pointer (some ⟨b, 0, none⟩), .agg #[.int .i64 p, .int .i64 n, .int .i64 sh, .int .i64 rt], .int .i64 v, va, .int .i64 asked, .agg #[r0, r1, r2, r3, r4, r5]] w (PlGot w b (plV p k sh rt n D v at_ asked o).1 (plV p k sh rt n D v at_ asked o).2) := by
  have hla := ha.run_len (P := Tryz.prog) slInts
  rw [hav] at hla
  have hl0 := ho.root.run_len (P := Tryz.prog) slInts
  have hl1 := ho.mixed.run_len (P := Tryz.prog) slInts
  have hl2 := ho.point.run_len (P := Tryz.prog) slInts
  have hb0 := hle.root; have hb1 := hle.mixed; have hb2 := hle.point
  have HK := Lib.hid hk; have HA := Lib.hid ha; have HO := Lib.hid ho; have HLE := Lib.hid hle; have HAV := Lib.hid hav
  obtain ⟨R4, hR4⟩ := ho.rows
  obtain ⟨R5, hR5⟩ := ho.nodes
  have HR4 := Lib.hid hR4; have HR5 := Lib.hid hR5
  have hq2 : (v : Int).tdiv 2 = ((v / 2 : Nat) : Int) := by rw [Int.tdiv_eq_ediv_of_nonneg (by omega)]; omega
  have HPV := Lib.hid (show plV p k sh rt n D v at_ asked o = if (plFit (v - v / 2) o && (plShow p k n (v / 2) o (plL p k D o at_ n asked) && plAll p sh rt (plR p k D o at_) (v / 2) at_ o (plL p k D o at_ n asked))) = true then (plN p (v / 2) (v - v / 2) at_ o, true) else (0, false) from rfl)
  obtain ⟨a, ha'⟩ : ∃ a, v / 2 = a := ⟨_, rfl⟩
  have hs2 : (v : Int) - (a : Int) = ((v - a : Nat) : Int) := by omega
  obtain ⟨c, hc'⟩ : ∃ c, v - a = c := ⟨_, rfl⟩
  have HAC := Lib.hid (show a ≤ 6 ∧ c ≤ 6 ∧ a + c = v from by omega)
  rw [ha'] at hq2 HPV
  rw [hc'] at hs2 HPV
  have CF := Lib.hid (fun W => by have := rfits_ok (w := W) p n sh rt v hv (by omega) (by omega); rw [hroom] at this; exact this)
  have CT1 := Lib.hid (fun W => rtwo_any c W (by omega))
  have CT2 := Lib.hid (fun W => rtwo_any a W (by omega))
  have hMc : (2 : Int) ^ c = ((2 ^ c : Nat) : Int) := by simp
  have hMa : (2 : Int) ^ a = ((2 ^ a : Nat) : Int) := by simp
  have hpc : (2 : Nat) ^ c ≤ 64 := Nat.le_trans (Nat.pow_le_pow_right (by decide) (show c ≤ 6 by omega)) (by decide)
  have hpa : (2 : Nat) ^ a ≤ 64 := Nat.le_trans (Nat.pow_le_pow_right (by decide) (show a ≤ 6 by omega)) (by decide)
  rw [hMc] at CT1
  rw [hMa] at CT2
  obtain ⟨Mc, hMce⟩ : ∃ M, (2 : Nat) ^ c = M := ⟨_, rfl⟩
  obtain ⟨Ma, hMae⟩ : ∃ M, (2 : Nat) ^ a = M := ⟨_, rfl⟩
  rw [hMce] at CT1 hpc
  rw [hMae] at CT2 hpa
  have HMC := Lib.hid hMce; have HMA := Lib.hid hMae
  obtain ⟨PV, hPV⟩ : ∃ PV, plV p k sh rt n D v at_ asked o = PV := ⟨_, rfl⟩
  rw [hPV] at HPV ⊢
  have hX := (Ext.alloc w (Obj.cells #[.int .i64 p, .int .i64 n, .int .i64 sh, .int .i64 rt] 37)).trans (Ext.alloc _ (Obj.cells #[r0, r1, r2, r3, r4, r5] 27))
  have hK := (BlkOf.new w [.int .i64 p, .int .i64 n, .int .i64 sh, .int .i64 rt] 37).ext (Ext.alloc _ (Obj.cells #[r0, r1, r2, r3, r4, r5] 27))
  have hK2 := BlkOf.new (w.alloc (Obj.cells #[.int .i64 p, .int .i64 n, .int .i64 sh, .int .i64 rt] 37)) [r0, r1, r2, r3, r4, r5] 27
  rw [World.size_alloc] at hK2
  have HS := Lib.hid (show DocS w0 w.heap.size [.int .i64 p, .int .i64 n, .int .i64 sh, .int .i64 rt] [r0, r1, r2, r3, r4, r5] _ from ⟨hx0.trans hX, hK, hK2⟩)
  have HG := Lib.hid (hX.grownBy (some b))
  have HC := Lib.hid (hc.ext hX)
  have HBQ := Lib.hid hc.lt
  have HD := Lib.hid hD
  clear ha' hc' hk ha ho hle hav hX hK hK2 hc hD hx0 hroom hPV hR4 hR5 hMc hMa hMce hMae
  go_enter Tryz.func11, Tryz.ntmps11
  go_upto_region 1 with (fail)
  generalize (w.alloc (Obj.cells #[.int .i64 p, .int .i64 n, .int .i64 sh, .int .i64 rt] 37)).alloc (Obj.cells #[r0, r1, r2, r3, r4, r5] 27) = W1 at *
  generalize w.heap.size = q at *
  have k0 : W1.cell? ⟨q, 0, none⟩ = some (.int .i64 p) := HS.out.d.cell 0
  have k1 : W1.cell? ⟨q, 1, none⟩ = some (.int .i64 n) := HS.out.d.cell 1
  have k2 : W1.cell? ⟨q, 2, none⟩ = some (.int .i64 sh) := HS.out.d.cell 2
  have k3 : W1.cell? ⟨q, 3, none⟩ = some (.int .i64 rt) := HS.out.d.cell 3
  go_upto_region 4 with (go_at_call 20; refine (CF.out _).mono ?_; rintro e w2 ⟨rfl, hx2⟩; have HS2 := Lib.hid (HS.out.ext hx2); have HG2 := Lib.hid (grown_one HG.out (hx2.grownBy _)); have HC2 := Lib.hid (HC.out.ext hx2); clear hx2 k0 k1 k2 k3)
  clear HS HG HC
  have k0 : w2.cell? ⟨q, 0, none⟩ = some (.int .i64 p) := HS2.out.d.cell 0
  have m0 : w2.cell? ⟨q + 1, 0, none⟩ = some r0 := HS2.out.o.cell 0
  have m1 : w2.cell? ⟨q + 1, 1, none⟩ = some r1 := HS2.out.o.cell 1
  have m2 : w2.cell? ⟨q + 1, 2, none⟩ = some r2 := HS2.out.o.cell 2
  go_upto_region 7 with (go_at_call 49; refine (CT1.out _).mono ?_; rintro e w' ⟨rfl, rfl⟩)
  clear k0
  by_cases hr4 : o.root.length = 4
  case neg =>
    have HF := Lib.hid (show PV = (0, false) from by
      rw [HPV.out, if_neg]
      unfold plShow showsB treeB
      rw [decide_eq_false hr4]; simp)
    have e1 : ((o.root.length : Int) != 4) = true := by rw [bne_iff_ne]; omega
    have e2 : ¬ ((o.root.length : Int) = 4) := by omega
    clear hr4
    go_wp2_with fail
    go_ret2
    exact ⟨by rw [HF.out]; rfl, HG2.out⟩
  by_cases hf1 : o.mixed.length = Mc
  case neg =>
    have HF := Lib.hid (show PV = (0, false) from by
      rw [HPV.out, if_neg]
      unfold plFit
      rw [HMC.out, decide_eq_false hf1]; simp)
    have e1 : ((o.mixed.length : Int) != (Mc : Int)) = true := by rw [bne_iff_ne]; omega
    have e2 : ¬ ((o.mixed.length : Int) = (Mc : Int)) := by omega
    rw [hr4] at hl0
    clear hf1
    go_wp2_with fail
    go_ret2
    exact ⟨by rw [HF.out]; rfl, HG2.out⟩
  by_cases hf2 : o.point.length = Mc
  case neg =>
    have HF := Lib.hid (show PV = (0, false) from by
      rw [HPV.out, if_neg]
      unfold plFit
      rw [HMC.out, decide_eq_false hf2]; simp)
    have e1 : ((o.point.length : Int) != (Mc : Int)) = true := by rw [bne_iff_ne]; omega
    have e2 : ¬ ((o.point.length : Int) = (Mc : Int)) := by omega
    rw [hr4] at hl0
    rw [hf1] at hl1
    clear hf2
    go_wp2_with fail
    go_ret2
    exact ⟨by rw [HF.out]; rfl, HG2.out⟩
  have HFIT := Lib.hid (show plFit c o = true from by unfold plFit; rw [HMC.out, decide_eq_true hf1, decide_eq_true hf2]; rfl)
  have HF1 := Lib.hid hf1; have HF2 := Lib.hid hf2; have HR4L := Lib.hid hr4
  rw [hr4] at hl0
  rw [hf1] at hl1
  rw [hf2] at hl2
  clear hr4 hf1 hf2
  go_upto_region 9 with (fail)
  clear m1 m2
  go_upto_region 10 with (go_at_call 48; refine (rstep_any p k 3 r0 o.root D b _ h23 hp2 HK.out HC2.out ((HO.out.root).ext HS2.out.x) (by rw [HD.out]; have := HAV.out; omega)).mono ?_; rintro e wx1 ⟨rfl, hg, hcc, -⟩; have Sx1 := Lib.hid (HS2.out.grown hg hb HBQ.out); have Gx1 := Lib.hid (grown_one HG2.out hg); have Cx1 := Lib.hid hcc; clear hg hcc)
  clear HS2 HG2 HC2 m0
  go_upto_region 11 with (go_at_call 48; refine (rstep_any p k 3 va at_ (stepP p k 3 D o.root) b _ h23 hp2 HK.out Cx1.out ((HA.out).ext Sx1.out.x) (by rw [stepP_length p k 3 D o.root]; have := HAV.out; omega)).mono ?_; rintro e wx2 ⟨rfl, hg, hcc, -⟩; have Sx2 := Lib.hid (Sx1.out.grown hg hb HBQ.out); have Gx2 := Lib.hid (grown_one Gx1.out hg); have Cx2 := Lib.hid hcc; clear hg hcc)
  clear Sx1 Gx1 Cx1
  have HD2 := Lib.hid (show (plD2 p k D o at_).length = 4 from stepP_length _ _ _ _ _)
  replace Cx2 : Hid (ChD wx2 b p (plD2 p k D o at_)) := Cx2
  go_upto_region 12 with (go_at_call 50; refine (rdraw_any p k (plD2 p k D o at_) b _ h23 hp2 HK.out Cx2.out (by rw [HD2.out]; omega)).mono ?_; rintro e w3 ⟨rfl, hg, hcc, -⟩; have Sx3 := Lib.hid (Sx2.out.grown hg hb HBQ.out); have Gx3 := Lib.hid (grown_one Gx2.out hg); have Cx3 : Hid (ChD w3 b p (plD3 p k D o at_)) := Lib.hid hcc; clear hg hcc)
  clear Sx2 Gx2 Cx2
  obtain ⟨rr, hrr⟩ : ∃ rr, nth (stepP p k 4 (plD2 p k D o at_) []) 0 = rr := ⟨_, rfl⟩
  rw [hrr]
  have HRR := Lib.hid (show plR p k D o at_ = rr from hrr)
  clear hrr
  have m0 : w3.cell? ⟨q + 1, 1, none⟩ = some r1 := Sx3.out.o.cell 1
  go_upto_region 13 with (go_at_call 48; refine (rstep_any p k 3 r1 o.mixed (plD3 p k D o at_) b _ h23 hp2 HK.out Cx3.out ((HO.out.mixed).ext Sx3.out.x) (by rw [show (plD3 p k D o at_).length = 4 from stepP_length _ _ _ _ _]; have := HAV.out; omega)).mono ?_; rintro e wx4 ⟨rfl, hg, hcc, -⟩; have Sx4 := Lib.hid (Sx3.out.grown hg hb HBQ.out); have Gx4 := Lib.hid (grown_one Gx3.out hg); have Cx4 := Lib.hid hcc; clear hg hcc)
  clear Sx3 Gx3 Cx3 m0
  have m0 : wx4.cell? ⟨q + 1, 2, none⟩ = some r2 := Sx4.out.o.cell 2
  go_upto_region 14 with (go_at_call 48; refine (rstep_any p k 3 r2 o.point (stepP p k 3 (plD3 p k D o at_) o.mixed) b _ h23 hp2 HK.out Cx4.out ((HO.out.point).ext Sx4.out.x) (by rw [stepP_length p k 3 _ o.mixed]; have := HAV.out; omega)).mono ?_; rintro e wx5 ⟨rfl, hg, hcc, -⟩; have Sx5 := Lib.hid (Sx4.out.grown hg hb HBQ.out); have Gx5 := Lib.hid (grown_one Gx4.out hg); have Cx5 := Lib.hid hcc; clear hg hcc)
  clear Sx4 Gx4 Cx4 m0
  have HD5 := Lib.hid (show (plD5 p k D o at_).length = 4 from stepP_length _ _ _ _ _)
  replace Cx5 : Hid (ChD wx5 b p (plD5 p k D o at_)) := Cx5
  have k1 : wx5.cell? ⟨q, 1, none⟩ = some (.int .i64 n) := Sx5.out.d.cell 1
  go_upto_region 15 with (go_at_call 51; refine (rdrawn_any p k (plD5 p k D o at_) b _ h23 hp2 HK.out Cx5.out HD5.out n (by omega) (by omega) asked ha2).mono ?_; rintro e w6 ⟨vL, rfl, hg, hcc, hoL⟩; have S6 := Lib.hid (Sx5.out.grown hg hb HBQ.out); have G6 := Lib.hid (grown_one Gx5.out hg); have HL6 := Lib.hid (Ints.of_own hoL); clear hg hcc hoL k1)
  clear Sx5 Gx5 Cx5
  have hLin : ∀ i, i < (plL p k D o at_ n asked).length → 0 ≤ nth (plL p k D o at_ n asked) i ∧ nth (plL p k D o at_ n asked) i < (n : Int) := fun i hi => plL_in (by omega) hi
  have hLlen := plL_len (p := p) (k := k) (D := D) (o := o) (at_ := at_) (n := (n : Int)) (asked := asked)
  replace HL6 : Hid (Ints w6 vL (plL p k D o at_ n asked)) := HL6
  obtain ⟨L, hL⟩ : ∃ L, plL p k D o at_ n asked = L := ⟨_, rfl⟩
  rw [hL] at hLin hLlen HL6 HPV
  rw [HRR.out] at HPV
  have HLIN := Lib.hid hLin
  clear hL hLin
  have m0 : w6.cell? ⟨q + 1, 0, none⟩ = some r0 := S6.out.o.cell 0
  have m3 : w6.cell? ⟨q + 1, 3, none⟩ = some r3 := S6.out.o.cell 3
  have m4 : w6.cell? ⟨q + 1, 4, none⟩ = some r4 := S6.out.o.cell 4
  have m5 : w6.cell? ⟨q + 1, 5, none⟩ = some r5 := S6.out.o.cell 5
  have k1 : w6.cell? ⟨q, 1, none⟩ = some (.int .i64 n) := S6.out.d.cell 1
  have CSH := Lib.hid (rshows_any h23 hp2 HK.out (HO.out.root.ext S6.out.x) (HO.out.places.ext S6.out.x) (HR4.out.ext S6.out.x) (HR5.out.ext S6.out.x) HL6.out (fun i hi => by have := HLE.out.row i hi; omega) n hn1 hn2 Ma (by omega))
  have HSHE := Lib.hid (show plShow p k n a o L = showsB p k o.root n o.places o.rows o.nodes L Ma from by unfold plShow; rw [HMA.out])
  obtain ⟨sb, hsb⟩ : ∃ sb, showsB p k o.root n o.places o.rows o.nodes L Ma = sb := ⟨_, rfl⟩
  rw [hsb] at CSH HSHE
  clear hsb
  go_upto_region 16 with (go_at_call 49; refine (CT2.out _).mono ?_; rintro e w' ⟨rfl, rfl⟩)
  go_upto_region 17 with (go_at_call 52; refine CSH.out.mono ?_; rintro e w7 ⟨rfl, hx7⟩; have S7 := Lib.hid (S6.out.ext hx7); have G7 := Lib.hid (grown_one G6.out (hx7.grownBy _)); have HL7 := Lib.hid (HL6.out.ext hx7); clear hx7 m0 m3 m4 m5 k1)
  clear S6 G6 HL6 CSH
  cases sb with
  | false =>
    have HF := Lib.hid (show PV = (0, false) from by rw [HPV.out, if_neg]; rw [HSHE.out]; simp)
    go_wp2_with fail
    go_ret2
    exact ⟨by rw [HF.out]; rfl, G7.out⟩
  | true =>
    obtain ⟨hpl, hrl, hrow⟩ := plShow_row HSHE.out
    have HRL := Lib.hid hrl; have HROW := Lib.hid hrow
    clear hpl hrl hrow
    have hlL := HL7.out.run_len (P := Tryz.prog) slInts
    have k0 : w7.cell? ⟨q, 0, none⟩ = some (.int .i64 p) := S7.out.d.cell 0
    go_upto_region 20 with (go_at_call 53; refine (rpowers_any (by omega) hp2 rr Ma (by omega)).mono ?_; rintro e w8 ⟨v8, rfl, hx8, hi8⟩; have S8 := Lib.hid (S7.out.ext hx8); have G8 := Lib.hid (grown_one G7.out (hx8.grownBy _)); have HL8 := Lib.hid (HL7.out.ext hx8); have HP8 := Lib.hid hi8; clear hx8 hi8 k0)
    clear S7 G7 HL7
    have htk := HA.out.run_take (P := Tryz.prog) slInts a (by rw [HAV.out]; have := HAC.out; omega)
    have HTK := Lib.hid (HA.out.take a (by rw [HAV.out]; have := HAC.out; omega))
    have HTL := Lib.hid (show (at_.take a).length = a from by rw [List.length_take, HAV.out]; have := HAC.out; omega)
    have CU0 := runits_any (w := w8) (p := p) (by omega) hp2 (HTK.out.ext S8.out.x) (by rw [HTL.out]; have := HAC.out; omega)
    have CU1 : Hid (Calls Tryz.prog 54 #[.int .i64 p, upTo va a] w8 (Gives w8 fun u w' => Ints w' u (unitsL p (at_.take a) Ma))) := Lib.hid (by rw [HTL.out] at CU0; rw [← HMA.out]; exact CU0)
    clear CU0
    go_upto_region 21 with (go_at_call 54; refine CU1.out.mono ?_; rintro e w9 ⟨v9, rfl, hx9, hi9⟩; have S9 := Lib.hid (S8.out.ext hx9); have G9 := Lib.hid (grown_one G8.out (hx9.grownBy _)); have HL9 := Lib.hid (HL8.out.ext hx9); have HP9 := Lib.hid (HP8.out.ext hx9); have HU9 := Lib.hid hi9; clear hx9 hi9 htk)
    clear S8 G8 HL8 HP8 CU1
    have k0 : w9.cell? ⟨q, 0, none⟩ = some (.int .i64 p) := S9.out.d.cell 0
    have k1 : w9.cell? ⟨q, 1, none⟩ = some (.int .i64 n) := S9.out.d.cell 1
    have k2 : w9.cell? ⟨q, 2, none⟩ = some (.int .i64 sh) := S9.out.d.cell 2
    have k3 : w9.cell? ⟨q, 3, none⟩ = some (.int .i64 rt) := S9.out.d.cell 3
    have m1 : w9.cell? ⟨q + 1, 1, none⟩ = some r1 := S9.out.o.cell 1
    have CV1 : Hid (Calls Tryz.prog 55 #[.agg #[.int .i64 p, .int .i64 n, .int .i64 sh, .int .i64 rt], r1] w9 (Gives w9 fun v w' => Ints w' v (valsL p sh rt n o.mixed) ∧ NewIn w9 v)) := Lib.hid (rvals_any p n sh rt r1 o.mixed w9 (by omega) hp2 (by omega) (by omega) hsh (HO.out.mixed.ext S9.out.x))
    go_upto_region 22 with (go_at_call 55; refine CV1.out.mono ?_; rintro e wA ⟨vA, rfl, hxA, hiA, -⟩; have SA := Lib.hid (S9.out.ext hxA); have GA := Lib.hid (grown_one G9.out (hxA.grownBy _)); have HLA := Lib.hid (HL9.out.ext hxA); have HPA := Lib.hid (HP9.out.ext hxA); have HUA := Lib.hid (HU9.out.ext hxA); have HMA' := Lib.hid hiA; clear hxA hiA k0 k1 k2 k3 m1)
    clear S9 G9 HL9 HP9 HU9 CV1
    have k0 : wA.cell? ⟨q, 0, none⟩ = some (.int .i64 p) := SA.out.d.cell 0
    have k1 : wA.cell? ⟨q, 1, none⟩ = some (.int .i64 n) := SA.out.d.cell 1
    have k2 : wA.cell? ⟨q, 2, none⟩ = some (.int .i64 sh) := SA.out.d.cell 2
    have k3 : wA.cell? ⟨q, 3, none⟩ = some (.int .i64 rt) := SA.out.d.cell 3
    have m2 : wA.cell? ⟨q + 1, 2, none⟩ = some r2 := SA.out.o.cell 2
    have CV2 : Hid (Calls Tryz.prog 55 #[.agg #[.int .i64 p, .int .i64 n, .int .i64 sh, .int .i64 rt], r2] wA (Gives wA fun v w' => Ints w' v (valsL p sh rt n o.point) ∧ NewIn wA v)) := Lib.hid (rvals_any p n sh rt r2 o.point wA (by omega) hp2 (by omega) (by omega) hsh (HO.out.point.ext SA.out.x))
    go_upto_region 23 with (go_at_call 55; refine CV2.out.mono ?_; rintro e wB ⟨vB, rfl, hxB, hiB, -⟩; have SB := Lib.hid (SA.out.ext hxB); have GB := Lib.hid (grown_one GA.out (hxB.grownBy _)); have HLB := Lib.hid (HLA.out.ext hxB); have HPB := Lib.hid (HPA.out.ext hxB); have HUB := Lib.hid (HUA.out.ext hxB); have HXB := Lib.hid (HMA'.out.ext hxB); have HYB := Lib.hid hiB; clear hxB hiB k0 k1 k2 k3 m2)
    clear SA GA HLA HPA HUA HMA' CV2
    go_wp2_with fail
    go_loopw [26, 27, 28] (fun x26 _ _ wr => ∃ i : Nat, i ≤ L.length ∧ x26 = .int .i64 i ∧ Hid (∀ j, j < i → plOk p sh rt rr a at_ o L j = true) ∧ Hid (Ext wB wr)) (fun x26 _ _ _ => L.length - (intOf x26).toNat)
    case atStart => exact ⟨0, Nat.zero_le _, rfl, Lib.hid (fun j hj => by omega), Lib.hid (Ext.refl _)⟩
    case round =>
      obtain ⟨i, hi, rfl, HI, HX⟩ := hrel
      have SR := Lib.hid (SB.out.ext HX.out)
      by_cases hil : i < L.length
      · have m4 : wr.cell? ⟨q + 1, 4, none⟩ = some r4 := SR.out.o.cell 4
        have hirow : i < o.rows.length := by rw [HRL.out]; exact hil
        have hir := HR4.out.run_index (P := Tryz.prog) slRows i hirow
        have hcr := (HR4.out.ext SR.out.x).cell i hirow
        have HRI := Lib.hid ((HR4.out.row i hirow).ext SR.out.x)
        have HRIL := Lib.hid (show (nthL o.rows i).length = Ma from by rw [HROW.out i hirow, HMA.out])
        have hLi := HLIN.out i hil
        obtain ⟨t, ht⟩ : ∃ t : Nat, nth L i = (t : Int) := ⟨(nth L i).toNat, by omega⟩
        have htn : t < n := by omega
        have hil2 := HLB.out.run_index (P := Tryz.prog) slInts i hil
        have hcl2 := (HLB.out.ext HX.out).cell i hil
        rw [ht] at hcl2
        have hxl : (valsL p sh rt n o.mixed).length = n := valsL_length _ _ _ _ _
        have hyl : (valsL p sh rt n o.point).length = n := valsL_length _ _ _ _ _
        have hix := HXB.out.run_index (P := Tryz.prog) slInts t (by rw [hxl]; exact htn)
        have hcx := (HXB.out.ext HX.out).cell t (by rw [hxl]; exact htn)
        have hiy := HYB.out.run_index (P := Tryz.prog) slInts t (by rw [hyl]; exact htn)
        have hcy := (HYB.out.ext HX.out).cell t (by rw [hyl]; exact htn)
        rw [valsL_nth _ _ _ _ _ htn] at hcx hcy
        have hpl2 : (powsL p rr Ma).length = Ma := powsL_length _ _ _
        have hul2 : (unitsL p (at_.take a) Ma).length = Ma := unitsL_length _ _ _
        have CD1 : Hid (∀ W, Ext wr W → Calls Tryz.prog 56 #[.int .i64 p, v8, R4 i] W fun e w' => e = .returned (.int .i64 (dtU p (fun j => fpow p rr j) (nthL o.rows i) Ma)) ∧ Ext W w') := Lib.hid (fun W hx => (rdot_any (w := W) (p := p) (by omega) hp2 ((HPB.out.ext HX.out).ext hx) (HRI.out.ext hx) (by rw [hpl2, HRIL.out]; exact Nat.le_refl _)).mono fun e w' h => ⟨by rw [h.1, hpl2, dot_powsM], h.2⟩)
        have CD2 : Hid (∀ W, Ext wr W → Calls Tryz.prog 56 #[.int .i64 p, v9, R4 i] W fun e w' => e = .returned (.int .i64 (dtU p (fun j => wgt (at_.take a) j % p) (nthL o.rows i) Ma)) ∧ Ext W w') := Lib.hid (fun W hx => (rdot_any (w := W) (p := p) (by omega) hp2 ((HUB.out.ext HX.out).ext hx) (HRI.out.ext hx) (by rw [hul2, HRIL.out]; exact Nat.le_refl _)).mono fun e w' h => ⟨by rw [h.1, hul2, dot_units], h.2⟩)
        have HOK := Lib.hid (show plOk p sh rt rr a at_ o L i = ((dtU p (fun j => fpow p rr j) (nthL o.rows i) Ma == ev o.mixed (ptAt p sh rt t) % p) && (dtU p (fun j => wgt (at_.take a) j % p) (nthL o.rows i) Ma == ev o.point (ptAt p sh rt t) % p)) from by unfold plOk; rw [ht, Int.toNat_natCast, HMA.out])
        obtain ⟨x1, hx1⟩ : ∃ x, dtU p (fun j => fpow p rr j) (nthL o.rows i) Ma = x := ⟨_, rfl⟩
        obtain ⟨y1, hy1⟩ : ∃ x, dtU p (fun j => wgt (at_.take a) j % p) (nthL o.rows i) Ma = x := ⟨_, rfl⟩
        obtain ⟨x2, hx2⟩ : ∃ x, ev o.mixed (ptAt p sh rt t) % p = x := ⟨_, rfl⟩
        obtain ⟨y2, hy2⟩ : ∃ x, ev o.point (ptAt p sh rt t) % p = x := ⟨_, rfl⟩
        rw [hx1] at CD1 HOK
        rw [hy1] at CD2 HOK
        rw [hx2] at HOK hcx
        rw [hy2] at HOK hcy
        have HIL := Lib.hid hil
        clear hx1 hy1 hx2 hy2 hxl hyl hpl2 hul2 hLi ht hirow
        go_upto_region 27 with (go_at_call 56; refine (CD1.out _ (Ext.refl _)).mono ?_; rintro e wC ⟨rfl, hxC⟩; have HXC := Lib.hid hxC; clear hxC)
        replace hcr := HXC.out.cell hcr
        replace hcl2 := HXC.out.cell hcl2
        replace hcx := HXC.out.cell hcx
        replace hcy := HXC.out.cell hcy
        replace m4 := HXC.out.cell m4
        go_upto_region 28 with (go_at_call 56; refine (CD2.out _ HXC.out).mono ?_; rintro e wD ⟨rfl, hxD⟩; have HXD := Lib.hid hxD; clear hxD)
        replace hcl2 := HXD.out.cell hcl2
        replace hcx := HXD.out.cell hcx
        replace hcy := HXD.out.cell hcy
        have HXE := Lib.hid (HX.out.trans (HXC.out.trans HXD.out))
        clear hcr m4 hir
        by_cases hxx : x1 = x2
        · by_cases hyy : y1 = y2
          · subst hxx hyy
            have HO1 := Lib.hid (show plOk p sh rt rr a at_ o L i = true from by rw [HOK.out]; simp)
            go_wp2_with fail
            go_roundw
            case rel => exact ⟨i + 1, by have := HIL.out; omega, by go_num, Lib.hid (fun j hj => by
              rcases Nat.lt_or_eq_of_le (show j ≤ i by omega) with h | rfl
              · exact HI.out j h
              · exact HO1.out), HXE⟩
            case measure => have := HIL.out; simp [intOf]; omega
          · subst hxx
            have HF := Lib.hid (show PV = (0, false) from by rw [HPV.out, if_neg]; rw [plAll_not HIL.out (by rw [HOK.out]; simp [hyy])]; simp)
            go_wp2_with fail
            go_ret2
            exact ⟨by rw [HF.out]; rfl, grown_one GB.out (HXE.out.grownBy _)⟩
        · have HF := Lib.hid (show PV = (0, false) from by rw [HPV.out, if_neg]; rw [plAll_not HIL.out (by rw [HOK.out]; simp [hxx])]; simp)
          go_wp2_with fail
          go_ret2
          exact ⟨by rw [HF.out]; rfl, grown_one GB.out (HXE.out.grownBy _)⟩
      · obtain rfl : i = L.length := by omega
        have HF := Lib.hid (show PV = (plN p a c at_ o, true) from by rw [HPV.out, if_pos]; rw [HFIT.out, HSHE.out, plAll_yes HI.out]; rfl)
        have htd := HA.out.run_drop (P := Tryz.prog) slInts a (by rw [HAV.out]; have := HAC.out; omega)
        have HTD := Lib.hid (HA.out.drop a (by rw [HAV.out]; have := HAC.out; omega))
        have HTL2 := Lib.hid (show (at_.drop a).length = c from by rw [List.length_drop, HAV.out]; have := HAC.out; omega)
        have CU0 := runits_any (w := wr) (p := p) (by omega) hp2 (HTD.out.ext SR.out.x) (by rw [HTL2.out]; have := HAC.out; omega)
        have CU2 : Hid (Calls Tryz.prog 54 #[.int .i64 p, fromV va a] wr (Gives wr fun u w' => Ints w' u (unitsL p (at_.drop a) Mc))) := Lib.hid (by rw [HTL2.out] at CU0; rw [← HMC.out]; exact CU0)
        clear CU0
        have HNN := Lib.hid (show plN p a c at_ o = dtU p (nth o.point) (unitsL p (at_.drop a) Mc) Mc from by unfold plN; rw [HMC.out])
        obtain ⟨nv, hnv⟩ : ∃ nv, dtU p (nth o.point) (unitsL p (at_.drop a) Mc) Mc = nv := ⟨_, rfl⟩
        have HNV := Lib.hid hnv
        go_upto_region 31 with (go_at_call 54; refine CU2.out.mono ?_; rintro e wC ⟨vC, rfl, hxC, hiC⟩; have HXC := Lib.hid hxC; have HUC := Lib.hid hiC; clear hxC hiC htd)
        have m2 : wC.cell? ⟨q + 1, 2, none⟩ = some r2 := (SR.out.ext HXC.out).o.cell 2
        have CD : Hid (Calls Tryz.prog 56 #[.int .i64 p, r2, vC] wC fun e w' => e = .returned (.int .i64 nv) ∧ Ext wC w') := Lib.hid ((rdot_any (w := wC) (p := p) (by omega) hp2 (HO.out.point.ext (SR.out.ext HXC.out).x) HUC.out (by rw [HF2.out, unitsL_length]; exact Nat.le_refl _)).mono fun e w' h => ⟨by rw [h.1, HF2.out, HNV.out], h.2⟩)
        clear hnv
        go_wp2_with (go_at_call 56; refine CD.out.mono ?_; rintro e wD ⟨rfl, hxD⟩)
        go_ret2
        exact ⟨by rw [HF.out, HNN.out, HNV.out]; rfl, grown_one GB.out ((HX.out.trans (HXC.out.trans hxD)).grownBy _)⟩
end
end Go.Proofs.YtcpnidomdkaefaaGreatDoor
