/- GatesChecks: whether anything shows any outputs: the law's walk: for every input it returns true and leaves all that was there as it was. -/
import Derived.Test.YtaajjaadlpgbiaaGreatDoorQg
import Derived.Test.YtaajjaadlpgbiaaGreatDoorQh
namespace Go.Att
open Go.RowKit
theorem IsPw.leC {p : Int} {k : Nat} (h : IsPw p k) (h23 : 23 ≤ p) (hp2 : p ≤ 2147483647) : (k : Int) ≤ 9223372036854775807 := by
  apply Classical.byContradiction
  intro hc
  exact h.2.2 (p - 2).toNat (by omega) (by omega) (gcd_last h23)
theorem CkGot.no {z : List Int} {c : Int} {u : Value} {w' : World} (h : CkGot false z c u w') : u = .tuple #[.slice none 0 0, .int .i64 0, .bool false] := by
  rcases h with ⟨_, h⟩ | ⟨h, _⟩
  · exact h
  · cases h
theorem CkGot.yes {z : List Int} {c : Int} {u : Value} {w' : World} (h : CkGot true z c u w') : ∃ vz, u = .tuple #[vz, .int .i64 c, .bool true] ∧ Ints w' vz z := by
  rcases h with ⟨h, _⟩ | ⟨_, h⟩
  · cases h
  · exact h
end Go.Att
namespace Go.Proofs.YtaajjaadlpgbiaaGreatDoor
open Go.RowKit Go.Att
set_option maxRecDepth 100000 in
set_option maxHeartbeats 4000000 in
theorem gatesChecks_bad (p : Int) (c v2 o : Value) (w : World) (wd : Int) (lv vu vl : Value) (hc : c = .agg #[.int .i64 wd, lv]) (ho : o = .agg #[vu, vl]) (h : ¬ (okP p ∧ 23 ≤ p)) (hg : Hnd w) :
    Calls Tryz.prog 4 #[.int .i64 p, c, v2, o] w fun e w' => e = .returned (.bool true) ∧ Ext w w' := by
  subst hc ho
  have HG := Lib.hid hg; clear hg
  have HX0 := Lib.hid ((Ext.alloc w (Obj.cells #[.int .i64 wd, lv] 48)).trans (Ext.alloc _ (Obj.cells #[vu, vl] 51)))
  by_cases h1 : okP p
  · have h2 : p < 23 := by have : ¬ 23 ≤ p := fun h3 => h ⟨h1, h3⟩; omega
    have H := Lib.hid h1; clear h h1
    go_enter Tryz.func4, Tryz.ntmps4
    go_wp2_with (go_at_call 18; refine (sspg_low _ _ H.out h2 (HG.out.ext HX0.out)).mono ?_; rintro e w' ⟨v, rfl, hx, rfl⟩)
    go_ret
    exact ⟨rfl, HX0.out.trans hx⟩
  · have H := Lib.hid h1; clear h h1
    go_enter Tryz.func4, Tryz.ntmps4
    go_wp2_with (go_at_call 18; refine (sspg_bad _ _ H.out (HG.out.ext HX0.out)).mono ?_; rintro e w' ⟨v, rfl, hx, rfl⟩)
    go_ret
    exact ⟨rfl, HX0.out.trans hx⟩
set_option maxRecDepth 100000 in
set_option maxHeartbeats 8000000 in
theorem gatesChecks_ok (p wd : Int) (lv vo vu vl : Value) (Ls : List (List Tri)) (R : Nat → Value) (outs : List Int) (U : List (List (List Int))) (V : List (List Int)) (w : World) (h : okP p) (h23 : 23 ≤ p) (hg : Hnd w) (hv : LysAt w lv Ls R) (ho : Ints w vo outs) (hu : Cub w vu U) (hw : Rws w vl V) :
    Calls Tryz.prog 4 #[.int .i64 p, .agg #[.int .i64 wd, lv], vo, .agg #[vu, vl]] w fun e w' => e = .returned (.bool true) ∧ Ext w w' := by
  have hp2 : p ≤ 2147483647 := h.2.2
  have H := Lib.hid h; have HG := Lib.hid hg; have HV := Lib.hid hv; have HO := Lib.hid ho; have HU := Lib.hid hu; have HW := Lib.hid hw
  obtain ⟨ao, cap, rfl⟩ := hv.shape
  have HX0 := Lib.hid ((Ext.alloc w (Obj.cells #[.int .i64 wd, .slice ao Ls.length cap] 48)).trans (Ext.alloc _ (Obj.cells #[vu, vl] 51)))
  have k0 := (Ext.alloc (w.alloc (Obj.cells #[.int .i64 wd, .slice ao Ls.length cap] 48)) (Obj.cells #[vu, vl] 51)).cell (cell_new w #[.int .i64 wd, .slice ao Ls.length cap] 48 0)
  have k1 := (Ext.alloc (w.alloc (Obj.cells #[.int .i64 wd, .slice ao Ls.length cap] 48)) (Obj.cells #[vu, vl] 51)).cell (cell_new w #[.int .i64 wd, .slice ao Ls.length cap] 48 1)
  have m0 := cell_new (w.alloc (Obj.cells #[.int .i64 wd, .slice ao Ls.length cap] 48)) #[vu, vl] 51 0
  have m1 := cell_new (w.alloc (Obj.cells #[.int .i64 wd, .slice ao Ls.length cap] 48)) #[vu, vl] 51 1
  rw [World.size_alloc] at m0 m1
  have HK0 := Lib.hid k0; have HK1 := Lib.hid k1; have HM0 := Lib.hid m0; have HM1 := Lib.hid m1
  clear h hg hv ho hu hw k0 k1 m0 m1
  go_enter Tryz.func4, Tryz.ntmps4
  go_upto_region 4 with (go_at_call 18; refine (sspg_ok _ _ H.out h23 (HG.out.ext HX0.out)).mono ?_; rintro e w1 ⟨v, rfl, hx, s, f, g, rfl, hs, hf⟩; obtain ⟨bf, rfl⟩ := hf.ptr; obtain ⟨fs, hfs⟩ := hf.fld; obtain ⟨bs, k, rt, rfl, hpw, hsp⟩ := hs; have HFS := Lib.hid hfs; have HPW := Lib.hid hpw; have HSP := Lib.hid hsp; clear hf hfs hpw hsp)
  have HX1 := Lib.hid (HX0.out.trans hx)
  have k0 : w1.cell? ⟨w.heap.size, 0, none⟩ = some (.int .i64 wd) := hx.cell HK0.out
  have k1 : w1.cell? ⟨w.heap.size, 1, none⟩ = some (.slice ao Ls.length cap) := hx.cell HK1.out
  have m0 : w1.cell? ⟨w.heap.size + 1, 0, none⟩ = some vu := hx.cell HM0.out
  have m1 : w1.cell? ⟨w.heap.size + 1, 1, none⟩ = some vl := hx.cell HM1.out
  have hk64 := HPW.out.leC h23 hp2
  clear HX0 hx HK0 HK1 HM0 HM1
  have C1 := fun (W : World) (hx : Ext w1 W) => gcheck_any (p := p) (k := k) (wd := wd) (HSP.out.ext hx) (HFS.out.ext hx) hk64 h23 (HV.out.ext (HX1.out.trans hx)) (HO.out.ext (HX1.out.trans hx)) (HU.out.ext (HX1.out.trans hx)) (HW.out.ext (HX1.out.trans hx))
  have C2 := fun (W : World) (hx : Ext w1 W) => rcheck_any (p := p) (k := k) (wd := wd) h23 hp2 HPW.out (HV.out.ext (HX1.out.trans hx)) (HO.out.ext (HX1.out.trans hx)) (HU.out.ext (HX1.out.trans hx)) (HW.out.ext (HX1.out.trans hx))
  generalize (ckEnd p k wd Ls outs U V).1 = z at *
  generalize (ckEnd p k wd Ls outs U V).2.1 = c at *
  have HC1 := Lib.hid C1; have HC2 := Lib.hid C2
  clear C1 C2
  cases hB : ckAll p k wd Ls outs U V with
  | false =>
    rw [hB] at HC1 HC2
    clear hB
    go_upto_region 5 with (go_at_call 19; refine (HC1.out _ (Ext.refl _)).mono ?_; rintro e w2 ⟨v2, rfl, hx2, hg2⟩; obtain rfl := hg2.no; clear hg2; replace k0 := hx2.cell k0; replace k1 := hx2.cell k1; replace m0 := hx2.cell m0; replace m1 := hx2.cell m1)
    go_upto_region 6 with (go_at_call 20; refine (HC2.out _ hx2).mono ?_; rintro e w3 ⟨v3, rfl, hx3, hg3⟩; obtain rfl := hg3.no; clear hg3)
    have HX3 := Lib.hid ((HX1.out.trans hx2).trans hx3)
    clear k0 k1 m0 m1 hx2 hx3
    go_wp2_with (go_at_call 12; refine (sints_any _ _ [] [] _ (Ints.nil _) (Ints.nil _)).mono ?_; rw [show decide (([] : List Int) = []) = true from rfl]; rintro e w4 ⟨rfl, n4, rfl⟩)
    go_ret
    exact ⟨rfl, HX3.out.trans (Ext.drewN w3 n4)⟩
  | true =>
    rw [hB] at HC1 HC2
    clear hB
    go_upto_region 5 with (go_at_call 19; refine (HC1.out _ (Ext.refl _)).mono ?_; rintro e w2 ⟨v2, rfl, hx2, hg2⟩; obtain ⟨va, rfl, hia⟩ := hg2.yes; clear hg2; replace k0 := hx2.cell k0; replace k1 := hx2.cell k1; replace m0 := hx2.cell m0; replace m1 := hx2.cell m1)
    go_upto_region 6 with (go_at_call 20; refine (HC2.out _ hx2).mono ?_; rintro e w3 ⟨v3, rfl, hx3, hg3⟩; obtain ⟨vb, rfl, hib⟩ := hg3.yes; clear hg3)
    have HX3 := Lib.hid ((HX1.out.trans hx2).trans hx3)
    have HIA := Lib.hid (hia.ext hx3); have HIB := Lib.hid hib
    have hce : (c == c) = true := beq_self_eq_true c
    clear k0 k1 m0 m1 hx2 hx3 hia hib
    go_wp2_with (go_at_call 12; refine (sints_any _ _ z z _ HIA.out HIB.out).mono ?_; rw [show decide (z = z) = true from decide_eq_true rfl]; rintro e w4 ⟨rfl, n4, rfl⟩)
    go_ret
    exact ⟨rfl, HX3.out.trans (Ext.drewN w3 n4)⟩
end Go.Proofs.YtaajjaadlpgbiaaGreatDoor
