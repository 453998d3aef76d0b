/- PledgeChecks: whether a pledge says what a table is at a point: the law's walk: for every input it returns true and leaves all that was there as it was. -/
import Derived.Test.YtcpnidomdkaefaaGreatDoorZx23
import Derived.Test.YtcpnidomdkaefaaGreatDoorNv
import Derived.Test.YtcpnidomdkaefaaGreatDoorNs
namespace Go.Proofs.YtcpnidomdkaefaaGreatDoor
open Go.RowKit Go.Att
section
variable {r0 r1 r2 r3 r4 r5 : Value} {o : Pld}
set_option maxRecDepth 100000 in
set_option maxHeartbeats 4000000 in
theorem pledgeChecks_bad (p n sh : Int) (vs : Value) (v : Int) (va : Value) (asked : Int) (w : World) (h : ¬ okT p n sh) (hg : Hnd w) :
    Calls Tryz.prog 3 #[.int .i64 p, .int .i64 n, .int .i64 sh, vs, .int .i64 v, va, .int .i64 asked, .agg #[r0, r1, r2, r3, r4, r5]] w fun e w' => e = .returned (.bool true) ∧ Ext w w' := by
  have H := Lib.hid h; have HG := Lib.hid hg; clear h hg
  have HX0 := Lib.hid (Ext.alloc w (Obj.cells #[r0, r1, r2, r3, r4, r5] 27))
  go_enter Tryz.func3, Tryz.ntmps3
  go_wp2_with (go_at_call 6; refine (things_bad _ _ _ _ H.out (HG.out.ext HX0.out)).mono ?_; rintro e w' ⟨v, rfl, hx, rfl⟩)
  go_ret
  exact ⟨rfl, HX0.out.trans hx⟩
set_option maxRecDepth 100000 in
set_option maxHeartbeats 8000000 in
theorem pledgeChecks_ok (p n sh : Int) (vs : Value) (v : Int) (va : Value) (asked : Int) (seed at_ : List Int) (w : World) (h : okT p n sh) (hg : Hnd w) (hs : Ints w vs seed) (hsl : seed.length ≤ 1048576) (ha : Ints w va at_) (ho : PldAt w r0 r1 r2 r3 r4 r5 o) (hle : PldLe o 1048576) :
    Calls Tryz.prog 3 #[.int .i64 p, .int .i64 n, .int .i64 sh, vs, .int .i64 v, va, .int .i64 asked, .agg #[r0, r1, r2, r3, r4, r5]] w fun e w' => e = .returned (.bool true) ∧ Ext w w' := by
  have H := Lib.hid h; have HG := Lib.hid hg; have HSD := Lib.hid hs; have HA := Lib.hid ha; have HO := Lib.hid ho; have HLE := Lib.hid hle
  have hp2 : p ≤ 2147483647 := h.1.2.2
  have h23 : 23 ≤ p := h.2.1
  obtain ⟨htw, hdv, -⟩ := domErr_ok h.2.2
  have hn12 := twoB_bd htw
  have hsh : 0 ≤ fof p sh ∧ fof p sh < p := ⟨Int.emod_nonneg _ (by omega), Int.emod_lt_of_pos _ (by omega)⟩
  have HSH := Lib.hid hsh
  have HDE := Lib.hid h.2.2
  have HX0 := Lib.hid (Ext.alloc w (Obj.cells #[r0, r1, r2, r3, r4, r5] 27))
  have HB := Lib.hid (BlkOf.new w [r0, r1, r2, r3, r4, r5] 27)
  obtain ⟨nn, rfl⟩ : ∃ m : Nat, n = (m : Int) := ⟨n.toNat, by omega⟩
  clear h hg hs ha ho hle htw hdv hsh
  go_enter Tryz.func3, Tryz.ntmps3
  go_upto_region 4 with (go_at_call 6; refine (things_ok _ _ _ _ H.out (HG.out.ext HX0.out)).mono ?_; rintro e w1 ⟨v, rfl, hx, s, f, g, d, rfl, hs, hf, hd⟩; obtain ⟨bd, rfl⟩ := hd.ptr; obtain ⟨bf, rfl⟩ := hf.ptr; obtain ⟨bs, k, rt, rfl, hpw, hsp⟩ := hs; obtain ⟨fs, hfs⟩ := hf.fld; have HFO := Lib.hid hf; have HD := Lib.hid hd; have HPW := Lib.hid hpw; have HSP := Lib.hid hsp; have HFS := Lib.hid hfs; have HX1 := Lib.hid hx; clear hf hd hpw hsp hx hfs)
  have HSS : Hid (Spg w1 (.pointer (some ⟨bs, 0, none⟩)) p k) := Lib.hid ⟨bs, bf, rt, g, fs, rfl, HSP.out, HFS.out, pw_le HPW.out h23 hp2⟩
  have HXW := Lib.hid (HX0.out.trans HX1.out)
  have CN := Lib.hid (cnew_any HSS.out vs seed (HSD.out.ext HXW.out) (by omega))
  go_upto_region 7 with (go_at_call 7; refine CN.out.mono ?_; rintro e w2 ⟨v2, rfl, hx2, rfl, hc2, -⟩; have HX2 := Lib.hid hx2; have HC2 := Lib.hid hc2; clear hx2 hc2)
  have HBE := Lib.hid (HB.out.ext (HX1.out.trans HX2.out))
  have m0 : w2.cell? ⟨w.heap.size, 0, none⟩ = some r0 := HBE.out.cell 0
  have m1 : w2.cell? ⟨w.heap.size, 1, none⟩ = some r1 := HBE.out.cell 1
  have m2 : w2.cell? ⟨w.heap.size, 2, none⟩ = some r2 := HBE.out.cell 2
  have m3 : w2.cell? ⟨w.heap.size, 3, none⟩ = some r3 := HBE.out.cell 3
  have m4 : w2.cell? ⟨w.heap.size, 4, none⟩ = some r4 := HBE.out.cell 4
  have m5 : w2.cell? ⟨w.heap.size, 5, none⟩ = some r5 := HBE.out.cell 5
  have HBK := Lib.hid (HB.out.ext HX1.out)
  clear CN HBE HB HX0
  have HXW2 := Lib.hid (HXW.out.trans HX2.out)
  have hpair : ∃ z : Int, ∃ y : Bool, Hid (Calls Tryz.prog 8 #[.pointer (some ⟨bs, 0, none⟩), .pointer (some ⟨w1.heap.size, 0, none⟩), .pointer (some ⟨bd, 0, none⟩), .int .i64 v, va, .int .i64 asked, .agg #[r0, r1, r2, r3, r4, r5]] w2 (PlGot w2 w1.heap.size z y)) ∧ Hid (∀ W0 W b, Ext w W0 → Ext W0 W → W0.heap.size ≤ b → b < W.heap.size → ChD W b p (stepP p k 2 [] seed) → Calls Tryz.prog 11 #[.pointer (some ⟨b, 0, none⟩), .agg #[.int .i64 p, .int .i64 nn, .int .i64 (fof p sh), .int .i64 (froot p g nn)], .int .i64 v, va, .int .i64 asked, .agg #[r0, r1, r2, r3, r4, r5]] W (PlGot W b z y)) := by
    by_cases hc : 0 ≤ v ∧ v ≤ 12 ∧ roomB nn v.toNat = true ∧ (at_.length : Int) = v ∧ 1 ≤ asked ∧ asked ≤ 64
    · obtain ⟨vn, rfl⟩ : ∃ m : Nat, v = (m : Int) := ⟨v.toNat, by omega⟩
      obtain ⟨an, rfl⟩ : ∃ m : Nat, asked = (m : Int) := ⟨asked.toNat, by omega⟩
      rw [Int.toNat_natCast] at hc
      obtain ⟨-, c2, c3, c4, c5, c6⟩ := hc
      refine ⟨_, _, Lib.hid (pcheck_ok HSS.out (by omega) hp2 nn HD.out HFS.out (by omega) (by omega) vn (by omega) c3 (by omega) an (by omega) (by omega) HX2.out (Nat.le_refl _) (HA.out.ext HXW.out) (HO.out.ext HXW.out) HLE.out HC2.out (stepP_length _ _ _ _ _)), Lib.hid fun W0 W b h0 h1 h2 h3 h4 => ?_⟩
      exact rpcheck_ok h23 hp2 HPW.out HSH.out nn (by omega) (by omega) vn (by omega) c3 (by omega) an (by omega) (by omega) h1 h2 (HA.out.ext h0) (HO.out.ext h0) HLE.out h4 (stepP_length _ _ _ _ _)
    · refine ⟨0, false, Lib.hid ((pcheck_bad (HD.out.ext HX2.out) v asked hn12.1 hn12.2 (HA.out.ext HXW2.out) hc).mono fun e w' h => ⟨h.1, h.2.grownBy _⟩), Lib.hid fun W0 W b h0 h1 h2 h3 h4 => ?_⟩
      exact rpcheck_bad v asked nn hn12.1 hn12.2 (HA.out.ext (h0.trans h1)) hc
  obtain ⟨z, y, CP, CR⟩ := hpair
  go_upto_region 8 with (go_at_call 8; refine CP.out.mono ?_; rintro e w3 ⟨rfl, hg3⟩; have HX3 := Lib.hid (show Ext w1 w3 from Below.grown HX2.out.below hg3 HX2.out.size (fun k e => by cases e; exact Nat.le_refl _)); clear hg3)
  clear CP m0 m1 m2 m3 m4 m5
  have HXW3 := Lib.hid (HXW.out.trans HX3.out)
  have hgn := HFO.out.gen; have hlst := HFO.out.least; have hlo := HFO.out.lo; have hhi := HFO.out.hi
  have CW := Lib.hid (r2new_any p g nn sh w3 HFS.out.pr (by omega) hp2 hgn hlst hlo hhi HDE.out)
  clear hgn hlst hlo hhi
  go_upto_region 9 with (go_at_call 9; refine CW.out.mono ?_; rintro e w4 ⟨v4, rfl, hx4, rfl⟩; have HX4 := Lib.hid (HXW3.out.trans hx4); have HX4x := Lib.hid (HX3.out.trans hx4); clear hx4)
  have hxa := Ext.alloc w4 (Obj.cells #[.int .i64 p, .int .i64 nn, .int .i64 (fof p sh), .int .i64 (froot p g nn)] 37)
  have HBQ := Lib.hid (BlkOf.new w4 [.int .i64 p, .int .i64 nn, .int .i64 (fof p sh), .int .i64 (froot p g nn)] 37)
  generalize w4.alloc (Obj.cells #[.int .i64 p, .int .i64 nn, .int .i64 (fof p sh), .int .i64 (froot p g nn)] 37) = w5 at *
  have HX5 := Lib.hid (HX4.out.trans hxa)
  have HX5x := Lib.hid (HX4x.out.trans hxa)
  clear hxa CW HX4
  have CB := Lib.hid (rbegin_any p k vs seed w5 h23 hp2 HPW.out (HSD.out.ext HX5.out) (by omega))
  go_upto_region 10 with (go_at_call 10; refine CB.out.mono ?_; rintro e w6 ⟨v6, rfl, hx6, rfl, hc6, -⟩; have HX6 := Lib.hid hx6; have HC6 := Lib.hid hc6; clear hx6 hc6)
  have HB6 := Lib.hid (HBQ.out.ext HX6.out)
  have q0 : w6.cell? ⟨w4.heap.size, 0, none⟩ = some (.int .i64 p) := HB6.out.cell 0
  have q1 : w6.cell? ⟨w4.heap.size, 1, none⟩ = some (.int .i64 nn) := HB6.out.cell 1
  have q2 : w6.cell? ⟨w4.heap.size, 2, none⟩ = some (.int .i64 (fof p sh)) := HB6.out.cell 2
  have q3 : w6.cell? ⟨w4.heap.size, 3, none⟩ = some (.int .i64 (froot p g nn)) := HB6.out.cell 3
  have HBE := Lib.hid (HBK.out.ext (HX5x.out.trans HX6.out))
  have m0 : w6.cell? ⟨w.heap.size, 0, none⟩ = some r0 := HBE.out.cell 0
  have m1 : w6.cell? ⟨w.heap.size, 1, none⟩ = some r1 := HBE.out.cell 1
  have m2 : w6.cell? ⟨w.heap.size, 2, none⟩ = some r2 := HBE.out.cell 2
  have m3 : w6.cell? ⟨w.heap.size, 3, none⟩ = some r3 := HBE.out.cell 3
  have m4 : w6.cell? ⟨w.heap.size, 4, none⟩ = some r4 := HBE.out.cell 4
  have m5 : w6.cell? ⟨w.heap.size, 5, none⟩ = some r5 := HBE.out.cell 5
  clear CB HBE HBQ HB6
  have CR2 := Lib.hid (CR.out w5 w6 w5.heap.size HX5.out HX6.out (Nat.le_refl _) HC6.out.lt HC6.out)
  go_upto_region 11 with (go_at_call 11; refine CR2.out.mono ?_; rintro e w7 ⟨rfl, hg7⟩; have HX7 := Lib.hid (show Ext w5 w7 from Below.grown HX6.out.below hg7 HX6.out.size (fun k e => by cases e; exact Nat.le_refl _)); clear hg7)
  clear CR2 CR q0 q1 q2 q3 m0 m1 m2 m3 m4 m5
  have hze : (z == z) = true := beq_self_eq_true z
  cases y
  all_goals
    go_wp2_with fail
    go_ret
    exact ⟨rfl, HX5.out.trans HX7.out⟩
end
end Go.Proofs.YtcpnidomdkaefaaGreatDoor
