/- The chain of a circuit is begun, on both sides: contracts. -/
import Derived.Test.YtaajjaadlpgbiaaGreatDoorZx17
import Derived.Test.YtaajjaadlpgbiaaGreatDoorZx18
import Derived.Test.YtaajjaadlpgbiaaGreatDoorZx5
namespace Go.Att
open Go.RowKit
/-- A gate, a layer, a circuit as numbers. -/
def gtL (g : Tri) : List Int := [g.1, g.2.1, g.2.2]
def layU (l : List Tri) (k : Nat) : List Int := (l.length : Int) :: (l.take k).flatMap gtL
def labL (p wd : Int) (Ls : List (List Tri)) (i : Nat) : List Int := [p, wd, (Ls.length : Int)] ++ (Ls.take i).flatMap fun l => layU l l.length
theorem layU_snoc (l : List Tri) (k : Nat) (h : k < l.length) : layU l (k + 1) = layU l k ++ [(nthT l k).1, (nthT l k).2.1, (nthT l k).2.2] := by
  unfold layU
  rw [List.take_succ_eq_append_getElem h, List.flatMap_append, nthT_eq h]; simp [gtL]
theorem labL_snoc (p wd : Int) (Ls : List (List Tri)) (i : Nat) (h : i < Ls.length) : labL p wd Ls (i + 1) = labL p wd Ls i ++ layU (nthY Ls i) (nthY Ls i).length := by
  unfold labL
  rw [List.take_succ_eq_append_getElem h, List.flatMap_append, nthY_eq h]; simp
theorem layU_zero (l : List Tri) : layU l 0 = [(l.length : Int)] := by simp [layU]
theorem layU_len (l : List Tri) : ∀ k, k ≤ l.length → (layU l k).length = 1 + 3 * k
  | 0, _ => by simp [layU]
  | k + 1, h => by rw [layU_snoc l k h, List.length_append, layU_len l k (by omega)]; simp; omega
theorem labL_len (p wd : Int) (Ls : List (List Tri)) (h : ∀ i, i < Ls.length → (nthY Ls i).length ≤ 64) : ∀ i, i ≤ Ls.length → (labL p wd Ls i).length ≤ 3 + 193 * i
  | 0, _ => by simp [labL]
  | i + 1, hi => by
    rw [labL_snoc p wd Ls i hi, List.length_append, layU_len _ _ (Nat.le_refl _)]
    have := h i hi
    have := labL_len p wd Ls h i (by omega)
    omega
theorem wideOf_hi (n : Int) : wideOf n ≤ 6 := by unfold wideOf; repeat (first | split | omega)
theorem sl_lit (W : World) (xs : List Value) (e : TypeId) (h : xs.length ≤ 65536) : Sl (W.alloc (.cells xs.toArray e)) 1 (.slice (some ⟨W.heap.size, 0, none⟩) xs.length xs.length) xs.length xs :=
  Sl.of_own (own_lit (heap_alloc_new W _) (by unfold maxLen; omega)) (by omega)
theorem own_litB {W : World} {B : Nat} (xs : List Value) (e : TypeId) (h : xs.length ≤ 65536) (hB : B ≤ W.heap.size) : (W.alloc (.cells xs.toArray e)).ownsRow B e 1 (.slice (some ⟨W.heap.size, 0, none⟩) xs.length xs.length) xs.length xs :=
  ⟨by simp, .inr ⟨W.heap.size, xs.length, xs.toArray, rfl, hB, heap_alloc_new W _, Nat.le_refl _, by unfold maxLen; omega, by simp, by simp⟩⟩
/-- The chain of a circuit, and what is drawn first. -/
def begS (p : Int) (k : Nat) (wd : Int) (Ls : List (List Tri)) (outs : List Int) : List Int := stepP p k 2 [] (labL p wd Ls Ls.length ++ outs)
theorem begS_length (p : Int) (k : Nat) (wd : Int) (Ls : List (List Tri)) (outs : List Int) : (begS p k wd Ls outs).length = 4 := stepP_length _ _ _ _ _
end Go.Att
namespace Go.Proofs.YtaajjaadlpgbiaaGreatDoor
open Go.RowKit Go.Att
theorem sfield_q {w : World} {b : Nat} {f : Value} (h : w.cell? ⟨b, 0, none⟩ = some f) (m : Nat) : Calls Tryz.prog 7 #[.pointer (some ⟨b, 0, none⟩)] (w.drewN m) fun e w'' => e = .returned f ∧ ∃ m, w'' = w.drewN m :=
  (sfieldof_any ((Ext.drewN w m).cell h)).mono fun _e _w' ⟨h1, h2⟩ => ⟨h1, m, h2.symm⟩
section
variable {w : World} {p : Int} {k : Nat} {wd : Int} {lv vo : Value} {Ls : List (List Tri)} {R : Nat → Value} {outs : List Int}
set_option maxRecDepth 100000 in
set_option maxHeartbeats 8000000 in
theorem begin_any {bs bf : Nat} {g : Int} {fs : List Int} {rt : Int} (hsp : SpB w bs (.pointer (some ⟨bf, 0, none⟩)) k rt (fun r j => finv p ((r : Int) + j + 8))) (hf : Fld w (.pointer (some ⟨bf, 0, none⟩)) p g fs) (hk : (k : Int) ≤ 9223372036854775807)
    (hv : LysAt w lv Ls R) (ho : Ints w vo outs) (hE : cirErr wd Ls = 0) (hol : outs.length ≤ 64) (n : Nat) (hn : wideOf (nthY Ls (Ls.length - 1)).length = n) :
    Calls Tryz.prog 48 #[.pointer (some ⟨bs, 0, none⟩), .agg #[.int .i64 wd, lv], vo] w (Gives w fun u w' => ∃ cb vz, u = .tuple #[.pointer (some ⟨cb, 0, none⟩), vz] ∧ w.heap.size ≤ cb ∧ ChP w' cb (.pointer (some ⟨bs, 0, none⟩)) (drwS p k (begS p k wd Ls outs) n) ∧ DigNew w w' cb ∧ Ints w' vz (drwL p k (begS p k wd Ls outs) n) ∧ ∀ q, vz.ownBlock = some q → w.heap.size ≤ q ∧ q ≠ cb ∧ q < w'.heap.size) := by
  have HSP := Lib.hid hsp; have HF := Lib.hid hf; have HV := Lib.hid hv; have HO := Lib.hid ho; have HE := Lib.hid hE
  obtain ⟨hS, hG⟩ := cirErr_ok hE
  have hlen8 : Ls.length ≤ 8 := hS.2.2.2.1
  have hlen1 : 1 ≤ Ls.length := hS.2.2.1
  have h64 := fun i (hi : i < Ls.length) => wideOf_le (hS.2.2.2.2 i hi)
  have HLL := Lib.hid (labL_len p wd Ls (fun i hi => by have := h64 i hi; omega))
  have H64 := Lib.hid h64
  obtain ⟨ao, cap, rfl⟩ := hv.shape
  have hll := hv.run_len (P := Tryz.prog) slLayers
  have hx1 := Ext.alloc w (Obj.cells #[.int .i64 wd, .slice ao Ls.length cap] 48)
  have HX1 := Lib.hid hx1
  have k0 := cell_new w #[.int .i64 wd, .slice ao Ls.length cap] 48 0
  have k1 := cell_new w #[.int .i64 wd, .slice ao Ls.length cap] 48 1
  have HK0 := Lib.hid k0; have HK1 := Lib.hid k1
  clear hsp hf hv ho hE hS hG h64 hx1 k0 k1
  go_enter Tryz.func48, Tryz.ntmps48
  go_wp2_with fail
  generalize w.alloc (Obj.cells #[.int .i64 wd, .slice ao Ls.length cap] 48) = w1 at *
  have k0 : w1.cell? ⟨w.heap.size, 0, none⟩ = some (.int .i64 wd) := HK0.out
  have k1 : w1.cell? ⟨w.heap.size, 1, none⟩ = some (.slice ao Ls.length cap) := HK1.out
  have c0 := (HSP.out.ext HX1.out).c0
  refine wp_region_quiet_tail 8 (by kernel_rfl) (by kernel_rfl) ?_
  simp only [List.take_succ_cons, List.take_zero, List.drop_succ_cons, List.drop_zero]
  repeat (go_big_quiet_step (first | (go_at_call 7; exact sfield_q c0 _) | (go_at_call 67; exact p_q (HF.out.ext HX1.out) _)))
  refine wpQuiet_nil ?_
  rintro _ ⟨nq, rfl⟩
  have HX2 := Lib.hid (HX1.out.trans (Ext.drewN w1 nq))
  have m0 := (Ext.drewN w1 nq).cell k0
  have m1 := (Ext.drewN w1 nq).cell k1
  have HX12 := Lib.hid (Ext.drewN w1 nq)
  have HV1 := Lib.hid (HV.out.ext HX1.out)
  clear k0 k1 c0
  generalize w1.drewN nq = w2 at *
  have HX3 := Lib.hid (HX12.out.trans (Ext.alloc w2 (Obj.cells #[.int .i64 p, .int .i64 wd, .int .i64 (Ls.length : Nat)] 3)))
  have HO3 := Lib.hid (own_litB (W := w2) (B := w1.heap.size) [.int .i64 p, .int .i64 wd, .int .i64 (Ls.length : Nat)] 3 (by simp) HX12.out.size)
  have q1 := (Ext.alloc w2 (Obj.cells #[.int .i64 p, .int .i64 wd, .int .i64 (Ls.length : Nat)] 3)).cell m1
  go_wp2_with fail
  have HOL := Lib.hid (show (w2.alloc (Obj.cells #[.int .i64 p, .int .i64 wd, .int .i64 (Ls.length : Nat)] 3)).ownsRow w1.heap.size 3 1 (.slice (some ⟨w2.heap.size, 0, none⟩) 3 3) (labL p wd Ls 0).length ((labL p wd Ls 0).map (Value.int .i64)) from HO3.out)
  generalize w2.alloc (Obj.cells #[.int .i64 p, .int .i64 wd, .int .i64 (Ls.length : Nat)] 3) = w3 at *
  clear m0 m1 q1 HX2 HO3 HX12
  go_loopw [8, 10, 12, 26] (fun x8 _ _ x26 wr => ∃ i : Nat, i ≤ Ls.length ∧ x26 = .int .i64 i ∧ Hid (wr.ownsRow w1.heap.size 3 1 x8 (labL p wd Ls i).length ((labL p wd Ls i).map (Value.int .i64))) ∧ Hid (Ext w1 wr)) (fun _ _ _ x26 _ => Ls.length - (intOf x26).toNat)
  case atStart => exact ⟨0, Nat.zero_le _, rfl, HOL, HX3⟩
  case round =>
    clear HOL HX3
    obtain ⟨i, hi, rfl, HOW, HXW⟩ := hrel
    by_cases hin : i < Ls.length
    · have hV := HV1.out.ext HXW.out
      have hix := hV.run_index (P := Tryz.prog) slLayers i hin
      have hcc := hV.cell i hin
      have hrow := hV.row i hin
      have hln := hrow.run_len (P := Tryz.prog) slGates
      have h64 := H64.out i hin
      have hr1 := HV1.out.row i hin
      have hll9 := HLL.out i hi
      have HSN := Lib.hid (labL_snoc p wd Ls i hin)
      obtain ⟨M, hM⟩ : ∃ M, (nthY Ls i).length = M := ⟨_, rfl⟩
      have HM := Lib.hid hM
      have HLS := Lib.hid (layU_snoc (nthY Ls i)); have HL0 := Lib.hid (layU_zero (nthY Ls i)); have HLN := Lib.hid (layU_len (nthY Ls i))
      rw [hM] at hln h64
      have HOWo := HOW.out; have HXWo := HXW.out
      generalize R i = ri at *
      obtain ⟨L, hL⟩ : ∃ L, labL p wd Ls i = L := ⟨_, rfl⟩
      have HL := Lib.hid hL
      rw [hL] at HOWo hll9
      clear hV hrow hM hL HXW
      go_wp2_with (at_builtin; refine wpList_appNw rfl _ _ 23 rfl slInts rfl HXWo.size HOWo rfl _ rfl (by intro u hu; simp at hu; subst hu; rfl) rfl (by omega) (by omega) ?_; intro v4 w4 HO4 HG4 _; have HX4 := Ext.own_grown HXWo HOWo HG4)
      have HO40 := Lib.hid (show w4.ownsRow w1.heap.size 3 1 v4 (L ++ layU (nthY Ls i) 0).length ((L ++ layU (nthY Ls i) 0).map (Value.int .i64)) from by rw [HL0.out, HM.out, List.length_append, List.map_append]; exact HO4)
      have HX40 := Lib.hid HX4
      clear HO4 HG4 HX4 hix hcc hln HOWo HXWo HOW
      go_loopw [8, 12, 37] (fun x8 _ x37 wq => ∃ k : Nat, k ≤ M ∧ x37 = .int .i64 k ∧ Hid (wq.ownsRow w1.heap.size 3 1 x8 (L ++ layU (nthY Ls i) k).length ((L ++ layU (nthY Ls i) k).map (Value.int .i64))) ∧ Hid (Ext w1 wq)) (fun _ _ x37 _ => M - (intOf x37).toNat)
      case atStart => exact ⟨0, Nat.zero_le _, rfl, HO40, HX40⟩
      case round =>
        clear HO40 HX40
        obtain ⟨k2, hk2, rfl, HOW, HXW⟩ := hrel
        have HRW := Lib.hid (hr1.ext HXW.out)
        by_cases hkm : k2 < M
        · have hix2 := HRW.out.run_index (P := Tryz.prog) slGates k2 (by rw [HM.out]; exact hkm)
          have g0 := HRW.out.c0 k2 (by rw [HM.out]; exact hkm)
          have g1 := HRW.out.c1 k2 (by rw [HM.out]; exact hkm)
          have g2 := HRW.out.c2 k2 (by rw [HM.out]; exact hkm)
          have hst := HLS.out k2 (by rw [HM.out]; exact hkm)
          have hln9 := HLN.out k2 (by rw [HM.out]; exact hk2)
          generalize nthT (nthY Ls i) k2 = G at g0 g1 g2 hst
          obtain ⟨gk, ga, gb⟩ := G
          have HST := Lib.hid hst
          have HXa := Ext.alloc wr (Obj.cells #[.int .i64 gk, .int .i64 ga, .int .i64 gb] 61)
          have HQ0 := cell_new wr #[.int .i64 gk, .int .i64 ga, .int .i64 gb] 61 0
          have HQ1 := cell_new wr #[.int .i64 gk, .int .i64 ga, .int .i64 gb] 61 1
          have HQ2 := cell_new wr #[.int .i64 gk, .int .i64 ga, .int .i64 gb] 61 2
          have HXb := HXa.trans (Ext.alloc (wr.alloc (Obj.cells #[.int .i64 gk, .int .i64 ga, .int .i64 gb] 61)) (Obj.cells #[.int .i64 gk, .int .i64 ga, .int .i64 gb] 3))
          have HXB := Lib.hid HXb
          have hsl := sl_lit (wr.alloc (Obj.cells #[.int .i64 gk, .int .i64 ga, .int .i64 gb] 61)) [.int .i64 gk, .int .i64 ga, .int .i64 gb] 3 (by simp)
          rw [World.size_alloc] at hsl
          have HSL := Lib.hid hsl
          have HTL := Lib.hid (show ((L ++ layU (nthY Ls i) k2).length : Nat) ≤ 4294960000 from by rw [List.length_append, hln9]; omega)
          obtain ⟨L2, hL2⟩ : ∃ L2, L ++ layU (nthY Ls i) k2 = L2 := ⟨_, rfl⟩
          rw [hL2] at HOW HTL
          have HL2 := Lib.hid hL2
          clear hst hsl HXa HXb hL2
          go_wp2_with (at_builtin; refine wpList_appSl rfl _ _ 23 rfl slInts rfl (HXW.out.trans HXB.out) (own_ext HOW.out HXB.out) rfl HSL.out (by intro u hu; simp at hu; rcases hu with rfl | rfl | rfl <;> rfl) rfl (by have := HTL.out; simp; omega) (by omega) ?_; intro v6 w6 HO6 HX6 HG6)
          go_roundw
          case rel => exact ⟨k2 + 1, by omega, by go_num, Lib.hid (by rw [HST.out, ← List.append_assoc, HL2.out, List.length_append, List.map_append]; exact HO6), Lib.hid HX6⟩
          case measure => simp [intOf]; omega
        · obtain rfl : k2 = M := by omega
          have HOZ := Lib.hid (show wr.ownsRow w1.heap.size 3 1 _ (labL p wd Ls (i + 1)).length ((labL p wd Ls (i + 1)).map (Value.int .i64)) from by rw [HSN.out, HL.out, HM.out]; exact HOW.out)
          go_wp2_with fail
          go_roundw
          case rel => exact ⟨i + 1, by omega, by go_num, HOZ, HXW⟩
          case measure => simp [intOf]; omega
    · obtain rfl : i = Ls.length := by omega
      have hll9 := HLL.out Ls.length (Nat.le_refl _)
      obtain ⟨LB, hLB⟩ : ∃ LB, labL p wd Ls Ls.length = LB := ⟨_, rfl⟩
      have HBG := Lib.hid (show begS p k wd Ls outs = stepP p k 2 [] (LB ++ outs) from by unfold begS; rw [hLB])
      rw [hLB] at HOW hll9
      have HOX := Lib.hid ((HO.out.ext HX1.out).ext HXW.out)
      clear hLB
      have hvn := Lib.hid hn
      have hn6 : n ≤ 6 := by
        have := wideOf_hi (nthY Ls (Ls.length - 1)).length
        omega
      clear hn
      have e1 : ((Ls.length : Nat) : Int) - 1 = ((Ls.length - 1 : Nat) : Int) := by omega
      have hwr1 : IntKind.i64.wrap ((Ls.length : Int) - 1) = ((Ls.length - 1 : Nat) : Int) := by rw [e1]; exact IntWalk.i64_in _ (by omega)
      go_wp2_with (first | (at_builtin; refine wpList_appSl rfl _ _ 23 rfl slInts rfl HXW.out HOW.out rfl HOX.out (by intro u hu; simp only [List.mem_map] at hu; obtain ⟨_, _, rfl⟩ := hu; rfl) rfl (by omega) (by omega) ?_; intro v6 w6 HO6 HX6 HG6) | (go_at_call 96; refine (cnew_any (p := p) (k := k) ⟨bs, bf, rt, g, fs, rfl, HSP.out.ext (HX1.out.trans HX6), HF.out.ext (HX1.out.trans HX6), hk⟩ v6 (LB ++ outs) (Ints.of_own (B := w1.heap.size) (e := 3) (by rw [List.map_append]; exact HO6)) (by rw [List.length_append]; omega)).mono ?_; rintro e w7 ⟨v7, rfl, hx7, rfl, hc7, hd7⟩; have HX7 := Lib.hid (HX6.trans hx7); have hq0 := HX7.out.cell HK0.out; have hq1 := HX7.out.cell HK1.out; have HC7 := Lib.hid hc7; have HD7 := Lib.hid hd7; have HS6 := Lib.hid HX6.size; clear hc7 hd7 hx7 HO6 HG6 HX6) | (go_at_call 98; refine (vars_any wd _ Ls R (Ls.length - 1) _ (HV1.out.ext HX7.out) (by omega)).mono ?_; rw [hvn.out]; rintro e w8 ⟨rfl, hx8⟩; have HX8 := Lib.hid (HX1.out.trans (HX7.out.trans hx8)); have hcb : w.heap.size ≤ w6.heap.size := Nat.le_trans HX1.out.size HS6.out; have HC8 := Lib.hid (HC7.out.ext hx8); have HD8 := Lib.hid ((HD7.out.ext HC7.out.lt hx8).mono hcb); clear hx8 hq0 hq1) | (go_at_call 97; refine (cdrawsZ_any (p := p) (k := k) HC8.out (fun w' hg => by have hxx : Ext w w' := Below.grown HX8.out.below hg HX8.out.size (fun q e => by cases e; exact hcb); exact ⟨bs, bf, rt, g, fs, rfl, HSP.out.ext hxx, HF.out.ext hxx, hk⟩) (stepP_length _ _ _ _ _) w HX8.out.size HD8.out n (by omega)).mono ?_; rintro e w9 ⟨v9, rfl, hg9, hc9, hd9, ho9⟩))
      go_ret2
      refine .mk _ rfl (Below.grown HX8.out.below hg9 HX8.out.size (fun q e => by cases e; exact hcb)) ⟨w6.heap.size, v9, rfl, hcb, by rw [HBG.out]; exact hc9, hd9, by rw [HBG.out]; exact Ints.of_own ho9, fun q hq => ?_⟩
      have h5 := (ho9.lt q hq).1
      have h7 := HC8.out.lt
      exact ⟨Nat.le_trans HX8.out.size h5, by omega, (ho9.lt q hq).2⟩
end
end Go.Proofs.YtaajjaadlpgbiaaGreatDoor
