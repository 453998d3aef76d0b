/- Rows of a tree that are shown, the document's side: attestref5.Open: contract. -/
import Derived.Test.YtfepefbehgbjpaaGreatDoorOg
namespace Go.Proofs.YtfepefbehgbjpaaGreatDoor
open Go.RowKit Go.Att
section
variable {w : World} {p : Int} {k : Nat} {vr pv0 : Value} {pl : List Int} {rows : List (List Int)} {R : Nat → Value}
set_option maxRecDepth 100000 in
set_option maxHeartbeats 16000000 in
theorem ropen5_any (h23 : 23 ≤ p) (hp2 : p ≤ 2147483647) (hk : IsPw p k) (hr : RwsAt w vr rows R) (hn1 : 1 ≤ rows.length) (hl : rows.length ≤ 65536) (hrl : ∀ i, i < rows.length → (nthL rows i).length ≤ 1048575000) (hp : Ints w pv0 pl) (hpl : pl.length ≤ 1000000) (hin : ∀ x ∈ pl, 0 ≤ x ∧ x < rows.length) :
    Calls Tryz.prog 53 #[.int .i64 p, vr, pv0] w (Gives w fun u w' => ∃ a b c, u = .agg #[a, b, c] ∧ Ints w' a (onceL pl) ∧ NewIn w a ∧ RwsN w.heap.size w' b (shoR p rows (onceL pl) (onceL pl).length) ∧ RwsN w.heap.size w' c (nodL p k (onceL pl) rows rows.length 0 rows.length)) := by
  have HX0 := Lib.hid (Ext.alloc w (Obj.cells #[.slice none 0 0, .slice none 0 0, .slice none 0 0] 31))
  have HB6 := Lib.hid (BlkOf.new w [.slice none 0 0, .slice none 0 0, .slice none 0 0] 31)
  have HK := Lib.hid hk; have HR := Lib.hid hr; have HRL := Lib.hid hrl; have HP := Lib.hid hp; have HIN := Lib.hid hin
  clear hk hr hrl hp hin
  go_enter Tryz.func53, Tryz.ntmps53
  go_upto_region 1 with (fail)
  generalize w.alloc (Obj.cells #[.slice none 0 0, .slice none 0 0, .slice none 0 0] 31) = WZ at *
  obtain ⟨b6, hb6⟩ : ∃ b, w.heap.size = b := ⟨_, rfl⟩
  rw [hb6] at HB6 ⊢
  have HQ := Lib.hid (show w.heap.size ≤ b6 from by omega)
  clear hb6
  have CO := Lib.hid (once_any (HP.out.ext HX0.out) (by omega))
  go_upto_region 2 with (go_at_call 106; refine CO.out.mono ?_; rintro e w1 ⟨v1, rfl, hx1, ho1⟩; obtain ⟨a6, c6, rfl⟩ := own_shape ho1; have HX1 := Lib.hid hx1; have HO1 := Lib.hid ho1; clear hx1 ho1)
  have HX2 := Lib.hid (Ext.alloc w1 (Obj.cells #[.slice none 0 0, .slice none 0 0, .slice none 0 0] 31))
  have HB8 := Lib.hid (BlkOf.new w1 [.slice none 0 0, .slice none 0 0, .slice none 0 0] 31)
  go_upto_region 3 with (fail)
  generalize w1.alloc (Obj.cells #[.slice none 0 0, .slice none 0 0, .slice none 0 0] 31) = w2 at *
  have H6 := Lib.hid (show ∀ q, (Value.slice a6 (onceL pl).length c6).ownBlock = some q → q ≠ w1.heap.size ∧ q ≠ b6 ∧ w.heap.size ≤ q from fun q hq => by
    have h1 := HO1.out.lt q hq
    have h2 := HB6.out.lt
    have h3 := HX0.out.size
    omega)
  have HW2 := Lib.hid (show WZ.heap.size ≤ w1.heap.size from HX1.out.size)
  obtain ⟨ob, hob⟩ : ∃ ob, w1.heap.size = ob := ⟨_, rfl⟩
  rw [hob] at HB8 H6 HW2 ⊢
  clear hob CO
  have k0 : w2.cell? ⟨ob, 0, none⟩ = some (.slice none 0 0) := HB8.out.cell 0
  have z0 := HB8.out.free 0
  go_upto_region 4 with (fail)
  have HBL : Hid (BlkOf (w2.setCell ⟨ob, 0, none⟩ (.slice a6 (onceL pl).length c6)) ob [.slice a6 (onceL pl).length c6, .slice none 0 0, .slice none 0 0] 31) := Lib.hid (HB8.out.set 0 _)
  have HPL := Lib.hid (((Ints.of_own HO1.out).ext HX2.out).cell3 (fun q hq => (H6.out q hq).1) 0 (.slice a6 (onceL pl).length c6))
  have HXL := Lib.hid (ext_set (o := 0) (v := .slice a6 (onceL pl).length c6) (HX1.out.trans HX2.out) HW2.out)
  have HLIN := Lib.hid (show ∀ x ∈ onceL pl, 0 ≤ x ∧ x < rows.length from fun x hx => HIN.out x ((onceL_mem x).1 hx))
  have HLM := Lib.hid (show (onceL pl).length ≤ 1000000 from Nat.le_trans (once_len pl) hpl)
  clear k0 z0 HX1 HO1 HX2 HB8 HIN HP hpl
  generalize w2.setCell ⟨ob, 0, none⟩ (.slice a6 (onceL pl).length c6) = WL at *
  obtain ⟨L, hL⟩ : ∃ L, onceL pl = L := ⟨_, rfl⟩
  have HLE := Lib.hid hL
  rw [hL] at HBL H6 HPL HLIN HLM ⊢
  clear hL
  obtain ⟨m, hm⟩ : ∃ m, L.length = m := ⟨_, rfl⟩
  rw [hm] at HBL H6 HPL HLM
  have HM := Lib.hid hm
  have hlm := HPL.out.run_len (P := Tryz.prog) slInts
  rw [hm] at hlm ⊢
  clear hm
  go_wp2_with fail
  go_loopw [9] (fun x9 wr => ∃ (i : Nat) (rv : Value) (T : Nat → Value), i ≤ m ∧ x9 = .int .i64 i ∧ Hid (WL.grownBy wr (some ob)) ∧ Hid (BlkOf wr ob [.slice a6 m c6, rv, .slice none 0 0] 31) ∧ Hid (Grid WL.heap.size wr 22 rv (shoR p rows L i) T)) (fun x9 _ => m - (intOf x9).toNat)
  case atStart => exact ⟨0, .slice none 0 0, R, Nat.zero_le _, rfl, Lib.hid (World.grownBy.refl _ _), HBL, Lib.hid (by unfold shoR; exact Grid.nil _ _ _ _)⟩
  case round =>
    obtain ⟨i, rv, T, hi, rfl, HGW, HBW, HGR⟩ := hrel
    have HXA := Lib.hid (show Ext WZ wr from Below.grown HXL.out.below HGW.out HXL.out.size (fun q e => by cases e; exact HW2.out))
    have HOB : Hid (ob < WL.heap.size) := Lib.hid HBL.out.lt
    have hpi := HPL.out.grown HGW.out (fun q hq e => (H6.out q hq).1 (Option.some.inj e))
    by_cases him : i < m
    · have HIM := Lib.hid him
      have hmb := HLM.out
      have hip := hpi.run_index (P := Tryz.prog) slInts i (by rw [HM.out]; exact him)
      have hcp := hpi.cell i (by rw [HM.out]; exact him)
      have hjr := HLIN.out _ (nth_mem (show i < L.length by rw [HM.out]; exact him))
      obtain ⟨j, hj⟩ : ∃ j : Nat, nth L i = (j : Int) := ⟨(nth L i).toNat, by omega⟩
      have HSN := Lib.hid (shoR_snoc (p := p) (rows := rows) (show i < L.length by rw [HM.out]; exact him) hj)
      rw [hj] at hcp hjr
      have hjl : j < rows.length := by omega
      have hix := (HR.out.ext HX0.out).run_index (P := Tryz.prog) slRows j hjl
      have hcx := ((HR.out.ext HX0.out).ext HXA.out).cell j hjl
      have CA := Lib.hid (rallO_any p (R j) (nthL rows j) wr (((HR.out.ext HX0.out).ext HXA.out).row j hjl) (by omega) hp2 (by have := HRL.out j hjl; omega))
      obtain ⟨rt, hrt⟩ : ∃ rt, (nthL rows j).map (fof p) = rt := ⟨_, rfl⟩
      have HRTL := Lib.hid (show (nthL rows j).length = rt.length from by rw [← hrt]; simp)
      rw [hrt] at HSN CA
      have HLL := Lib.hid (show (shoR p rows L i).length ≤ 1000000 from by rw [shoR_length (by rw [HM.out]; omega)]; have := HLM.out; omega)
      clear hj hjl hjr hrt hpi
      go_upto_region 8 with (go_at_call 107; refine CA.out.mono ?_; rintro e w3 ⟨v3, rfl, hx3, ho3⟩; obtain ⟨a3, c3, rfl⟩ := own_shape ho3; have HX3 := Lib.hid hx3; have HO3 := Lib.hid ho3; clear hx3 ho3)
      have k1 : w3.cell? ⟨ob, 1, none⟩ = some rv := (HBW.out.ext HX3.out).cell 1
      have HXL3 := Lib.hid (Ext.alloc w3 (Obj.cells #[.slice a3 (nthL rows j).length c3] 22))
      have HIT := Lib.hid (show Ints w3 (.slice a3 (nthL rows j).length c3) rt from Ints.of_own HO3.out)
      have HG3 := Lib.hid (HGR.out.ext (HX3.out.trans HXL3.out))
      have HLT := Lib.hid (Grid.one (B := WL.heap.size) (e := 22) HIT.out (fun q hq => ⟨Nat.le_trans HGW.out.size (HO3.out.lt q hq).1, (HO3.out.lt q hq).2⟩) (Nat.le_trans HGW.out.size HX3.out.size))
      have HOT := Lib.hid (fun q hq => (HO3.out.lt q hq).1)
      have HB3 := Lib.hid (HBW.out.ext (HX3.out.trans HXL3.out))
      have HGWX := Lib.hid (grown_ext HGW.out (HX3.out.trans HXL3.out))
      have HWS := Lib.hid (show WL.heap.size ≤ w3.heap.size from Nat.le_trans HGW.out.size HX3.out.size)
      clear CA HIT HO3
      go_upto_region 6 with (at_builtin; refine wpList_appGrid (B := WL.heap.size) rfl _ _ 29 rfl slRows rfl HGWX.out.size HG3.out rfl HLT.out (Nat.le_refl _) (fun t _ q hq e => by have h1 := HOT.out q hq; have h2 := (HGR.out.own.lt q e.symm).2; omega) rfl (by have := HLL.out; simp only [List.length_cons, List.length_nil]; omega) (by omega) ?_; intro v4 w4 T4 hg4 hgr4 hm4; obtain ⟨a4, c4, rfl⟩ := own_shape hg4.own; have HG4 := Lib.hid hg4; have HGR4 := Lib.hid hgr4; have HB4 := Lib.hid (HB3.out.grown hgr4 (fun e => by have h1 := (HGR.out.own.lt ob e.symm).1; have := HOB.out; omega)); have q1 : w4.cell? ⟨ob, 1, none⟩ = some rv := HB4.out.cell 1; have q2 := HB4.out.free 1; clear hg4 hgr4 hm4)
      have hl5 : (shoR p rows L i ++ [rt]).length = (shoR p rows L i).length + 1 := by simp
      have hg5 := HG4.out
      rw [hl5] at hg5
      have HB5 := Lib.hid (show BlkOf (w4.setCell ⟨ob, 1, none⟩ (.slice a4 ((shoR p rows L i).length + 1) c4)) ob [.slice a6 m c6, .slice a4 ((shoR p rows L i).length + 1) c4, .slice none 0 0] 31 from HB4.out.set 1 _)
      have HG5 := Lib.hid (hg5.cell3 HOB.out 1 (.slice a4 ((shoR p rows L i).length + 1) c4))
      have HGW5 := Lib.hid (grown_one (grown_low HGWX.out HGR4.out (fun q hq => (HGR.out.own.lt q hq).1)) (setCell_grown w4 ob 1 (.slice a4 ((shoR p rows L i).length + 1) c4)))
      clear hl5 hg5 q1 q2 k1
      go_wp2_with fail
      go_roundw
      case rel => exact ⟨i + 1, _, T4, by have := HIM.out; omega, by go_num, HGW5, HB5, Lib.hid (by rw [HSN.out]; exact HG5.out)⟩
      case measure => have := HIM.out; simp [intOf]; omega
    · obtain rfl : i = m := by omega
      have HPI := Lib.hid hpi
      have CH := Lib.hid (by
        have := rnodes_any h23 hp2 HK.out hl HRL.out (pv := .slice a6 i c6) (pl := L) rows.length rows.length 0 hn1 (Nat.le_refl _) (by omega) wr vr R (by rw [List.drop_zero, List.take_length]; exact (HR.out.ext HX0.out).ext HXA.out) hpi
        rw [show ((0 : Nat) : Int) = 0 from rfl] at this
        exact this)
      clear hpi
      go_upto_region 10 with (go_at_call 108; refine CH.out.mono ?_; rintro e w9 ⟨nv, rfl, hx9, TN, hn9⟩; obtain ⟨an, cn, rfl⟩ := own_shape hn9.own; have HX9 := Lib.hid hx9; have HN9 := Lib.hid (hn9.base HGW.out.size); have HB9 := Lib.hid (HBW.out.ext hx9); have q1 : w9.cell? ⟨ob, 2, none⟩ = some (.slice none 0 0) := HB9.out.cell 2; have q2 := HB9.out.free 2; clear hx9 hn9)
      obtain ⟨nn, hnn⟩ : ∃ nn, (nodL p k L rows rows.length 0 rows.length).length = nn := ⟨_, rfl⟩
      rw [hnn] at HN9 ⊢
      obtain ⟨ar, cr, rfl⟩ := own_shape HGR.out.own
      obtain ⟨nr, hnr⟩ : ∃ nr, (shoR p rows L i).length = nr := ⟨_, rfl⟩
      rw [hnr] at HGR HBW HB9
      have HBX := Lib.hid (show BlkOf (w9.setCell ⟨ob, 2, none⟩ (.slice an nn cn)) ob [.slice a6 i c6, .slice ar nr cr, .slice an nn cn] 31 from HB9.out.set 2 _)
      have HRX := Lib.hid ((HGR.out.ext HX9.out).cell3 HOB.out 2 (.slice an nn cn))
      have HNX := Lib.hid (HN9.out.cell3 HOB.out 2 (.slice an nn cn))
      have HPX := Lib.hid ((HPI.out.ext HX9.out).cell3 (fun q hq => (H6.out q hq).1) 2 (.slice an nn cn))
      have HXX := Lib.hid (ext_set (o := 2) (v := .slice an nn cn) (HXA.out.trans HX9.out) HW2.out)
      clear q1 q2 CH hnn hnr
      generalize w9.setCell ⟨ob, 2, none⟩ (.slice an nn cn) = w5 at *
      have HO6 := Lib.hid (HB6.out.ext HXX.out)
      have z0 : w5.cell? ⟨b6, 0, none⟩ = some (.slice none 0 0) := HO6.out.cell 0
      have z1 : w5.cell? ⟨b6, 1, none⟩ = some (.slice none 0 0) := HO6.out.cell 1
      have z2 : w5.cell? ⟨b6, 2, none⟩ = some (.slice none 0 0) := HO6.out.cell 2
      have y0 := HO6.out.free 0
      have y1 := HO6.out.free 1
      have y2 := HO6.out.free 2
      have k0 : w5.cell? ⟨ob, 0, none⟩ = some (.slice a6 i c6) := HBX.out.cell 0
      have k1 : w5.cell? ⟨ob, 1, none⟩ = some (.slice ar nr cr) := HBX.out.cell 1
      have k2 : w5.cell? ⟨ob, 2, none⟩ = some (.slice an nn cn) := HBX.out.cell 2
      have hne6 : ¬ (b6 = ob) := by have := HW2.out; have := HB6.out.lt; omega
      have hne7 : ¬ (ob = b6) := fun e => hne6 e.symm
      go_upto_region 11 with (fail)
      have b7 := ((HO6.out.set 0 (.slice a6 i c6)).set 1 (.slice ar nr cr)).set 2 (.slice an nn cn)
      have c0 : _ = some (Value.slice a6 i c6) := b7.cell 0
      have c1 : _ = some (Value.slice ar nr cr) := b7.cell 1
      have c2 : _ = some (Value.slice an nn cn) := b7.cell 2
      have hb6 : b6 < WL.heap.size := by have := HB6.out.lt; have := HXL.out.size; omega
      have i0 := ((HPX.out.cell3 (fun q hq => (H6.out q hq).2.1) 0 (.slice a6 i c6)).cell3 (fun q hq => (H6.out q hq).2.1) 1 (.slice ar nr cr)).cell3 (fun q hq => (H6.out q hq).2.1) 2 (.slice an nn cn)
      have i1 := (((HRX.out.cell3 hb6 0 (.slice a6 i c6)).cell3 hb6 1 (.slice ar nr cr)).cell3 hb6 2 (.slice an nn cn)).rwsN
      have i2 := (((HNX.out.cell3 hb6 0 (.slice a6 i c6)).cell3 hb6 1 (.slice ar nr cr)).cell3 hb6 2 (.slice an nn cn)).rwsN
      have hq := HQ.out
      have hx7 := ext_set (o := 2) (v := .slice an nn cn) (ext_set (o := 1) (v := .slice ar nr cr) (ext_set (o := 0) (v := .slice a6 i c6) (HX0.out.trans HXX.out) (show w.heap.size ≤ b6 by omega)) (show w.heap.size ≤ b6 by omega)) (show w.heap.size ≤ b6 by omega)
      refine bodyPost_ret (v := .agg #[.slice a6 i c6, .slice ar nr cr, .slice an nn cn]) (by simp [results, Tryz.results53, go_sem, c0, c1, c2]) rfl (.mk _ rfl hx7 ⟨_, _, _, rfl, ?_, fun q hq => (H6.out q hq).2.2, ?_, ?_⟩)
      · rw [HLE.out]; exact i0
      · rw [HLE.out, HM.out]; exact i1.base (Nat.le_trans HX0.out.size HXL.out.size)
      · rw [HLE.out]; exact i2.base (Nat.le_trans HX0.out.size HXL.out.size)
end
end Go.Proofs.YtfepefbehgbjpaaGreatDoor
