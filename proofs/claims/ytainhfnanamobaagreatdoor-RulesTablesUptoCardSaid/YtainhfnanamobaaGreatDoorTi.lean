/- Tables: the document's contract. -/
import Derived.Test.YtainhfnanamobaaGreatDoorTh
import Derived.Test.YtainhfnanamobaaGreatDoorMg
import Derived.BigRegion
namespace Go.Att
open Go.RowKit
/-- What the document's table comes to, as it lies. -/
def DTab (w : World) (r : Tr) (e : Ending) (w' : World) : Prop :=
  match r with
  | .ok T out => ∃ v, e = .returned (.tuple #[v, .int .i64 out, .int .i64 0]) ∧ Rws w' v T ∧ Ext w w'
  | .no k => e = .returned (.tuple #[.slice none 0 0, .int .i64 0, .int .i64 k]) ∧ Ext w w'
end Go.Att
namespace Go.Proofs.YtainhfnanamobaaGreatDoor
open Go.RowKit Go.Att
section
variable {w : World} {p : Int} {sz : Int} {lv : Value} {cd : List In4} {n : Int}
set_option maxRecDepth 100000 in
set_option maxHeartbeats 4000000 in
theorem dtable_size (hc : Inqs w lv cd) (h : n < 1 ∨ 512 < n ∨ 64 < cd.length) : Calls Tryz.prog 19 #[.int .i64 p, .agg #[.int .i64 sz, lv], .int .i64 n] w (DTab w (tableM p sz cd n)) := by
  have HR := Lib.hid (show tableM p sz cd n = .no 2 by unfold tableM; rw [if_pos h])
  rw [HR.out]
  obtain ⟨ao, cap, rfl⟩ := hc.shape
  have hll := fun w' => hc.run_len (P := Tryz.prog) slIns 3 w'
  have hcl := hc.len
  have HX0 := Lib.hid (Ext.alloc w (Obj.cells #[.int .i64 sz, .slice ao cd.length cap] 24))
  clear hc
  by_cases h1 : n < 1
  · clear h
    go_enter Tryz.func19, Tryz.ntmps19
    go_wp2_with fail
    go_ret3
    exact ⟨rfl, HX0.out⟩
  by_cases h2 : 512 < n
  · clear h
    go_enter Tryz.func19, Tryz.ntmps19
    go_wp2_with fail
    go_ret3
    exact ⟨rfl, HX0.out⟩
  · have h3 : (64 : Int) < (cd.length : Int) := by omega
    clear h
    go_enter Tryz.func19, Tryz.ntmps19
    go_wp2_with fail
    go_ret3
    exact ⟨rfl, HX0.out⟩
set_option maxRecDepth 100000 in
set_option maxHeartbeats 16000000 in
theorem dtable_any (hc : Inqs w lv cd) (hlo : 3 ≤ p) (hhi : p ≤ 2147483647) : Calls Tryz.prog 19 #[.int .i64 p, .agg #[.int .i64 sz, lv], .int .i64 n] w (DTab w (tableM p sz cd n)) := by
  by_cases h : n < 1 ∨ 512 < n ∨ 64 < cd.length
  · exact dtable_size hc h
  have hp2 : 2 ≤ p := by omega
  have HR : Hid (tableM p sz cd n = match walkM p sz cd (n - 1) with
    | .no k => .no k
    | .done l out _ => if n < (missL l).length then .no 9 else .ok (tabL p cd l n.toNat) out) := Lib.hid (by unfold tableM; rw [if_neg h]; cases walkM p sz cd (n - 1) <;> rfl)
  obtain ⟨ao, cap, rfl⟩ := hc.shape
  have hll := fun w' => hc.run_len (P := Tryz.prog) slIns 3 w'
  have hx := Ext.alloc w (Obj.cells #[.int .i64 sz, .slice ao cd.length cap] 24)
  have HX0 := Lib.hid hx; have HC := Lib.hid (hc.ext hx)
  have HK := Lib.hid (BlkOf.new w [.int .i64 sz, .slice ao cd.length cap] 24)
  clear hc hx
  have hn1 : 1 ≤ n := by omega
  have hn2 : n ≤ 512 := by omega
  have hcl : (cd.length : Int) ≤ 64 := by omega
  clear h
  go_enter Tryz.func19, Tryz.ntmps19
  go_upto_region 1 with (fail)
  generalize w.alloc (Obj.cells #[.int .i64 sz, .slice ao cd.length cap] 24) = W0 at *
  generalize hkb : w.heap.size = kb at *
  have HKB := Lib.hid hkb
  clear hkb
  have e0 : W0.cell? ⟨kb, 0, none⟩ = some (.int .i64 sz) := HK.out.cell 0
  have e1 : W0.cell? ⟨kb, 1, none⟩ = some (.slice ao cd.length cap) := HK.out.cell 1
  go_wp2_with fail
  refine (dwalk_any (sz := sz) (lim := n - 1) HC.out hlo hhi).mono ?_
  intro e w1 hpw
  clear e0 e1
  cases hR : walkM p sz cd (n - 1) with
  | no k =>
    have HRR := Lib.hid (show tableM p sz cd n = .no k by rw [HR.out, hR])
    have hkz := walkM_nz hR
    rw [hR] at hpw
    obtain ⟨rfl, hx1⟩ := hpw
    have HX1 := Lib.hid (HX0.out.trans hx1)
    clear hx1 hR HR
    go_wp2_with fail
    go_ret3
    rw [HRR.out]
    exact ⟨rfl, HX1.out⟩
  | done l out mem =>
    have hok := walkM_ok hp2 hR
    rw [hR] at hpw
    obtain ⟨sv, cv, rfl, hsv, hcv, hl5, hx1⟩ := hpw
    obtain ⟨nn, rfl⟩ := Int.eq_ofNat_of_zero_le (show 0 ≤ n by omega)
    have hln : l.length ≤ nn := by have := hok.len; omega
    have hsl := Sl.of_own hsv (by omega)
    have HX1 := Lib.hid (HX0.out.trans hx1); have HK1 := Lib.hid (HK.out.ext hx1); have HC1 := Lib.hid (HC.out.ext hx1); have HS1 := Lib.hid hsl
    have HOK := Lib.hid hok
    have HPO : Hid ((missL l).length ≤ nn → (∀ c ∈ prsT l (missL l) nn, fof p c.1 = c.1 ∧ fof p c.2 = c.2)) := Lib.hid fun hmn c hc => by
      obtain ⟨val, hX, htop⟩ := prs_ok hp2 hR hln hmn
      have hb := hX.bd c hc
      refine ⟨Int.emod_eq_of_lt hb.1 (by omega), ?_⟩
      obtain ⟨i, hi, ⟨j, hj, rfl⟩ | rfl⟩ := mem_prsT.1 hc
      · have := hok.is_ _ (stpAt_mem hok.ne i) j
        exact Int.emod_eq_of_lt this.1 this.2
      · exact Int.emod_eq_of_lt (Int.le_refl _) (by omega)
    have HTP := Lib.hid (topL_bd (xs := atsAll l) (b := p) (fun a ha => by
      obtain ⟨t, ht, j, hj, rfl⟩ := mem_ats.1 ha
      have := hok.at_ t ht j; omega) (by omega))
    have HTN : Hid (topL (atsTo l nn) = topL (atsAll l)) := Lib.hid (topL_same (fun a => atsTo_all hok.ne hln a))
    have HAN : Hid (∀ a, a ∈ atsTo l nn ↔ a ∈ atsAll l) := Lib.hid (atsTo_all hok.ne hln)
    have HRR : Hid (tableM p sz cd nn = if (nn : Int) < (missL l).length then .no 9 else .ok (tabL p cd l nn) out) := Lib.hid (by rw [HR.out, hR]; rfl)
    clear hx1 HX0 HK HC hsv hcv hsl hR HR hok
    have hn5 : nn ≤ 512 := by omega
    have hcd := show cd.length ≤ 64 by omega
    obtain ⟨L', hL⟩ : ∃ L', l.length = L' + 1 := ⟨l.length - 1, by have := HOK.out.ne; omega⟩
    have hL2 : L' ≤ 16384 := by omega
    have HL := Lib.hid hL
    have hls : ∀ w', (Builtin.len_ #[87] 3 #[sv]).run Tryz.prog w' = .ok (.int .i64 ((L' : Int) + 1)) w' := fun w' => by
      have := Sl.run_len (P := Tryz.prog) HS1.out slStep 3 w'
      rw [show ((l.length : Nat) : Int) = (L' : Int) + 1 by omega] at this; exact this
    clear hL hl5 hcl hn1 hn2 hln
    have hml : 20 + cd.length ≤ maxLen := by unfold maxLen; omega
    go_wp2_with fail
    go_loopw [12, 13, 14] (fun x12 x13 x14 wr => ∃ (i : Nat) (bs : Nat → Nat), i ≤ nn ∧ x14 = .int .i64 i ∧ x13 = .int .i64 (topL (atsTo l i)) ∧ Hid (RowsAt wr w1.heap.size 3 26 x12 i (20 + cd.length) bs (fun r => rowK p cd (stpAt l r) 0 [] 0 r)) ∧ Hid (Ext w1 wr)) (fun _ _ x14 _ => nn - (intOf x14).toNat)
    case atStart => exact ⟨0, fun _ => 0, Nat.zero_le _, rfl, rfl, Lib.hid ⟨World.ownsRow_nil _ _ _ _, fun r hr => by omega, fun r hr => by omega, fun r s h1 h2 => by omega, by decide⟩, Lib.hid (Ext.refl _)⟩
    case round =>
      obtain ⟨i, bs, hi, rfl, hx13, HRW, HX⟩ := hrel
      obtain ⟨va, vc, rfl⟩ := own_shape HRW.out.own
      by_cases hil : i < nn
      · subst hx13
        obtain ⟨k, hkd⟩ : ∃ k, k = min i (l.length - 1) := ⟨_, rfl⟩
        obtain ⟨c0, c1, c2, c3, c4, c5, c6, c7, c8, c9⟩ := stp_cells (Sl.ext HS1.out HX.out) HOK.out.ne i hkd
        have hix0 : ∀ w', (Instr.indexAt 87 sv (.int .i64 (k : Int))).run Tryz.prog w' = .ok (.pointer (some (elt sv k 10))) w' := fun w' => by
          have := Sl.run_index (P := Tryz.prog) HS1.out slStep (k : Int) (by omega) (by have := HOK.out.ne; omega) w'
          rw [Int.toNat_natCast] at this
          exact this
        have htm := stpAt_mem HOK.out.ne i
        have hst := HOK.out.stp _ htm
        have hisb := HOK.out.is_ _ htm
        obtain ⟨t, ht⟩ : ∃ t, stpAt l i = t := ⟨_, rfl⟩
        rw [ht] at c0 c1 c2 c3 c4 c5 c6 c7 c8 c9 hst hisb
        obtain ⟨q, hq⟩ := Int.eq_ofNat_of_zero_le hst.pc.1
        rw [hq] at c0
        have hqc : q < cd.length := by have := hst.pc; omega
        have hq64 : q < 64 := by omega
        have HT := Lib.hid ht; have HQ := Lib.hid hq
        have hw3 : IntKind.i64.wrap ((L' : Int) + 1 - 1) = (L' : Int) := by rw [IntWalk.i64_in _ (by omega)]; omega
        have HATS := Lib.hid (show atsTo l (i + 1) = atsTo l i ++ atsOf t by rw [atsTo_succ, ht])
        clear htm hst hisb ht hq
        by_cases hkl : (i : Int) < (L' : Int) + 1
        case' pos =>
          have hix : ∀ w', (Instr.indexAt 87 sv (.int .i64 (i : Int))).run Tryz.prog w' = .ok (.pointer (some (elt sv k 10))) w' := fun w' => by
            rw [show (i : Int) = (k : Int) by have := HL.out; omega]; exact hix0 w'
        case' neg =>
          have hix : ∀ w', (Instr.indexAt 87 sv (.int .i64 (L' : Int))).run Tryz.prog w' = .ok (.pointer (some (elt sv k 10))) w' := fun w' => by
            rw [show (L' : Int) = (k : Int) by have := HL.out; omega]; exact hix0 w'
        all_goals
          clear hkd hix0
          go_upto_region 15 with (fail)
          have hxn := Ext.alloc wr (Obj.cells #[.int .i64 (q : Int), .int .i64 t.fp, .int .i64 t.ap, .int .i64 t.rv, .int .i64 (accA t.acc 0), .int .i64 (accA t.acc 1), .int .i64 (accA t.acc 2), .int .i64 (accI t.acc 0), .int .i64 (accI t.acc 1), .int .i64 (accI t.acc 2)] 94)
          have HBN := Lib.hid (BlkOf.new wr [.int .i64 (q : Int), .int .i64 t.fp, .int .i64 t.ap, .int .i64 t.rv, .int .i64 (accA t.acc 0), .int .i64 (accA t.acc 1), .int .i64 (accA t.acc 2), .int .i64 (accI t.acc 0), .int .i64 (accI t.acc 1), .int .i64 (accI t.acc 2)] 94)
          have HRL : Hid (∀ r, r < i → bs r < wr.heap.size) := Lib.hid fun r hr => (HRW.out.row r hr).lt
          have HRW5 := Lib.hid (HRW.out.ext hxn); have HX5 := Lib.hid (HX.out.trans hxn)
          clear c0 c1 c2 c3 c4 c5 c6 c7 c8 c9 hxn HRW HX hix hw3
          generalize wr.alloc (Obj.cells #[.int .i64 (q : Int), .int .i64 t.fp, .int .i64 t.ap, .int .i64 t.rv, .int .i64 (accA t.acc 0), .int .i64 (accA t.acc 1), .int .i64 (accA t.acc 2), .int .i64 (accI t.acc 0), .int .i64 (accI t.acc 1), .int .i64 (accI t.acc 2)] 94) = W5 at *
          generalize wr.heap.size = sb at *
          have e1 : W5.cell? ⟨kb, 1, none⟩ = some (.slice ao cd.length cap) := (HK1.out.ext HX5.out).cell 1
          go_upto_region 16 with (refine wpList_mkRow rfl _ _ 26 rfl slIntT rfl rfl (n := 20 + cd.length) (by omega) (by omega) ?_; intro w7 hb7 hg7)
          have hx7 := ext_none hg7
          have HB7 := Lib.hid hb7
          have HX7 := Lib.hid (HX5.out.trans hx7); have HRW7 := Lib.hid (HRW5.out.ext hx7); have HBN7 := Lib.hid (HBN.out.ext hx7)
          have HSR : Hid (sb < W5.heap.size) := Lib.hid HBN.out.lt
          have HRR6 : Hid (∀ r, r < i → bs r < W5.heap.size) := Lib.hid fun r hr => by have := HRL.out r hr; have := HSR.out; omega
          have HBR : Hid (w1.heap.size ≤ W5.heap.size) := Lib.hid HX5.out.size
          clear e1 hx7 hg7 hb7 HX5 HRW5 HBN HRL
          generalize W5.heap.size = rb at *
          have s1 : w7.cell? ⟨sb, 1, none⟩ = some (.int .i64 t.fp) := HBN7.out.cell 1
          have s2 : w7.cell? ⟨sb, 2, none⟩ = some (.int .i64 t.ap) := HBN7.out.cell 2
          have s3 : w7.cell? ⟨sb, 3, none⟩ = some (.int .i64 t.rv) := HBN7.out.cell 3
          have rz : ∀ k, k < 20 + cd.length → w7.cell? ⟨rb, k, none⟩ = some (.int .i64 0) := fun k hk => by rw [HB7.out.cell]; simp [hk]
          have r0 := rz 0 (by omega)
          have r1 := rz 1 (by omega)
          have r2 := rz 2 (by omega)
          have f0 := HB7.out.free 0
          have f1 := HB7.out.free 1
          have f2 := HB7.out.free 2
          have i0 : ∀ w', (Instr.indexAt 26 (.slice (some ⟨rb, 0, none⟩) (20 + cd.length) (20 + cd.length)) (.int .i64 0)).run Tryz.prog w' = .ok (.pointer (some ⟨rb, 0, none⟩)) w' := fun w' => run_ixB slIntT rb (i := 0) (by omega) hml w'
          have i1 : ∀ w', (Instr.indexAt 26 (.slice (some ⟨rb, 0, none⟩) (20 + cd.length) (20 + cd.length)) (.int .i64 1)).run Tryz.prog w' = .ok (.pointer (some ⟨rb, 1, none⟩)) w' := fun w' => run_ixB slIntT rb (i := 1) (by omega) hml w'
          have i2 : ∀ w', (Instr.indexAt 26 (.slice (some ⟨rb, 0, none⟩) (20 + cd.length) (20 + cd.length)) (.int .i64 2)).run Tryz.prog w' = .ok (.pointer (some ⟨rb, 2, none⟩)) w' := fun w' => run_ixB slIntT rb (i := 2) (by omega) hml w'
          clear rz
          go_upto_region 19 with (fail)
          have hg8 := grown_one (grown_one (setCell_grown w7 rb 0 (.int .i64 t.fp)) (setCell_grown _ rb 1 (.int .i64 t.ap))) (setCell_grown _ rb 2 (.int .i64 t.rv))
          have HB8 : Hid (BlkOf (((w7.setCell ⟨rb, 0, none⟩ (.int .i64 t.fp)).setCell ⟨rb, 1, none⟩ (.int .i64 t.ap)).setCell ⟨rb, 2, none⟩ (.int .i64 t.rv)) rb ((rowJ t cd.length 0 0).map (Value.int .i64)) 3) := Lib.hid (by rw [← rowJ_start]; exact ((HB7.out.set 0 (.int .i64 t.fp)).set 1 (.int .i64 t.ap)).set 2 (.int .i64 t.rv))
          have HX8 := Lib.hid ((Turned.one (c := rb) hg8).ext HX7.out HBR.out HBR.out)
          have HRW8 := Lib.hid (HRW7.out.kept hg8 (own_not_blk HRW7.out.own HB7.out (by decide)) (fun r hr => by have := HRR6.out r hr; omega))
          have HBN8 := Lib.hid (HBN7.out.grown hg8 (fun e => by have := Option.some.inj e; have := HSR.out; omega))
          clear r0 r1 r2 f0 f1 f2 s1 s2 s3 i0 i1 i2 hg8 HB7 HX7 HRW7 HBN7
          revert HB8 HX8 HRW8 HBN8
          generalize World.setCell _ ⟨rb, 2, none⟩ _ = W8
          intro HB8 HX8 HRW8 HBN8
          go_wp2_with fail
          go_loopw [13, 18] (fun x13 x18 ws => ∃ j : Nat, j ≤ 3 ∧ x18 = .int .i64 j ∧ x13 = .int .i64 (topL (atsTo l i ++ (atsOf t).take j)) ∧ Hid (BlkOf ws rb ((rowJ t cd.length j 0).map (Value.int .i64)) 3) ∧ Hid (BlkOf ws sb [.int .i64 (q : Int), .int .i64 t.fp, .int .i64 t.ap, .int .i64 t.rv, .int .i64 (accA t.acc 0), .int .i64 (accA t.acc 1), .int .i64 (accA t.acc 2), .int .i64 (accI t.acc 0), .int .i64 (accI t.acc 1), .int .i64 (accI t.acc 2)] 94) ∧ Hid (RowsAt ws w1.heap.size 3 26 (.slice va i vc) i (20 + cd.length) bs (fun r => rowK p cd (stpAt l r) 0 [] 0 r)) ∧ Hid (Ext w1 ws)) (fun _ x18 _ => 3 - (intOf x18).toNat)
          case atStart => exact ⟨0, by omega, rfl, by rw [List.take_zero, List.append_nil], HB8, HBN8, HRW8, HX8⟩
          case round =>
            clear HB8 HBN8 HRW8 HX8
            obtain ⟨j, hj, rfl, hx13, HBJ, HSJ, HRJ, HXJ⟩ := hrel
            generalize wr = W9 at *
            obtain ⟨tp, htp⟩ : ∃ tp, topL (atsTo l i ++ (atsOf t).take j) = tp := ⟨_, rfl⟩
            rw [htp] at hx13
            subst hx13
            by_cases hj3 : j < 3
            · have HTP2 : Hid (topL (atsTo l i ++ (atsOf t).take (j + 1)) = if accA t.acc j > tp then accA t.acc j else tp) := Lib.hid (by rw [atsOf_take t j hj3, ← List.append_assoc, topL_snoc, htp])
              have h012 : j = 0 ∨ j = 1 ∨ j = 2 := by omega
              have sA : W9.cell? ⟨sb, 4 + j, none⟩ = some (.int .i64 (accA t.acc j)) := by rw [HSJ.out.cell]; rcases h012 with rfl | rfl | rfl <;> rfl
              have sI : W9.cell? ⟨sb, 7 + j, none⟩ = some (.int .i64 (accI t.acc j)) := by rw [HSJ.out.cell]; rcases h012 with rfl | rfl | rfl <;> rfl
              obtain ⟨y1, n1⟩ : ∃ y, W9.cell? ⟨rb, 3 + j, none⟩ = some y := ⟨_, by rw [HBJ.out.cell]; exact List.getElem?_eq_getElem (by rw [List.length_map, rowJ_length]; omega)⟩
              obtain ⟨y2, n2⟩ : ∃ y, W9.cell? ⟨rb, 7 + j, none⟩ = some y := ⟨_, by rw [HBJ.out.cell]; exact List.getElem?_eq_getElem (by rw [List.length_map, rowJ_length]; omega)⟩
              have g1 := HBJ.out.free (3 + j)
              have g2 := HBJ.out.free (7 + j)
              have g3 := (HBJ.out.set (3 + j) (.int .i64 (accA t.acc j))).free (7 + j)
              have a4 := ptr3 sb 4 j hj3
              have a7 := ptr3 sb 7 j hj3
              have j3 : ∀ w', (Instr.indexAt 26 (.slice (some ⟨rb, 0, none⟩) (20 + cd.length) (20 + cd.length)) (.int .i64 (3 + (j : Int)))).run Tryz.prog w' = .ok (.pointer (some ⟨rb, 3 + j, none⟩)) w' := fun w' => by
                have := run_ixB (P := Tryz.prog) slIntT rb (n := 20 + cd.length) (i := 3 + j) (by omega) hml w'
                rw [show ((3 + j : Nat) : Int) = 3 + (j : Int) by omega] at this
                exact this
              have j7 : ∀ w', (Instr.indexAt 26 (.slice (some ⟨rb, 0, none⟩) (20 + cd.length) (20 + cd.length)) (.int .i64 (7 + (j : Int)))).run Tryz.prog w' = .ok (.pointer (some ⟨rb, 7 + j, none⟩)) w' := fun w' => by
                have := run_ixB (P := Tryz.prog) slIntT rb (n := 20 + cd.length) (i := 7 + j) (by omega) hml w'
                rw [show ((7 + j : Nat) : Int) = 7 + (j : Int) by omega] at this
                exact this
              have w3' : IntKind.i64.wrap (3 + (j : Int)) = 3 + (j : Int) := IntWalk.i64_in _ (by omega)
              have w7' : IntKind.i64.wrap (7 + (j : Int)) = 7 + (j : Int) := IntWalk.i64_in _ (by omega)
              have m1 : (W9.setCell ⟨rb, 3 + j, none⟩ (.int .i64 (accA t.acc j))).cell? ⟨sb, 7 + j, none⟩ = some (.int .i64 (accI t.acc j)) := by rw [World.cell?_setCell_other _ _ _ _ (by simp)]; exact sI
              have m2 : (W9.setCell ⟨rb, 3 + j, none⟩ (.int .i64 (accA t.acc j))).cell? ⟨rb, 7 + j, none⟩ = some y2 := by rw [World.cell?_setCell_other _ _ _ _ (by simp)]; exact n2
              clear h012 htp
              go_upto_region 24 with (fail)
              have hg := grown_one (setCell_grown W9 rb (3 + j) (.int .i64 (accA t.acc j))) (setCell_grown _ rb (7 + j) (.int .i64 (accI t.acc j)))
              have HBJ2 : Hid (BlkOf ((W9.setCell ⟨rb, 3 + j, none⟩ (.int .i64 (accA t.acc j))).setCell ⟨rb, 7 + j, none⟩ (.int .i64 (accI t.acc j))) rb ((rowJ t cd.length (j + 1) 0).map (Value.int .i64)) 3) := Lib.hid (by rw [← rowJ_next t cd.length hj3, ← map_set2, ← map_set2]; exact (HBJ.out.set _ _).set _ _)
              have HSJ2 := Lib.hid (HSJ.out.grown hg (fun e => by have := Option.some.inj e; have := HSR.out; omega))
              have HRJ2 := Lib.hid (HRJ.out.kept hg (own_not_blk HRJ.out.own HBJ.out (by decide)) (fun r hr => by have := HRR6.out r hr; omega))
              have HXJ2 := Lib.hid ((Turned.one (c := rb) hg).ext HXJ.out HBR.out HBR.out)
              clear sA sI n1 n2 g1 g2 g3 a7 j3 j7 w3' w7' m1 m2 hg HBJ HSJ HRJ HXJ
              revert HBJ2 HSJ2 HRJ2 HXJ2
              generalize World.setCell _ ⟨rb, 7 + j, none⟩ _ = W10
              intro HBJ2 HSJ2 HRJ2 HXJ2
              have sA : W10.cell? ⟨sb, 4 + j, none⟩ = some (.int .i64 (accA t.acc j)) := by
                have h012 : j = 0 ∨ j = 1 ∨ j = 2 := by omega
                rw [HSJ2.out.cell]; rcases h012 with rfl | rfl | rfl <;> rfl
              by_cases hgt : accA t.acc j > tp
              · go_wp2_with fail
                go_roundw
                case rel => exact ⟨j + 1, by omega, by go_num, by rw [HTP2.out, if_pos hgt], HBJ2, HSJ2, HRJ2, HXJ2⟩
                case measure => simp [intOf]; omega
              · go_wp2_with fail
                go_roundw
                case rel => exact ⟨j + 1, by omega, by go_num, by rw [HTP2.out, if_neg hgt], HBJ2, HSJ2, HRJ2, HXJ2⟩
                case measure => simp [intOf]; omega
            · obtain rfl : j = 3 := by omega
              have HTP3 : Hid (tp = topL (atsTo l (i + 1))) := Lib.hid (by rw [← htp, HATS.out]; rfl)
              clear htp
              go_upto_region 26 with (fail)
              have e1 : W9.cell? ⟨kb, 1, none⟩ = some (.slice ao cd.length cap) := (HK1.out.ext HXJ.out).cell 1
              have s0 : W9.cell? ⟨sb, 0, none⟩ = some (.int .i64 (q : Int)) := HSJ.out.cell 0
              have s1 : W9.cell? ⟨sb, 1, none⟩ = some (.int .i64 t.fp) := HSJ.out.cell 1
              have s2 : W9.cell? ⟨sb, 2, none⟩ = some (.int .i64 t.ap) := HSJ.out.cell 2
              have s3 : W9.cell? ⟨sb, 3, none⟩ = some (.int .i64 t.rv) := HSJ.out.cell 3
              have s4 : W9.cell? ⟨sb, 4, none⟩ = some (.int .i64 (accA t.acc 0)) := HSJ.out.cell 4
              have s5 : W9.cell? ⟨sb, 5, none⟩ = some (.int .i64 (accA t.acc 1)) := HSJ.out.cell 5
              have s6 : W9.cell? ⟨sb, 6, none⟩ = some (.int .i64 (accA t.acc 2)) := HSJ.out.cell 6
              have s7 : W9.cell? ⟨sb, 7, none⟩ = some (.int .i64 (accI t.acc 0)) := HSJ.out.cell 7
              have s8 : W9.cell? ⟨sb, 8, none⟩ = some (.int .i64 (accI t.acc 1)) := HSJ.out.cell 8
              have s9 : W9.cell? ⟨sb, 9, none⟩ = some (.int .i64 (accI t.acc 2)) := HSJ.out.cell 9
              have hiq := HC1.out.run_index (P := Tryz.prog) slIns q hqc
              have d0 := (HC1.out.ext HXJ.out).c0 q hqc
              have i11 : ∀ w', (Instr.indexAt 26 (.slice (some ⟨rb, 0, none⟩) (20 + cd.length) (20 + cd.length)) (.int .i64 11)).run Tryz.prog w' = .ok (.pointer (some ⟨rb, 11, none⟩)) w' := fun w' => run_ixB slIntT rb (i := 11) (by omega) hml w'
              refine wp_region_move_quiet_tail 10 _ (by kernel_rfl) rfl rfl (by kernel_rfl) ?_
              simp only [List.take_succ_cons, List.take_zero, List.drop_succ_cons, List.drop_zero]
              repeat (go_big_quiet_step (fail))
              refine wpQuiet_nil ?_
              rintro _ ⟨nq, rfl⟩
              have hdr := Ext.drewN W9 nq
              have HB12 := Lib.hid (HBJ.out.ext hdr); have HX12 := Lib.hid (HXJ.out.trans hdr); have HRW12 := Lib.hid (HRJ.out.ext hdr); have HSN12 := Lib.hid (HSJ.out.ext hdr)
              clear e1 s0 s1 s2 s3 s4 s5 s6 s7 s8 s9 hiq d0 hdr HBJ HXJ HRJ HSJ
              generalize W9.drewN nq = W12 at *
              have HIN : Hid (hintM p (nthI cd q).op (accI t.acc 0) (accI t.acc 1) = hintS p cd t) := Lib.hid (by unfold hintS; rw [HQ.out, Int.toNat_natCast])
              go_upto_region 27 with (go_at_call 50; refine (hint_any p _ _ _ _ _ _ _ _ _ _ _ _ hp2 hhi).mono ?_; rw [HIN.out]; rintro e w13 ⟨rfl, hx13⟩; have hb13 := HB12.out.ext hx13; obtain ⟨y11, r11⟩ : ∃ y, w13.cell? ⟨rb, 11, none⟩ = some y := ⟨_, by rw [hb13.cell]; exact List.getElem?_eq_getElem (by rw [List.length_map, rowJ_length]; omega)⟩; have f11 := hb13.free 11)
              have hg := setCell_grown w13 rb 11 (.int .i64 (hintS p cd t))
              have HB14 : Hid (BlkOf (w13.setCell ⟨rb, 11, none⟩ (.int .i64 (hintS p cd t))) rb ((rowJ t cd.length 3 (hintS p cd t)).map (Value.int .i64)) 3) := Lib.hid (by rw [← rowJ_hint, ← map_set2]; exact hb13.set 11 _)
              have hrw13 := HRW12.out.ext hx13
              have HX14 := Lib.hid ((Turned.one (c := rb) hg).ext (HX12.out.trans hx13) HBR.out HBR.out)
              have HRW14 := Lib.hid (hrw13.kept hg (own_not_blk hrw13.own hb13 (by decide)) (fun r hr => by have := HRR6.out r hr; omega))
              have HSN14 := Lib.hid ((HSN12.out.ext hx13).grown hg (fun e => by have := Option.some.inj e; have := HSR.out; omega))
              clear r11 f11 i11 hb13 hx13 hg hrw13 HB12 HX12 HRW12 HSN12
              revert HB14 HX14 HRW14 HSN14
              generalize World.setCell _ ⟨rb, 11, none⟩ _ = W14
              intro HB14 HX14 HRW14 HSN14
              refine NoPan.normal ?_
              have s0 : W14.cell? ⟨sb, 0, none⟩ = some (.int .i64 (q : Int)) := HSN14.out.cell 0
              obtain ⟨y20, r20⟩ : ∃ y, W14.cell? ⟨rb, 20 + q, none⟩ = some y := ⟨_, by rw [HB14.out.cell]; exact List.getElem?_eq_getElem (by rw [List.length_map, rowJ_length]; omega)⟩
              have f20 := HB14.out.free (20 + q)
              have i20 : ∀ w', (Instr.indexAt 26 (.slice (some ⟨rb, 0, none⟩) (20 + cd.length) (20 + cd.length)) (.int .i64 (20 + (q : Int)))).run Tryz.prog w' = .ok (.pointer (some ⟨rb, 20 + q, none⟩)) w' := fun w' => by
                have := run_ixB (P := Tryz.prog) slIntT rb (n := 20 + cd.length) (i := 20 + q) (by omega) hml w'
                rw [show ((20 + q : Nat) : Int) = 20 + (q : Int) by omega] at this
                exact this
              go_upto_region 28 with (fail)
              have hg := setCell_grown W14 rb (20 + q) (.int .i64 1)
              have HBF : Hid (BlkOf (W14.setCell ⟨rb, 20 + q, none⟩ (.int .i64 1)) rb ((rowK p cd (stpAt l i) 0 [] 0 i).map (Value.int .i64)) 3) := Lib.hid (by rw [HT.out, ← rowJ_sel HQ.out [] i, ← map_set2]; exact HB14.out.set _ _)
              have HX15 := Lib.hid ((Turned.one (c := rb) hg).ext HX14.out HBR.out HBR.out)
              have HRW15 := Lib.hid (HRW14.out.kept hg (own_not_blk HRW14.out.own HB14.out (by decide)) (fun r hr => by have := HRR6.out r hr; omega))
              clear s0 r20 f20 i20 hg HB14 HX14 HRW14 HSN14
              revert HBF HX15 HRW15
              generalize World.setCell _ ⟨rb, 20 + q, none⟩ _ = W15
              intro HBF HX15 HRW15
              have hbase : w1.heap.size ≤ W15.heap.size := HX15.out.size
              go_wp2_with (at_builtin; refine wpList_appNw rfl _ _ 25 rfl slRowsA rfl hbase HRW15.out.own rfl #[.slice (some ⟨rb, 0, none⟩) (20 + cd.length) (20 + cd.length)] rfl (by intro u hu; simp at hu; subst hu; rfl) rfl (by omega) (by omega) ?_; intro v15 w15 HO15 HG15 _; obtain ⟨va2, vc2, rfl⟩ := own_shape HO15; have HRW16 := Lib.hid (HRW15.out.push HBF.out HBR.out (fun r hr => by have := HRR6.out r hr; omega) HO15 HG15); have HX16 := Lib.hid (Ext.own_grown HX15.out HRW15.out.own HG15); clear HO15 HG15 hbase)
              go_roundw
              case rel => exact ⟨i + 1, _, by omega, by go_num, by rw [HTP3.out], HRW16, HX16⟩
              case measure => simp [intOf]; omega
      · obtain rfl : i = nn := by omega
        obtain ⟨tp, htp⟩ : ∃ tp : Nat, topL (atsAll l) = tp := ⟨_, (Int.toNat_of_nonneg HTP.out.1).symm⟩
        rw [HTN.out, htp] at hx13
        subst hx13
        have htb : tp ≤ 2147483647 := by have := HTP.out.2; omega
        have HMS : Hid (holesUp (atsAll l) tp = missL l) := Lib.hid (by unfold missL; rw [htp, Int.toNat_natCast])
        clear htp HTN HTP
        go_wp2_with fail
        go_loopw [19, 20] (fun x19 x20 wr => ∃ a : Nat, a ≤ tp ∧ x20 = .int .i64 a ∧ x19 = .int .i64 ((holesUp (atsAll l) a).length : Int) ∧ (holesUp (atsAll l) a).length ≤ i ∧ Hid (RowsAt wr w1.heap.size 3 26 (.slice va i vc) i (20 + cd.length) bs (fun r => rowK p cd (stpAt l r) (nth (holesUp (atsAll l) a) r) [] 0 r)) ∧ Hid (Ext w1 wr)) (fun _ x20 _ => tp - (intOf x20).toNat)
        case atStart => exact ⟨0, Nat.zero_le _, rfl, rfl, Nat.zero_le _, Lib.hid (HRW.out.told (fun r _ => rfl)), HX⟩
        case round =>
          clear HRW HX
          obtain ⟨a, ha, rfl, hx19, hh, HRA, HXA⟩ := hrel
          obtain ⟨h, hhe⟩ : ∃ h, (holesUp (atsAll l) a).length = h := ⟨_, rfl⟩
          rw [hhe] at hx19 hh
          subst hx19
          have HHE := Lib.hid hhe
          clear hhe
          by_cases hat : a < tp
          · have HWS := Lib.hid (HRA.out.rws (fun r _ => rowK_length _ _ _ _ _ _ _) hml)
            have HUS : Hid (usedB ((List.range i).map fun r => rowK p cd (stpAt l r) (nth (holesUp (atsAll l) a) r) [] 0 r) (a : Int) = decide ((a : Int) ∈ atsAll l)) := Lib.hid (by rw [usedB_rows]; exact decide_eq_decide.2 (HAN.out _))
            have HRL20 : Hid (∀ k, k < ((List.range i).map fun r => rowK p cd (stpAt l r) (nth (holesUp (atsAll l) a) r) [] 0 r).length → 20 ≤ (nthL ((List.range i).map fun r => rowK p cd (stpAt l r) (nth (holesUp (atsAll l) a) r) [] 0 r) k).length) := Lib.hid fun k hk => by
              rw [nthL_eq hk, List.getElem_map, rowK_length]; omega
            by_cases hin : (a : Int) ∈ atsAll l
            · have HU2 : Hid (usedB ((List.range i).map fun r => rowK p cd (stpAt l r) (nth (holesUp (atsAll l) a) r) [] 0 r) (a : Int) = true) := Lib.hid (by rw [HUS.out]; exact decide_eq_true hin)
              have HSU : Hid (holesUp (atsAll l) (a + 1) = holesUp (atsAll l) a) := Lib.hid (by rw [holesUp_succ, if_pos hin])
              clear hin HUS
              go_wp2_with (go_at_call 51; refine (used_any _ _ _ _ HWS.out HRL20.out).mono ?_; rw [HU2.out]; rintro e w2 ⟨rfl, hx2⟩)
              go_roundw
              case rel => exact ⟨a + 1, by omega, by go_num, by rw [HSU.out, HHE.out], by rw [HSU.out, HHE.out]; exact hh, Lib.hid (by rw [HSU.out]; exact HRA.out.ext hx2), Lib.hid (HXA.out.trans hx2)⟩
              case measure => simp [intOf]; omega
            · have HU2 : Hid (usedB ((List.range i).map fun r => rowK p cd (stpAt l r) (nth (holesUp (atsAll l) a) r) [] 0 r) (a : Int) = false) := Lib.hid (by rw [HUS.out]; exact decide_eq_false hin)
              have HSU : Hid (holesUp (atsAll l) (a + 1) = holesUp (atsAll l) a ++ [(a : Int)]) := Lib.hid (by rw [holesUp_succ, if_neg hin])
              clear hin HUS
              by_cases hfull : h = i
              · have HR9 : Hid (tableM p sz cd i = .no 9) := Lib.hid (by
                  obtain ⟨r, hr⟩ := holesUp_pre (atsAll l) (show a + 1 ≤ tp by omega)
                  rw [HMS.out, HSU.out] at hr
                  rw [HRR.out, if_pos]
                  rw [hr, List.length_append, List.length_append, HHE.out, hfull]
                  simp; omega)
                subst hfull
                go_wp2_with (go_at_call 51; refine (used_any _ _ _ _ HWS.out HRL20.out).mono ?_; rw [HU2.out]; rintro e w2 ⟨rfl, hx2⟩)
                go_ret3
                rw [HR9.out]
                exact ⟨rfl, HX1.out.trans (HXA.out.trans hx2)⟩
              · have hhi' : h < i := by omega
                have hir : ∀ w', (Instr.indexAt 25 (.slice va i vc) (.int .i64 (h : Int))).run Tryz.prog w' = .ok (.pointer (some (elt (.slice va i vc) h 1))) w' := fun w' => by
                  have := Sl.run_index (P := Tryz.prog) (Sl.of_own HRA.out.own (by omega)) slRowsA (h : Int) (by omega) (by omega) w'
                  rw [Int.toNat_natCast] at this
                  exact this
                have i6 : ∀ w', (Instr.indexAt 26 (.slice (some ⟨bs h, 0, none⟩) (20 + cd.length) (20 + cd.length)) (.int .i64 6)).run Tryz.prog w' = .ok (.pointer (some ⟨bs h, 6, none⟩)) w' := fun w' => run_ixB slIntT (bs h) (i := 6) (by omega) hml w'
                go_upto_region 38 with (go_at_call 51; refine (used_any _ _ _ _ HWS.out HRL20.out).mono ?_; rw [HU2.out]; rintro e w2 ⟨rfl, hx2⟩; have hra := HRA.out.ext hx2; have hrow := hra.row_at hhi' (Ext.refl _); obtain ⟨y6, r6⟩ : ∃ y, w2.cell? ⟨bs h, 6, none⟩ = some y := ⟨_, by rw [(hra.row h hhi').cell]; exact List.getElem?_eq_getElem (by rw [List.length_map, rowK_length]; omega)⟩; have f6 := (hra.row h hhi').free 6)
                have hg := setCell_grown w2 (bs h) 6 (.int .i64 (a : Int))
                have hbb := hra.base h hhi'
                have HXA2 := Lib.hid ((Turned.one (c := bs h) hg).ext (HXA.out.trans hx2) hbb hbb)
                have HRA2 := Lib.hid (hra.write1 (i := 6) (x := (a : Int)) hhi' (L' := fun r => rowK p cd (stpAt l r) (nth (holesUp (atsAll l) (a + 1)) r) [] 0 r)
                  (by simp only [HSU.out]; rw [rowK_six, nth_push, if_pos HHE.out.symm])
                  (fun r _ hne => by simp only [HSU.out]; rw [nth_push, if_neg (by rw [HHE.out]; exact hne)]))
                clear hir i6 hrow r6 f6 hg hbb hra HRA HXA HWS HRL20
                revert HXA2 HRA2
                generalize World.setCell _ ⟨bs h, 6, none⟩ _ = W3
                intro HXA2 HRA2
                go_wp2_with fail
                go_roundw
                case rel => exact ⟨a + 1, by omega, by go_num, by rw [HSU.out, List.length_append, HHE.out]; go_num, by rw [HSU.out, List.length_append, HHE.out]; exact hhi', HRA2, HXA2⟩
                case measure => simp [intOf]; omega
          · obtain rfl : a = tp := by omega
            have HRM : Hid (RowsAt wr w1.heap.size 3 26 (.slice va i vc) i (20 + cd.length) bs (fun r => rowK p cd (stpAt l r) (nth (missL l) r) [] 0 r)) := Lib.hid (by have := HRA.out; rw [HMS.out] at this; exact this)
            have hms : (missL l).length ≤ i := by rw [← HMS.out, HHE.out]; exact hh
            have HRR2 : Hid (tableM p sz cd i = .ok (tabL p cd l i) out) := Lib.hid (by rw [HRR.out, if_neg (by omega)])
            have HPB := Lib.hid (HPO.out hms)
            have HTL := Lib.hid (show tabL p cd l i = (List.range i).map fun r => rowK p cd (stpAt l r) (nth (missL l) r) (sortP (prsT l (missL l) i)) (4 * i) r from rfl)
            clear HRA HMS HRR HPO HHE hms
            generalize missL l = ms at *
            have HWS := Lib.hid (HRM.out.rws (fun r _ => rowK_length _ _ _ _ _ _ _) hml)
            have HRL20 : Hid (∀ k, k < ((List.range i).map fun r => rowK p cd (stpAt l r) (nth ms r) [] 0 r).length → 20 ≤ (nthL ((List.range i).map fun r => rowK p cd (stpAt l r) (nth ms r) [] 0 r) k).length) := Lib.hid fun k hk => by
              rw [nthL_eq hk, List.getElem_map, rowK_length]; omega
            have HPL := Lib.hid (prsL_rowK (cd := cd) (S := []) (j := 0) HPB.out)
            go_wp2_with (fail)
            refine (rpairs_any p _ _ 3 7 _ HWS.out HRL20.out (by omega) (by omega) (by rw [List.length_map, List.length_range]; omega) hp2 hhi).mono ?_
            rw [HPL.out]
            rintro e w2 ⟨u, rfl, hx2, hu⟩
            have HU := Lib.hid hu
            clear hu HWS HRL20 HPL
            go_wp2_with (fail)
            refine (sorted_own _ _ _ HU.out (by rw [prsT_length]; omega)).mono ?_
            rintro e w3 ⟨u3, rfl, hx3, S', ho, hperm, hord⟩
            have HX3 := Lib.hid (HXA.out.trans (hx2.trans hx3)); have HRW3 := Lib.hid (HRM.out.ext (hx2.trans hx3))
            have HE := Lib.hid (ord_perm_eq (hperm.trans (sortP_perm _).symm) hord (sortP_ord _))
            rw [HE.out, prsT_length] at ho
            have HB3 : Hid (w2.heap.size = w2.heap.size) := Lib.hid rfl
            obtain ⟨SS, hSS⟩ : ∃ S, sortP (prsT l ms i) = S := ⟨_, rfl⟩
            rw [hSS] at HTL ho
            have HSL : Hid (SS.length = 4 * i) := Lib.hid (by rw [← hSS, (sortP_perm _).length_eq, prsT_length])
            have HO3 := Lib.hid ho
            clear hx2 hx3 ho hperm hord hSS HU HRM HXA HE HB3
            generalize hN : 4 * i = N at *
            have HN := Lib.hid hN
            have hN2 : N ≤ 2048 := by omega
            clear hN
            generalize w2.heap.size = B2 at *
            go_wp2_with fail
            go_loopw [23] (fun x23 wr => ∃ j : Nat, j ≤ N ∧ x23 = .int .i64 j ∧ Hid (RowsAt wr w1.heap.size 3 26 (.slice va i vc) i (20 + cd.length) bs (fun r => rowK p cd (stpAt l r) (nth ms r) SS j r)) ∧ Hid (wr.ownsRow B2 110 2 u3 N (flatP SS)) ∧ Hid (Ext w1 wr)) (fun x23 _ => N - (intOf x23).toNat)
            case atStart => exact ⟨0, Nat.zero_le _, rfl, Lib.hid (HRW3.out.told (fun r _ => rfl)), HO3, HX3⟩
            case round =>
              clear HRW3 HO3 HX3
              obtain ⟨j, hj, rfl, HRJ, HOJ, HXJ⟩ := hrel
              generalize wr = W6 at *
              obtain ⟨pa, pc, rfl⟩ := own_shape HOJ.out
              by_cases hjl : j < N
              · obtain ⟨r, k, hjr, hk4⟩ : ∃ r k, j = 4 * r + k ∧ k < 4 := ⟨j / 4, j % 4, by omega, by omega⟩
                have hri : r < i := by have := HN.out; omega
                have hjs : j < SS.length := by have := HSL.out; have := HN.out; omega
                have hprs := Prs.of_own HOJ.out
                have hip0 := hprs.run_index (P := Tryz.prog) slCells j hjs
                have c1 := hprs.fst j hjs
                have c2 := hprs.snd j hjs
                have HJS := Lib.hid hjs; have HRI := Lib.hid hri; have HJR := Lib.hid hjr
                have hrow := HRJ.out.row_at hri (Ext.refl _)
                have hir : ∀ w', (Instr.indexAt 25 (.slice va i vc) (.int .i64 ((j : Int) / 4))).run Tryz.prog w' = .ok (.pointer (some (elt (.slice va i vc) r 1))) w' := fun w' => by
                  have := Sl.run_index (P := Tryz.prog) (Sl.of_own HRJ.out.own (by omega)) slRowsA (r : Int) (by omega) (by omega) w'
                  rw [Int.toNat_natCast] at this
                  rw [show (j : Int) / 4 = (r : Int) by omega]
                  exact this
                have k1 : ∀ w', (Instr.indexAt 26 (.slice (some ⟨bs r, 0, none⟩) (20 + cd.length) (20 + cd.length)) (.int .i64 (12 + (j : Int) % 4))).run Tryz.prog w' = .ok (.pointer (some ⟨bs r, 12 + k, none⟩)) w' := fun w' => by
                  have := run_ixB (P := Tryz.prog) slIntT (bs r) (n := 20 + cd.length) (i := 12 + k) (by omega) hml w'
                  rw [show ((12 + k : Nat) : Int) = 12 + (j : Int) % 4 by have := HJR.out; omega] at this
                  exact this
                have k2 : ∀ w', (Instr.indexAt 26 (.slice (some ⟨bs r, 0, none⟩) (20 + cd.length) (20 + cd.length)) (.int .i64 (16 + (j : Int) % 4))).run Tryz.prog w' = .ok (.pointer (some ⟨bs r, 16 + k, none⟩)) w' := fun w' => by
                  have := run_ixB (P := Tryz.prog) slIntT (bs r) (n := 20 + cd.length) (i := 16 + k) (by omega) hml w'
                  rw [show ((16 + k : Nat) : Int) = 16 + (j : Int) % 4 by have := HJR.out; omega] at this
                  exact this
                clear hjs hri hjr hprs
                go_upto_region 44 with (fail)
                generalize hpr1 : (nthP SS j).1 = x1 at *
                generalize hpr2 : (nthP SS j).2 = x2 at *
                have HP1 := Lib.hid hpr1; have HP2 := Lib.hid hpr2
                clear hpr1 hpr2
                refine wp_region_quiet_tail 14 (by kernel_rfl) (by kernel_rfl) ?_
                simp only [List.take_succ_cons, List.take_zero, List.drop_succ_cons, List.drop_zero]
                repeat (go_big_quiet_step (fail))
                refine wpQuiet_nil ?_
                rintro _ ⟨nq, rfl⟩
                have hdr := Ext.drewN W6 nq
                have HRJd := Lib.hid (HRJ.out.ext hdr); have HOJd := Lib.hid (own_ext HOJ.out hdr); have HXJd := Lib.hid (HXJ.out.trans hdr)
                clear hdr HRJ HOJ HXJ c1 c2 hrow
                generalize W6.drewN nq = W7 at *
                obtain ⟨y, n1⟩ : ∃ y, W7.cell? ⟨bs r, 12 + k, none⟩ = some y := ⟨_, by rw [(HRJd.out.row r HRI.out).cell]; exact List.getElem?_eq_getElem (by simp [rowK_length]; omega)⟩
                have g1 := (HRJd.out.row r HRI.out).free (12 + k)
                go_upto_region 45 with (fail)
                have hne := own_not_blk HOJd.out (HRJd.out.row r HRI.out) (by decide)
                have hg := setCell_grown W7 (bs r) (12 + k) (.int .i64 x1)
                have hbb := HRJd.out.base r HRI.out
                have HRJ2 := Lib.hid (HRJd.out.write1 (i := 12 + k) (x := x1) HRI.out (L' := fun r' => if r' = r then (rowK p cd (stpAt l r) (nth ms r) SS j r).set (12 + k) x1 else rowK p cd (stpAt l r') (nth ms r') SS j r') (by simp) (fun r' _ hne => by simp [hne]))
                have HOJ2 := Lib.hid ((Turned.one (c := bs r) hg).own HOJd.out hne hne)
                have HXJ2 := Lib.hid ((Turned.one (c := bs r) hg).ext HXJd.out hbb hbb)
                clear n1 g1 hne hg hbb HRJd HOJd HXJd
                revert HRJ2 HOJ2 HXJ2
                generalize World.setCell _ ⟨bs r, 12 + k, none⟩ _ = W8
                intro HRJ2 HOJ2 HXJ2
                try refine NoPan.normal ?_
                have hrow := HRJ2.out.row_at HRI.out (Ext.refl _)
                have c2 := (Prs.of_own HOJ2.out).snd j HJS.out
                rw [HP2.out] at c2
                refine wp_region_quiet_tail 14 (by kernel_rfl) (by kernel_rfl) ?_
                simp only [List.take_succ_cons, List.take_zero, List.drop_succ_cons, List.drop_zero]
                repeat (go_big_quiet_step (fail))
                refine wpQuiet_nil ?_
                rintro _ ⟨nq, rfl⟩
                have hdr := Ext.drewN W8 nq
                have HRJ2d := Lib.hid (HRJ2.out.ext hdr); have HOJ2d := Lib.hid (own_ext HOJ2.out hdr); have HXJ2d := Lib.hid (HXJ2.out.trans hdr)
                clear hdr HRJ2 HOJ2 HXJ2 c2 hrow
                generalize W8.drewN nq = W9 at *
                obtain ⟨y, n1⟩ : ∃ y, W9.cell? ⟨bs r, 16 + k, none⟩ = some y := ⟨_, by rw [(HRJ2d.out.row r HRI.out).cell]; exact List.getElem?_eq_getElem (by simp [rowK_length]; omega)⟩
                have g1 := (HRJ2d.out.row r HRI.out).free (16 + k)
                go_upto_region 43 with (fail)
                have hne := own_not_blk HOJ2d.out (HRJ2d.out.row r HRI.out) (by decide)
                have hg := setCell_grown W9 (bs r) (16 + k) (.int .i64 x2)
                have hbb := HRJ2d.out.base r HRI.out
                have HRJ3 := Lib.hid (HRJ2d.out.write1 (i := 16 + k) (x := x2) HRI.out (L' := fun r => rowK p cd (stpAt l r) (nth ms r) SS (j + 1) r) (by show rowK p cd (stpAt l r) (nth ms r) SS (j + 1) r = (if r = r then (rowK p cd (stpAt l r) (nth ms r) SS j r).set (12 + k) x1 else rowK p cd (stpAt l r) (nth ms r) SS j r).set (16 + k) x2; rw [if_pos rfl]; simp only [HJR.out]; rw [rowK_this hk4, ← HP1.out, ← HP2.out, HJR.out]) (fun r' _ hne => by show rowK p cd (stpAt l r') (nth ms r') SS (j + 1) r' = if r' = r then _ else rowK p cd (stpAt l r') (nth ms r') SS j r'; rw [if_neg hne]; exact rowK_other (by have := HJR.out; omega)))
                have HOJ3 := Lib.hid ((Turned.one (c := bs r) hg).own HOJ2d.out hne hne)
                have HXJ3 := Lib.hid ((Turned.one (c := bs r) hg).ext HXJ2d.out hbb hbb)
                clear n1 g1 hne hg hbb HRJ2d HOJ2d HXJ2d
                revert HRJ3 HOJ3 HXJ3
                generalize World.setCell _ ⟨bs r, 16 + k, none⟩ _ = W10
                intro HRJ3 HOJ3 HXJ3
                try refine NoPan.normal ?_
                go_wp2_with fail
                go_roundw
                case rel => exact ⟨j + 1, by omega, by go_num, HRJ3, HOJ3, HXJ3⟩
                case measure => simp [intOf]; omega
              · obtain rfl : j = N := by omega
                obtain ⟨-, -, -, -, -, -, -, a7, -, -⟩ := stp_cells (Sl.ext HS1.out HXJ.out) HOK.out.ne (l.length - 1) (k := L') (by have := HL.out; omega)
                rw [HOK.out.last] at a7
                have hix : ∀ w', (Instr.indexAt 87 sv (.int .i64 (L' : Int))).run Tryz.prog w' = .ok (.pointer (some (elt sv L' 10))) w' := fun w' => by
                  have := Sl.run_index (P := Tryz.prog) HS1.out slStep (L' : Int) (by omega) (by have := HL.out; omega) w'
                  rw [Int.toNat_natCast] at this
                  exact this
                have hw3 : IntKind.i64.wrap ((L' : Int) + 1 - 1) = (L' : Int) := by rw [IntWalk.i64_in _ (by omega)]; omega
                have HML := Lib.hid hml
                clear hml
                go_wp2_with fail
                go_quiet (fail)
                go_wp2_with fail
                go_ret3
                rw [HRR2.out]
                exact ⟨_, rfl, by rw [HTL.out]; exact (HRJ.out.rws (fun r _ => rowK_length _ _ _ _ _ _ _) HML.out).ext (Ext.drewN _ _), (HX1.out.trans HXJ.out).trans (Ext.drewN _ _)⟩
end
end Go.Proofs.YtainhfnanamobaaGreatDoor
