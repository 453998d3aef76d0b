/- Whether an opening shows rows of a tree, the program's side: tree.follow, tree.Check: contracts. Printed by wip/mkno.py. -/
import Derived.Test.YtfepefbehgbjpaaGreatDoorZx21
import Derived.ChangeKeysEq
namespace Go.Att
open Go.RowKit
theorem grpM_none (key : Value) : grpM (fun _ _ => none) key = none := by
  unfold grpM
  split
  · unfold grpL; split <;> rfl
  · rfl
theorem clbF_not {p : Int} {k : Nat} {pl : List Int} {rows nodes : List (List Int)} {n : Nat} {D : List Int} (h : nodes.length ≠ hidN pl n 0 n ∨ (nodes.any fun l => decide (l.length ≠ 4)) = true) : (clbF p k pl rows n 0 n nodes == some (D, [])) = false := by
  rw [beq_eq_false_iff_ne]
  intro e
  obtain ⟨h1, h2, h3⟩ := clbF_used e
  have hl : nodes.length = hidN pl n 0 n := by
    have := congrArg List.length h2
    rw [List.length_drop] at this
    simp at this
    omega
  rcases h with h | h
  · exact h hl
  · obtain ⟨d, hd, hd4⟩ := List.any_eq_true.1 h
    obtain ⟨i, hi, rfl⟩ := List.getElem_of_mem hd
    have := h3 i (by omega)
    rw [nthL_eq hi] at this
    simp [this] at hd4
end Go.Att
namespace Go.Proofs.YtfepefbehgbjpaaGreatDoor
open Go.RowKit Go.Att
theorem run_eq_arr4 (a0 a1 a2 a3 b0 b1 b2 b3 : Int) (w : World) :
    (Op.equalIn 10000 182 (.agg #[.int .i64 a0, .int .i64 a1, .int .i64 a2, .int .i64 a3]) (.agg #[.int .i64 b0, .int .i64 b1, .int .i64 b2, .int .i64 b3])).run Tryz.prog w = .ok (a0 == b0 && (a1 == b1 && (a2 == b2 && a3 == b3))) w := by
  obtain ⟨i, hi⟩ := Option.isSome_iff_exists.1 (show (Tryz.prog.info? 3).isSome = true by kernel_rfl)
  have hz : Tryz.prog.cellsOf 3 = 1 := by kernel_rfl
  have ha : ∀ w, (isAgg 3).run Tryz.prog w = .ok false w := fun w => by simp [go_sem]
  rw [show (10000 : Nat) = 9998 + 1 + 1 from rfl, run_equalIn_array w (9998 + 1) _ _ Tryz.underlying182 hi, hz]
  by_cases h0 : a0 = b0 <;> by_cases h1 : a1 = b1 <;> by_cases h2 : a2 = b2 <;> by_cases h3 : a3 = b3 <;>
    simp [Op.eqItems, List.range, List.range.loop, go_sem, ha, run_equalIn_int _ 9998 3 .i64 .i64 _ _ Tryz.underlying3, h0, h1, h2, h3]
section
variable {w : World} {bs : Nat} {p : Int} {k : Nat} {tv pv rv nv : Value} {top pl : List Int} {rows nodes : List (List Int)} {RR NR : Nat → Value}
set_option maxRecDepth 100000 in
set_option maxHeartbeats 16000000 in
theorem follow_any (hs : Spg w (.pointer (some ⟨bs, 0, none⟩)) p k) (ht : Ints w tv top) (hp : Ints w pv pl) (hr : RwsAt w rv rows RR) (hn : RwsAt w nv nodes NR) (hpl : pl.length ≤ 1000000) (hrw : ∀ i, i < rows.length → (nthL rows i).length ≤ 4294960000) (n : Nat) (hn1 : 1 ≤ n) (hn2 : n ≤ 65536) :
    Calls Tryz.prog 110 #[.pointer (some ⟨bs, 0, none⟩), tv, .int .i64 n, .agg #[pv, rv, nv]] w fun e w' => ∃ u, e = .returned (.tuple #[u, .bool (treeB p k top n pl rows nodes)]) ∧ Ext w w' ∧
      (treeB p k top n pl rows nodes = true → ∃ wb mb lb N D L, u = .pointer (some ⟨wb, 0, none⟩) ∧ WayAt w' wb mb lb N D L ∧ Wkd p k pl rows D L n 0 n nodes) := by
  have hlt := ht.run_len (P := Tryz.prog) slInts
  have hlp := hp.run_len (P := Tryz.prog) slInts
  have hlr := hr.run_len (P := Tryz.prog) slRows
  have hln := hn.run_len (P := Tryz.prog) slRows
  have htl := ht.len
  have hrl := hr.len
  have hnl := hn.len
  have HS := Lib.hid hs; have HT := Lib.hid ht; have HP := Lib.hid hp; have HR := Lib.hid hr; have HN := Lib.hid hn; have HRW := Lib.hid hrw
  have HTB := Lib.hid (show treeB p k top n pl rows nodes = (decide (1 ≤ n ∧ n ≤ 65536) && decide (top.length = 4) && decide (rows.length = pl.length) && ascB pl n && (clbF p k pl rows n 0 n nodes == some (top.map (fof p), []))) from rfl)
  obtain ⟨r, hrr⟩ : ∃ r, treeB p k top n pl rows nodes = r := ⟨_, rfl⟩
  rw [hrr] at HTB ⊢
  have CR := Lib.hid (fun W => tright_any (w := W) n hn1 hn2)
  clear hs ht hp hr hn hrw hrr
  obtain ⟨pa, pc, rfl⟩ := HP.out.shape
  obtain ⟨ra, rc, hre⟩ := HR.out.shape
  obtain ⟨rn, hrn⟩ : ∃ rn, rows.length = rn := ⟨_, rfl⟩
  rw [hrn] at hre
  subst hre
  clear hrn
  obtain ⟨na, nc, rfl⟩ := HN.out.shape
  obtain ⟨nz, hnz⟩ : ∃ nz : Int, (n : Int) = nz := ⟨_, rfl⟩
  have hni : 1 ≤ nz := by omega
  have hni2 : nz ≤ 65536 := by omega
  rw [hnz] at HTB CR ⊢
  have HNZ := Lib.hid hnz
  clear hnz
  have HX0 := Lib.hid (Ext.alloc w (Obj.cells #[.slice pa pl.length pc, .slice ra rn rc, .slice na nodes.length nc] 31))
  have HK0 := Lib.hid (BlkOf.new w [.slice pa pl.length pc, .slice ra rn rc, .slice na nodes.length nc] 31)
  obtain ⟨W0, hW0⟩ : ∃ W0, w.alloc (Obj.cells #[.slice pa pl.length pc, .slice ra rn rc, .slice na nodes.length nc] 31) = W0 := ⟨_, rfl⟩
  have HW0 := Lib.hid hW0
  rw [hW0] at HX0
  rw [show ([Value.slice pa pl.length pc, .slice ra rn rc, .slice na nodes.length nc].toArray) = #[.slice pa pl.length pc, .slice ra rn rc, .slice na nodes.length nc] from rfl, hW0] at HK0
  have HQ := Lib.hid (show w.heap.size < W0.heap.size from by rw [← hW0]; simp)
  clear hW0
  by_cases h1 : rows.length = pl.length
  case neg =>
    have HF := Lib.hid (show r = false from by rw [HTB.out, decide_eq_false h1]; simp)
    have hne : ¬ ((rows.length : Int) = (pl.length : Int)) := by omega
    have hnf : ((rows.length : Int) != (pl.length : Int)) = true := by rw [bne_iff_ne]; exact hne
    clear h1
    go_enter Tryz.func110, Tryz.ntmps110
    go_upto_region 1 with (fail)
    rw [HW0.out]
    have k0 : W0.cell? ⟨w.heap.size, 0, none⟩ = some (.slice pa pl.length pc) := HK0.out.cell 0
    have k1 : W0.cell? ⟨w.heap.size, 1, none⟩ = some (.slice ra rn rc) := HK0.out.cell 1
    go_wp2_with (go_at_call 76; refine (CR.out _).mono ?_; rintro e w' ⟨rfl, rfl⟩)
    all_goals go_ret2
    all_goals exact ⟨.pointer none, by rw [HF.out]; rfl, HX0.out, fun h => by rw [HF.out] at h; cases h⟩
  by_cases h2 : top.length = 4
  case neg =>
    have HF := Lib.hid (show r = false from by rw [HTB.out, decide_eq_false h2]; simp)
    rw [h1] at hlr
    have hne2 : ¬ ((top.length : Int) = 4) := by omega
    have hne3 : ((top.length : Int) != 4) = true := by rw [bne_iff_ne]; exact hne2
    clear h1 h2
    go_enter Tryz.func110, Tryz.ntmps110
    go_upto_region 1 with (fail)
    rw [HW0.out]
    have k0 : W0.cell? ⟨w.heap.size, 0, none⟩ = some (.slice pa pl.length pc) := HK0.out.cell 0
    have k1 : W0.cell? ⟨w.heap.size, 1, none⟩ = some (.slice ra rn rc) := HK0.out.cell 1
    go_wp2_with (go_at_call 76; refine (CR.out _).mono ?_; rintro e w' ⟨rfl, rfl⟩)
    go_ret2
    exact ⟨.pointer none, by rw [HF.out]; rfl, HX0.out, fun h => by rw [HF.out] at h; cases h⟩
  have HRL := Lib.hid h1
  have HT4 := Lib.hid h2
  rw [h1] at hlr
  rw [h2] at hlt
  have HTB2 := Lib.hid (show r = (ascB pl nz && (clbF p k pl rows n 0 n nodes == some (top.map (fof p), []))) from by rw [HTB.out, decide_eq_true h1, decide_eq_true h2, decide_eq_true ⟨hn1, hn2⟩]; simp)
  clear h1 h2 HTB
  go_enter Tryz.func110, Tryz.ntmps110
  go_upto_region 1 with (fail)
  rw [HW0.out]
  have k0 : W0.cell? ⟨w.heap.size, 0, none⟩ = some (.slice pa pl.length pc) := HK0.out.cell 0
  have k1 : W0.cell? ⟨w.heap.size, 1, none⟩ = some (.slice ra rn rc) := HK0.out.cell 1
  go_wp2_with (go_at_call 76; refine (CR.out _).mono ?_; rintro e w' ⟨rfl, rfl⟩)
  generalize w.heap.size = kb at *
  go_loopw [10, 11, 34] (fun _ _ x34 wr => ∃ i : Nat, i ≤ pl.length ∧ x34 = .int .i64 i ∧ Hid (∀ j, j < i → ascAt pl nz j = true) ∧ wr = W0) (fun _ _ x34 _ => pl.length - (intOf x34).toNat)
  case atStart => exact ⟨0, Nat.zero_le _, rfl, Lib.hid (fun j hj => by omega), rfl⟩
  case round =>
    clear k0 k1
    obtain ⟨i, hi, rfl, HI, hwr⟩ := hrel
    subst hwr
    have k0 : wr.cell? ⟨kb, 0, none⟩ = some (.slice pa pl.length pc) := HK0.out.cell 0
    by_cases hil : i < pl.length
    · have hip := HP.out.run_index (P := Tryz.prog) slInts i hil
      have hcp := (HP.out.ext HX0.out).cell i hil
      obtain ⟨y, hy⟩ : ∃ y, nth pl i = y := ⟨_, rfl⟩
      rw [hy] at hcp
      have HYE := Lib.hid hy
      have HIL := Lib.hid hil
      clear hy
      by_cases ha : y < 0
      · have HF := Lib.hid (show r = false from by rw [HTB2.out, ascB_not HIL.out (by unfold ascAt; rw [HYE.out, decide_eq_false (by omega)]; rfl)]; rfl)
        go_wp2_with fail
        go_ret2
        exact ⟨.pointer none, by rw [HF.out]; rfl, HX0.out, fun h => by rw [HF.out] at h; cases h⟩
      by_cases hb : nz ≤ y
      · have HF := Lib.hid (show r = false from by rw [HTB2.out, ascB_not HIL.out (by unfold ascAt; rw [HYE.out, decide_eq_false (by omega)]; rfl)]; rfl)
        go_wp2_with fail
        go_ret2
        exact ⟨.pointer none, by rw [HF.out]; rfl, HX0.out, fun h => by rw [HF.out] at h; cases h⟩
      by_cases hi0 : i = 0
      · have HA := Lib.hid (show ascAt pl nz i = true from by unfold ascAt; rw [HYE.out, decide_eq_true (by omega), hi0]; rfl)
        have HI0 := Lib.hid hi0
        subst hi0
        rw [show ((0 : Nat) : Int) = 0 from rfl] at hip
        go_wp2_with fail
        go_roundw
        case rel => exact ⟨1, by have := HIL.out; omega, by go_num, Lib.hid (fun j hj => by have hj0 : j = 0 := (by omega); rw [hj0]; exact HA.out), trivial⟩
        case measure => have := HIL.out; simp [intOf]; omega
      have hiq := HP.out.run_index (P := Tryz.prog) slInts (i - 1) (by omega)
      have hcq := (HP.out.ext HX0.out).cell (i - 1) (by omega)
      obtain ⟨z, hz⟩ : ∃ z, nth pl (i - 1) = z := ⟨_, rfl⟩
      rw [hz] at hcq
      have HZE := Lib.hid hz
      have hi1 : (0 : Int) < i := by omega
      have hwk : IntKind.i64.wrap ((i : Int) - 1) = (i : Int) - 1 := IntWalk.i64_in _ (by omega)
      rw [show ((i - 1 : Nat) : Int) = (i : Int) - 1 by omega] at hiq
      clear hz
      by_cases hzy : z < y
      · have HA := Lib.hid (show ascAt pl nz i = true from by unfold ascAt; rw [HYE.out, HZE.out, decide_eq_true (by omega), decide_eq_true hzy]; simp)
        go_wp2_with fail
        go_roundw
        case rel => exact ⟨i + 1, by have := HIL.out; omega, by go_num, Lib.hid (fun j hj => by
          rcases Nat.lt_or_eq_of_le (show j ≤ i by omega) with h | rfl
          · exact HI.out j h
          · exact HA.out), trivial⟩
        case measure => have := HIL.out; simp [intOf]; omega
      · have HF := Lib.hid (show r = false from by rw [HTB2.out, ascB_not HIL.out (by unfold ascAt; rw [HYE.out, HZE.out, decide_eq_false hzy]; simp [hi0])]; rfl)
        go_wp2_with fail
        go_ret2
        exact ⟨.pointer none, by rw [HF.out]; rfl, HX0.out, fun h => by rw [HF.out] at h; cases h⟩
    · obtain rfl : i = pl.length := by omega
      have hasc : ascB pl nz = true := ascB_all HI.out
      have HASC := Lib.hid (ascB_asc hasc)
      have HTB3 := Lib.hid (show r = (clbF p k pl rows n 0 n nodes == some (top.map (fof p), [])) from by rw [HTB2.out, hasc]; rfl)
      clear hasc HI hi hil HTB2
      have HXN := Lib.hid (Ext.alloc wr (Obj.cells #[.int .i64 0] 3))
      have HBN := Lib.hid (BlkOf.new wr [.int .i64 0] 3)
      have HQ2 := Lib.hid (World.block_lt_of_cell? wr _ k0)
      go_upto_region 10 with (fail)
      generalize wr.alloc (Obj.cells #[.int .i64 0] 3) = wA at *
      have HXA0 := Lib.hid (HX0.out.trans HXN.out)
      have HQN := Lib.hid (show w.heap.size ≤ wr.heap.size from HX0.out.size)
      generalize wr.heap.size = nb at *
      have hkeep : ∀ W W', W.grownBy W' (some nb) → Ints W (.slice pa pl.length pc) pl → Ints W' (.slice pa pl.length pc) pl := fun W W' hg h => by
        by_cases h0 : pl.length = 0
        · obtain ⟨ao, cap, e1, e2, e3, e4, e5⟩ := h
          exact ⟨ao, cap, e1, e2, e3, e4, fun i hi => by simp at hi; omega⟩
        · refine h.grown hg (fun q hq e => ?_)
          have := ints_blk HP.out (by omega) hq
          have := Option.some.inj e
          have := HQN.out
          omega
      have CH := Lib.hid (fun W (hI : Ints W (.slice pa pl.length pc) pl) (hB : BlkOf W nb [.int .i64 0] 3) => by
        have := hiddenN_any HASC.out.le hpl hkeep n n 0 hn1 (Nat.le_refl _) (by omega) W 0 hI hB (by omega)
        rw [show ((0 : Nat) : Int) = 0 from rfl, Int.zero_add, HNZ.out, Nat.zero_add] at this
        exact this)
      obtain ⟨nd, hnd⟩ : ∃ nd, hidN pl n 0 n = nd := ⟨_, rfl⟩
      rw [hnd] at CH
      have HND := Lib.hid hnd
      have k0' : wA.cell? ⟨kb, 0, none⟩ = some (.slice pa pl.length pc) := HXN.out.cell k0
      clear hkeep hnd k0
      go_upto_region 11 with (go_at_call 89; refine (CH.out _ (HP.out.ext HXA0.out) HBN.out).mono ?_; rintro e wB ⟨rfl, hgB, hbB⟩; have HGB := Lib.hid hgB; have HBB := Lib.hid hbB; clear hgB hbB k0')
      have HXB := Lib.hid (show Ext w wB from Below.grown HXA0.out.below HGB.out HXA0.out.size (fun q e => by cases e; exact HQN.out))
      have HKB := Lib.hid ((HK0.out.ext HXN.out).grown HGB.out (fun e => by have := Option.some.inj e; have := HQ2.out; omega))
      have k2 : wB.cell? ⟨kb, 2, none⟩ = some (.slice na nodes.length nc) := HKB.out.cell 2
      have n0 : wB.cell? ⟨nb, 0, none⟩ = some (.int .i64 (nd : Int)) := HBB.out.cell 0
      by_cases hc1 : nodes.length = nd
      case neg =>
        have HF := Lib.hid (show r = false from by rw [HTB3.out, clbF_not (.inl (by rw [HND.out]; exact hc1))])
        have hne : ¬ ((nodes.length : Int) = (nd : Int)) := by omega
        have hnf : ((nodes.length : Int) != (nd : Int)) = true := by rw [bne_iff_ne]; exact hne
        clear hc1
        go_wp2_with fail
        go_ret2
        exact ⟨.pointer none, by rw [HF.out]; rfl, HXB.out, fun h => by rw [HF.out] at h; cases h⟩
      have CC := Lib.hid (fun W (hx : Ext w W) => contains0_any (HN.out.ext hx) 144 (fun l => decide (l.length ≠ 4)) fol2_enter (fun W' i hx' hi => fol2_any (((HN.out.row i hi).ext hx).ext hx')))
      cases hc2 : nodes.any (fun l => decide (l.length ≠ 4)) with
      | true =>
        have HF := Lib.hid (show r = false from by rw [HTB3.out, clbF_not (.inr hc2)])
        rw [hc2] at CC
        subst hc1
        clear hc2
        go_wp2_with (go_at_call 60; refine (CC.out _ HXB.out).mono ?_; rintro e wC ⟨rfl, mC, rfl⟩)
        go_ret2
        exact ⟨.pointer none, by rw [HF.out]; rfl, HXB.out.trans (Ext.drewN _ _), fun h => by rw [HF.out] at h; cases h⟩
      | false =>
        rw [hc2] at CC
        have hall4 : ∀ d ∈ nodes, d.length = 4 := fun d hd => by
          have := List.any_eq_false.1 hc2 d hd
          simpa using this
        have HALL := Lib.hid hall4
        obtain ⟨dg, hdg⟩ := clbF_some (p := p) (k := k) (pl := pl) (rows := rows) (f := n) (a := 0) (n := n) (nodes := nodes) hn1 (Nat.le_refl _) (by rw [HND.out]; omega) hall4
        have HDG := Lib.hid hdg
        have hdr : nodes.drop (hidN pl n 0 n) = [] := List.drop_of_length_le (by rw [HND.out]; omega)
        rw [hdr] at hdg
        have HRE := Lib.hid (show r = decide (dg = top.map (fof p)) from by rw [HTB3.out, hdg, Bool.eq_iff_iff]; simp)
        have hdl := clbF_len hdg
        have HDL := Lib.hid hdl
        have HCNT := Lib.hid (show hidN pl n 0 n ≤ nodes.length from by rw [HND.out]; omega)
        subst hc1
        clear hc2 hall4 hdg hdr hdl HTB3
        go_upto_region 13 with (go_at_call 60; refine (CC.out _ HXB.out).mono ?_; rintro e wC ⟨rfl, mC, rfl⟩)
        have HXC := Lib.hid (HXB.out.trans (Ext.drewN wB mC))
        have HKC := Lib.hid (HKB.out.ext (Ext.drewN wB mC))
        clear k2 n0
        generalize wB.drewN mC = wC at *
        have HM0 := Lib.hid (Mpv.made (P := Tryz.prog) (K := 127) wC)
        have HX1 := Lib.hid (Ext.alloc wC (.map #[] 0))
        have HM1 := Lib.hid (Mpv.made (P := Tryz.prog) (K := 127) (wC.alloc (.map #[] 0)))
        have HX2 := Lib.hid (Ext.alloc (wC.alloc (.map #[] 0)) (.map #[] 0))
        have HBW := Lib.hid (BlkOf.new ((wC.alloc (.map #[] 0)).alloc (.map #[] 0)) [.map (some wC.heap.size), .map (some (wC.heap.size + 1))] 180)
        have HX3 := Lib.hid (Ext.alloc ((wC.alloc (.map #[] 0)).alloc (.map #[] 0)) (Obj.cells #[.map (some wC.heap.size), .map (some (wC.heap.size + 1))] 180))
        have hs1 : (wC.alloc (.map #[] 0)).heap.size = wC.heap.size + 1 := Array.size_push _
        have hs2 : ((wC.alloc (.map #[] 0)).alloc (.map #[] 0)).heap.size = wC.heap.size + 1 + 1 := by rw [World.size_alloc, hs1]
        rw [hs1] at HM1
        rw [hs2] at HBW
        clear hs1 hs2
        have HSZ := Lib.hid HXC.out.size
        have hmm := @run_makeMap Tryz.prog
        go_upto_region 14 with (fail)
        clear hmm
        have hWAY : WayAt (((wC.alloc (.map #[] 0)).alloc (.map #[] 0)).alloc (Obj.cells #[.map (some wC.heap.size), .map (some (wC.heap.size + 1))] 180)) (wC.heap.size + 1 + 1) wC.heap.size (wC.heap.size + 1) 0 (fun _ _ => none) (fun _ _ => none) :=
          ⟨HBW.out, ((HM0.out.ext HX2.out).ext HX3.out).congr (fun key l _ => grpM_none key), ⟨fun _ _ => none, (HM1.out.ext HX3.out).congr (fun key l _ => grpM_none key), fun _ _ => .inl ⟨rfl, rfl⟩⟩, by omega, by omega, by omega⟩
        have HWAY := Lib.hid hWAY
        have HXD := Lib.hid (HXC.out.trans (HX1.out.trans (HX2.out.trans HX3.out)))
        have HKD := Lib.hid (((HKC.out.ext HX1.out).ext HX2.out).ext HX3.out)
        clear hWAY HM0 HM1 HBW HX1 HX2 HX3
        generalize ((wC.alloc (.map #[] 0)).alloc (.map #[] 0)).alloc (Obj.cells #[.map (some wC.heap.size), .map (some (wC.heap.size + 1))] 180) = wD at *
        obtain ⟨wb, hwb⟩ : ∃ wb, wC.heap.size + 1 + 1 = wb := ⟨_, rfl⟩
        obtain ⟨lb, hlb⟩ : ∃ lb, wC.heap.size + 1 = lb := ⟨_, rfl⟩
        obtain ⟨mb, hmb⟩ : ∃ mb, wC.heap.size = mb := ⟨_, rfl⟩
        have HMB := Lib.hid (show w.heap.size ≤ mb ∧ w.heap.size ≤ lb ∧ kb < mb ∧ kb < lb from by have := HSZ.out; have := HQ2.out; have h9 := HKC.out.lt; omega)
        rw [hwb, hlb, hmb] at HWAY ⊢
        clear hwb hlb hmb
        have CW := Lib.hid (by
          have := work_any (w0 := w) (nvo := .slice na nodes.length nc) HS.out HP.out HR.out HASC.out hpl HRL.out HRW.out HMB.out.1 HMB.out.2.1 n n 0 hn1 (Nat.le_refl _) (by omega) wD (.slice na nodes.length nc) nodes NR 0 _ _ HXD.out HWAY.out HN.out HCNT.out HALL.out (by omega) (fun _ _ _ _ _ => rfl)
          rw [show ((0 : Nat) : Int) = 0 from rfl, Int.zero_add, HNZ.out] at this
          exact this)
        have k0 : wD.cell? ⟨kb, 0, none⟩ = some (.slice pa pl.length pc) := HKD.out.cell 0
        have k1 : wD.cell? ⟨kb, 1, none⟩ = some (.slice ra rn rc) := HKD.out.cell 1
        have k2 : wD.cell? ⟨kb, 2, none⟩ = some (.slice na nodes.length nc) := HKD.out.cell 2
        go_upto_region 15 with (go_at_call 145; refine CW.out.mono ?_; rintro e wE ⟨uE, NRE, DE, LE, rfl, -, hTE, hwE, hkE, -⟩; have HTE := Lib.hid hTE; have HWE := Lib.hid hwE; have HKE := Lib.hid hkE; clear hTE hwE hkE k0 k1 k2)
        have HXA := Lib.hid (HTE.out.ext HXD.out HMB.out.1 HMB.out.2.1)
        obtain ⟨d1, r1, hd1, hd2⟩ := HKE.out.dig
        rw [HDG.out] at hd1
        obtain ⟨rfl, -⟩ := Prod.mk.inj (Option.some.inj hd1)
        rw [show ((0 : Nat) : Int) = 0 from rfl, Int.zero_add, HNZ.out] at hd2
        obtain ⟨sb, bf, rt, g, fs, he, hsp, hf, -⟩ := HS.out
        obtain rfl : bs = sb := by simpa using he
        have HF := Lib.hid hf
        have sc := HXA.out.cell hsp.c0
        have hdl2 : (top.map (fof p)).length = 4 := by rw [List.length_map]; exact HT4.out
        have HDL2 := Lib.hid hdl2
        obtain ⟨x0, hx0⟩ : ∃ y, nth dg 0 = y := ⟨_, rfl⟩
        obtain ⟨x1, hx1⟩ : ∃ y, nth dg 1 = y := ⟨_, rfl⟩
        obtain ⟨x2, hx2⟩ : ∃ y, nth dg 2 = y := ⟨_, rfl⟩
        obtain ⟨x3, hx3⟩ : ∃ y, nth dg 3 = y := ⟨_, rfl⟩
        obtain ⟨y0, hy0⟩ : ∃ y, nth (top.map (fof p)) 0 = y := ⟨_, rfl⟩
        obtain ⟨y1, hy1⟩ : ∃ y, nth (top.map (fof p)) 1 = y := ⟨_, rfl⟩
        obtain ⟨y2, hy2⟩ : ∃ y, nth (top.map (fof p)) 2 = y := ⟨_, rfl⟩
        obtain ⟨y3, hy3⟩ : ∃ y, nth (top.map (fof p)) 3 = y := ⟨_, rfl⟩
        have HRQ := Lib.hid (show (x0 == y0 && (x1 == y1 && (x2 == y2 && x3 == y3))) = r from by
          rw [HRE.out, Bool.eq_iff_iff]
          simp only [Bool.and_eq_true, beq_iff_eq, decide_eq_true_eq]
          constructor
          · rintro ⟨e0, e1, e2, e3⟩
            refine digV_inj ?_
            rw [digV_four HDL.out, digV_four hdl2, hx0, hx1, hx2, hx3, hy0, hy1, hy2, hy3, e0, e1, e2, e3]
          · intro e
            rw [← hx0, ← hx1, ← hx2, ← hx3, ← hy0, ← hy1, ← hy2, ← hy3, e]
            exact ⟨rfl, rfl, rfl, rfl⟩)
        have LK : Hid (∀ W, Ext wE W → (Instr.lookup 177 (.map (some mb)) (.agg #[.int .i64 0, .int .i64 nz]) false).run Tryz.prog W = .ok (.agg #[.int .i64 x0, .int .i64 x1, .int .i64 x2, .int .i64 x3]) W) := Lib.hid fun W hx => by
          have := (HWE.out.ext hx).look (by unfold Wf64; omega) (by unfold Wf64; omega) hd2
          rw [digV_four HDL.out, hx0, hx1, hx2, hx3] at this; exact this
        have HY0 := Lib.hid hy0; have HY1 := Lib.hid hy1; have HY2 := Lib.hid hy2; have HY3 := Lib.hid hy3
        have m0 : wE.cell? ⟨wb, 0, none⟩ = some (.map (some mb)) := HWE.out.blk.cell 0
        replace HDL := HDL2
        have HML := Lib.hid (show mb < wE.heap.size ∧ lb < wE.heap.size from ⟨HWE.out.dig.lt, let ⟨LV, h1, _⟩ := HWE.out.lst; h1.lt⟩)
        clear hd1 hd2 he hsp hf hdl2 hx0 hx1 hx2 hx3 hy0 hy1 hy2 hy3 HDL2
        refine wp_region_mark 17 rfl (phiM (mb := mb) (lb := lb) [SM.eq (.pointer (some ⟨wb, 0, none⟩)), SM.eq (.pointer (some ⟨wb, 0, none⟩)), SM.eq (.pointer (some ⟨wb, 0, none⟩)), SM.eq (.pointer (some ⟨wb, 0, none⟩)), SM.eq (.map (some mb)), SM.eq (.int .i64 nz), SM.eq (.agg #[.int .i64 0, .int .i64 nz]), SM.eq (.agg #[.int .i64 x0, .int .i64 x1, .int .i64 x2, .int .i64 x3]), SM.eq (.pointer (some ⟨bs, 0, none⟩)), SM.eq (.pointer (some ⟨bf, 0, none⟩)), SM.eq tv, SM.ints (top.map (fof p)), SM.arr (top.map (fof p)), SM.eq (.agg #[.int .i64 y0, .int .i64 y1, .int .i64 y2, .int .i64 y3]), SM.eq (.bool r), SM.eq (.pointer (some ⟨wb, 0, none⟩)), SM.eq (.bool r)]) [] (fun _ _ W => Ext wE W) (fun _ _ => False) (by kernel_rfl) (by kernel_rfl) (by kernel_rfl) (fun j _ u W W' hu hg => phiM_stab _ j none (.inl rfl) u W W' hu (hg.resolve_right id)) (fun j hj => by simp at hj) (fun s s' vs vs' W W' h hg _ _ => h.trans (ext_none hg)) (Ext.drew _) rfl ?_ ?_
        · refine ⟨?_, ?_, ?_, ?_, ?_, ?_, ?_, ?_, ?_, ?_, ?_, ?_, ?_, ?_, ?_, ?_, ?_, trivial⟩
          · refine bifF rfl (FreeStep.mk rfl fun vs W hk hd => ?_)
            clear hd
            obtain ⟨-, -, hx⟩ := hk
            simp only [fillA, fillL, dstL, List.take_succ_cons, List.take_zero, List.filterMap_cons, List.filterMap_nil, List.contains_cons, List.contains_nil, Nat.reduceAdd, Nat.zero_add, Nat.reduceBEq, Bool.or_false, Bool.or_true, Bool.false_eq_true, ↓reduceIte]
            go_wp2_with fail
            exact ⟨by trivial, World.grownBy.refl _ _, rfl⟩
          · refine bifF rfl (FreeStep.mk rfl fun vs W hk hd => ?_)
            clear hd
            obtain ⟨-, -, hx⟩ := hk
            simp only [fillA, fillL, dstL, List.take_succ_cons, List.take_zero, List.filterMap_cons, List.filterMap_nil, List.contains_cons, List.contains_nil, Nat.reduceAdd, Nat.zero_add, Nat.reduceBEq, Bool.or_false, Bool.or_true, Bool.false_eq_true, ↓reduceIte]
            go_wp2_with fail
            exact ⟨by trivial, World.grownBy.refl _ _, rfl⟩
          · refine bifF rfl (FreeStep.mk rfl fun vs W hk hd => ?_)
            have e90 : vs 90 = (.pointer (some ⟨wb, 0, none⟩)) := hd 1 (by kernel_rfl)
            clear hd
            obtain ⟨-, -, hx⟩ := hk
            simp only [fillA, fillL, dstL, List.take_succ_cons, List.take_zero, List.filterMap_cons, List.filterMap_nil, List.contains_cons, List.contains_nil, Nat.reduceAdd, Nat.zero_add, Nat.reduceBEq, Bool.or_false, Bool.or_true, Bool.false_eq_true, ↓reduceIte]
            rw [e90]
            go_wp2_with fail
            exact ⟨by trivial, World.grownBy.refl _ _, rfl⟩
          · refine bifF rfl (FreeStep.mk rfl fun vs W hk hd => ?_)
            have e91 : vs 91 = (.pointer (some ⟨wb, 0, none⟩)) := hd 2 (by kernel_rfl)
            clear hd
            obtain ⟨-, -, hx⟩ := hk
            simp only [fillA, fillL, dstL, List.take_succ_cons, List.take_zero, List.filterMap_cons, List.filterMap_nil, List.contains_cons, List.contains_nil, Nat.reduceAdd, Nat.zero_add, Nat.reduceBEq, Bool.or_false, Bool.or_true, Bool.false_eq_true, ↓reduceIte]
            rw [e91]
            go_wp2_with fail
            exact ⟨by trivial, World.grownBy.refl _ _, rfl⟩
          · refine bifF rfl (FreeStep.mk rfl fun vs W hk hd => ?_)
            have e92 : vs 92 = (.pointer (some ⟨wb, 0, none⟩)) := hd 3 (by kernel_rfl)
            clear hd
            obtain ⟨-, -, hx⟩ := hk
            simp only [fillA, fillL, dstL, List.take_succ_cons, List.take_zero, List.filterMap_cons, List.filterMap_nil, List.contains_cons, List.contains_nil, Nat.reduceAdd, Nat.zero_add, Nat.reduceBEq, Bool.or_false, Bool.or_true, Bool.false_eq_true, ↓reduceIte]
            rw [e92]
            have hk := hx.cell m0
            go_wp2_with fail
            exact ⟨by trivial, World.grownBy.refl _ _, rfl⟩
          · refine bifF rfl (FreeStep.mk rfl fun vs W hk hd => ?_)
            clear hd
            obtain ⟨-, -, hx⟩ := hk
            simp only [fillA, fillL, dstL, List.take_succ_cons, List.take_zero, List.filterMap_cons, List.filterMap_nil, List.contains_cons, List.contains_nil, Nat.reduceAdd, Nat.zero_add, Nat.reduceBEq, Bool.or_false, Bool.or_true, Bool.false_eq_true, ↓reduceIte]
            go_wp2_with fail
            exact ⟨by trivial, World.grownBy.refl _ _, rfl⟩
          · refine bifF rfl (FreeStep.mk rfl fun vs W hk hd => ?_)
            have e94 : vs 94 = (.int .i64 nz) := hd 5 (by kernel_rfl)
            clear hd
            obtain ⟨-, -, hx⟩ := hk
            simp only [fillA, fillL, dstL, List.take_succ_cons, List.take_zero, List.filterMap_cons, List.filterMap_nil, List.contains_cons, List.contains_nil, Nat.reduceAdd, Nat.zero_add, Nat.reduceBEq, Bool.or_false, Bool.or_true, Bool.false_eq_true, ↓reduceIte]
            rw [e94]
            go_wp2_with fail
            exact ⟨by trivial, World.grownBy.refl _ _, rfl⟩
          · refine bifF rfl (FreeStep.mk rfl fun vs W hk hd => ?_)
            have e93 : vs 93 = (.map (some mb)) := hd 4 (by kernel_rfl)
            have e95 : vs 95 = (.agg #[.int .i64 0, .int .i64 nz]) := hd 6 (by kernel_rfl)
            clear hd
            obtain ⟨-, -, hx⟩ := hk
            simp only [fillA, fillL, dstL, List.take_succ_cons, List.take_zero, List.filterMap_cons, List.filterMap_nil, List.contains_cons, List.contains_nil, Nat.reduceAdd, Nat.zero_add, Nat.reduceBEq, Bool.or_false, Bool.or_true, Bool.false_eq_true, ↓reduceIte]
            rw [e93, e95]
            have hl := LK.out W hx
            go_wp2_with fail
            exact ⟨by trivial, World.grownBy.refl _ _, rfl⟩
          · refine bifF rfl (FreeStep.mk rfl fun vs W hk hd => ?_)
            clear hd
            obtain ⟨-, -, hx⟩ := hk
            simp only [fillA, fillL, dstL, List.take_succ_cons, List.take_zero, List.filterMap_cons, List.filterMap_nil, List.contains_cons, List.contains_nil, Nat.reduceAdd, Nat.zero_add, Nat.reduceBEq, Bool.or_false, Bool.or_true, Bool.false_eq_true, ↓reduceIte]
            go_wp2_with fail
            exact ⟨by trivial, World.grownBy.refl _ _, rfl⟩
          · refine bifF rfl (FreeStep.mk rfl fun vs W hk hd => ?_)
            have e97 : vs 97 = (.pointer (some ⟨bs, 0, none⟩)) := hd 8 (by kernel_rfl)
            clear hd
            obtain ⟨-, -, hx⟩ := hk
            simp only [fillA, fillL, dstL, List.take_succ_cons, List.take_zero, List.filterMap_cons, List.filterMap_nil, List.contains_cons, List.contains_nil, Nat.reduceAdd, Nat.zero_add, Nat.reduceBEq, Bool.or_false, Bool.or_true, Bool.false_eq_true, ↓reduceIte]
            rw [e97]
            go_wp2_with (go_at_call 18; refine (sfieldof_any (hx.cell sc)).mono ?_; rintro e w3 ⟨rfl, rfl⟩)
            exact ⟨by trivial, World.grownBy.refl _ _, rfl⟩
          · refine bifF rfl (FreeStep.mk rfl fun vs W hk hd => ?_)
            clear hd
            obtain ⟨-, -, hx⟩ := hk
            simp only [fillA, fillL, dstL, List.take_succ_cons, List.take_zero, List.filterMap_cons, List.filterMap_nil, List.contains_cons, List.contains_nil, Nat.reduceAdd, Nat.zero_add, Nat.reduceBEq, Bool.or_false, Bool.or_true, Bool.false_eq_true, ↓reduceIte]
            go_wp2_with fail
            exact ⟨by trivial, World.grownBy.refl _ _, rfl⟩
          · refine bifF rfl (FreeStep.mk rfl fun vs W hk hd => ?_)
            have e98 : vs 98 = (.pointer (some ⟨bf, 0, none⟩)) := hd 9 (by kernel_rfl)
            have e99 : vs 99 = tv := hd 10 (by kernel_rfl)
            clear hd
            obtain ⟨-, -, hx⟩ := hk
            simp only [fillA, fillL, dstL, List.take_succ_cons, List.take_zero, List.filterMap_cons, List.filterMap_nil, List.contains_cons, List.contains_nil, Nat.reduceAdd, Nat.zero_add, Nat.reduceBEq, Bool.or_false, Bool.or_true, Bool.false_eq_true, ↓reduceIte]
            rw [e98, e99]
            go_wp2_with (go_at_call 88; refine (elements_any (HF.out.ext (HXA.out.trans hx)) (HT.out.ext (HXA.out.trans hx)) (by have := HT4.out; omega)).mono ?_; rintro e w3 ⟨v3, rfl, hx3, ho3⟩)
            exact ⟨by trivial, hx3.grownBy none, Ints.of_own ho3, fun q hq => by have h1 := (ho3.lt q hq).1; have h2 := hx.size; have h3 := HML.out; omega⟩
          · refine bifF rfl (FreeStep.mk rfl fun vs W hk hd => ?_)
            have h100 : Ints W (vs 100) (top.map (fof p)) ∧ ∀ q, (vs 100).ownBlock = some q → q ≠ lb ∧ q ≠ mb := hd 11 (by kernel_rfl)
            clear hd
            obtain ⟨-, -, hx⟩ := hk
            simp only [fillA, fillL, dstL, List.take_succ_cons, List.take_zero, List.filterMap_cons, List.filterMap_nil, List.contains_cons, List.contains_nil, Nat.reduceAdd, Nat.zero_add, Nat.reduceBEq, Bool.or_false, Bool.or_true, Bool.false_eq_true, ↓reduceIte]
            obtain ⟨h100, hne100⟩ := h100
            obtain ⟨aq, af, ac, ae, acl⟩ := arr_of h100 (by rw [HDL.out]; omega)
            rw [ae] at hne100
            rw [ae, HDL.out]
            have har := run_arr4 aq af ac W
            go_wp2_with fail
            exact ⟨by trivial, World.grownBy.refl _ _, ⟨aq, af, rfl, hne100 aq (by rfl), acl⟩⟩
          · refine bifF rfl (FreeStep.mk rfl fun vs W hk hd => ?_)
            have h101 : ∃ q off, vs 101 = .pointer (some ⟨q, off, none⟩) ∧ (q ≠ lb ∧ q ≠ mb) ∧ ∀ i, i < (top.map (fof p)).length → W.cell? ⟨q, off + i, none⟩ = some (.int .i64 (nth (top.map (fof p)) i)) := hd 12 (by kernel_rfl)
            clear hd
            obtain ⟨-, -, hx⟩ := hk
            simp only [fillA, fillL, dstL, List.take_succ_cons, List.take_zero, List.filterMap_cons, List.filterMap_nil, List.contains_cons, List.contains_nil, Nat.reduceAdd, Nat.zero_add, Nat.reduceBEq, Bool.or_false, Bool.or_true, Bool.false_eq_true, ↓reduceIte]
            obtain ⟨aq, af, ae, -, acl⟩ := h101
            have ac0 := acl 0 (by rw [HDL.out]; omega)
            have ac1 := acl 1 (by rw [HDL.out]; omega)
            have ac2 := acl 2 (by rw [HDL.out]; omega)
            have ac3 := acl 3 (by rw [HDL.out]; omega)
            rw [HY0.out] at ac0
            rw [HY1.out] at ac1
            rw [HY2.out] at ac2
            rw [HY3.out] at ac3
            rw [Nat.add_zero] at ac0
            rw [ae]
            clear acl
            go_wp2_with fail
            exact ⟨by trivial, World.grownBy.refl _ _, rfl⟩
          · refine bifF rfl (FreeStep.mk rfl fun vs W hk hd => ?_)
            have e96 : vs 96 = (.agg #[.int .i64 x0, .int .i64 x1, .int .i64 x2, .int .i64 x3]) := hd 7 (by kernel_rfl)
            have e102 : vs 102 = (.agg #[.int .i64 y0, .int .i64 y1, .int .i64 y2, .int .i64 y3]) := hd 13 (by kernel_rfl)
            clear hd
            obtain ⟨-, -, hx⟩ := hk
            simp only [fillA, fillL, dstL, List.take_succ_cons, List.take_zero, List.filterMap_cons, List.filterMap_nil, List.contains_cons, List.contains_nil, Nat.reduceAdd, Nat.zero_add, Nat.reduceBEq, Bool.or_false, Bool.or_true, Bool.false_eq_true, ↓reduceIte]
            rw [e96, e102]
            have heq := run_eq_arr4 x0 x1 x2 x3 y0 y1 y2 y3
            rw [HRQ.out] at heq
            go_wp2_with fail
            exact ⟨by trivial, World.grownBy.refl _ _, rfl⟩
          · refine bifF rfl (FreeStep.mk rfl fun vs W hk hd => ?_)
            have e89 : vs 89 = (.pointer (some ⟨wb, 0, none⟩)) := hd 0 (by kernel_rfl)
            clear hd
            obtain ⟨-, -, hx⟩ := hk
            simp only [fillA, fillL, dstL, List.take_succ_cons, List.take_zero, List.filterMap_cons, List.filterMap_nil, List.contains_cons, List.contains_nil, Nat.reduceAdd, Nat.zero_add, Nat.reduceBEq, Bool.or_false, Bool.or_true, Bool.false_eq_true, ↓reduceIte]
            rw [e89]
            go_wp2_with fail
            exact ⟨by trivial, World.grownBy.refl _ _, rfl⟩
          · refine bifF rfl (FreeStep.mk rfl fun vs W hk hd => ?_)
            have e103 : vs 103 = (.bool r) := hd 14 (by kernel_rfl)
            clear hd
            obtain ⟨-, -, hx⟩ := hk
            simp only [fillA, fillL, dstL, List.take_succ_cons, List.take_zero, List.filterMap_cons, List.filterMap_nil, List.contains_cons, List.contains_nil, Nat.reduceAdd, Nat.zero_add, Nat.reduceBEq, Bool.or_false, Bool.or_true, Bool.false_eq_true, ↓reduceIte]
            rw [e103]
            go_wp2_with fail
            exact ⟨by trivial, World.grownBy.refl _ _, rfl⟩
        · intro s vs w5 hall _ hx5
          have e8 : vs 8 = (.pointer (some ⟨wb, 0, none⟩)) := hall.at 15 (by omega) rfl
          have e9 : vs 9 = (.bool r) := hall.at 16 (by omega) rfl
          clear hall
          simp only [fillA, fillL, dstL, List.take_succ_cons, List.take_zero, List.filterMap_cons, List.filterMap_nil, List.contains_cons, List.contains_nil, Nat.reduceAdd, Nat.zero_add, Nat.reduceBEq, Bool.or_false, Bool.or_true, Bool.false_eq_true, ↓reduceIte]
          rw [e8, e9]
          have HX5 := Lib.hid hx5
          clear hx5 sc m0
          go_wp2_with fail
          go_ret2
          exact ⟨_, rfl, HXA.out.trans HX5.out, fun _ => ⟨wb, mb, lb, _, DE, LE, rfl, HWE.out.ext HX5.out, HKE.out⟩⟩
end
end Go.Proofs.YtfepefbehgbjpaaGreatDoor
