/- Whether an opening shows rows of a tree, the document's side: attestref3.Check: contract. -/
import Derived.Test.YtcpnidomdkaefaaGreatDoorZx19
namespace Go.Proofs.YtcpnidomdkaefaaGreatDoor
open Go.RowKit Go.Att
set_option maxRecDepth 100000 in
set_option maxHeartbeats 8000000 in
theorem rtcheck_any {w : World} {p : Int} {k : Nat} {tv pv rv nv : Value} {top pl : List Int} {rows nodes : List (List Int)} {RR NR : Nat → Value} (h23 : 23 ≤ p) (hp2 : p ≤ 2147483647) (hk : IsPw p k) (ht : Ints w tv top) (hp : Ints w pv pl) (hr : RwsAt w rv rows RR) (hn : RwsAt w nv nodes NR) (hrw : ∀ i, i < rows.length → (nthL rows i).length ≤ 1048575000) (n : Nat) (hn1 : 1 ≤ n) (hn2 : n ≤ 65536) :
    Calls Tryz.prog 105 #[.int .i64 p, tv, .int .i64 n, pv, rv, nv] w fun e w' => e = .returned (.bool (treeB p k top n pl rows nodes)) ∧ Ext w w' := by
  have hlt := ht.run_len (P := Tryz.prog) slInts
  have hlp := hp.run_len (P := Tryz.prog) slInts
  have hlr := hr.run_len (P := Tryz.prog) slRows
  have hln := hn.run_len (P := Tryz.prog) slRows
  have htl := ht.len
  have hpl := hp.len
  have hrl := hr.len
  have hnl := hn.len
  have HK := Lib.hid hk; have HT := Lib.hid ht; have HP := Lib.hid hp; have HR := Lib.hid hr; have HN := Lib.hid hn; have HRW := Lib.hid hrw
  have HTB := Lib.hid (show treeB p k top n pl rows nodes = (decide (1 ≤ n ∧ n ≤ 65536) && decide (top.length = 4) && decide (rows.length = pl.length) && ascB pl n && (clbF p k pl rows n 0 n nodes == some (top.map (fof p), []))) from rfl)
  obtain ⟨r, hrr⟩ : ∃ r, treeB p k top n pl rows nodes = r := ⟨_, rfl⟩
  rw [hrr] at HTB ⊢
  clear hk ht hp hr hn hrw hrr
  obtain ⟨pa, pc, rfl⟩ := HP.out.shape
  obtain ⟨ra, rc, hre⟩ := HR.out.shape
  obtain ⟨rn, hrn⟩ : ∃ rn, rows.length = rn := ⟨_, rfl⟩
  rw [hrn] at hre
  subst hre
  clear hrn
  obtain ⟨na, nc, rfl⟩ := HN.out.shape
  obtain ⟨nz, hnz⟩ : ∃ nz : Int, (n : Int) = nz := ⟨_, rfl⟩
  have hni : 1 ≤ nz := by omega
  have hni2 : nz ≤ 65536 := by omega
  rw [hnz] at HTB ⊢
  have HNZ := Lib.hid hnz
  clear hnz
  by_cases h1 : rows.length = pl.length
  case neg =>
    have HF := Lib.hid (show r = false from by rw [HTB.out, decide_eq_false h1]; simp)
    have hne : ¬ ((rows.length : Int) = (pl.length : Int)) := by omega
    clear h1
    go_enter Tryz.func105, Tryz.ntmps105
    go_wp2_with fail
    go_ret
    exact ⟨by rw [HF.out]; trivial, Ext.refl _⟩
  by_cases h2 : top.length = 4
  case neg =>
    have HF := Lib.hid (show r = false from by rw [HTB.out, decide_eq_false h2]; simp)
    rw [h1] at hlr
    have hne2 : ¬ ((top.length : Int) = 4) := by omega
    have hne3 : ((top.length : Int) != 4) = true := by rw [bne_iff_ne]; exact hne2
    clear h1 h2
    go_enter Tryz.func105, Tryz.ntmps105
    go_wp2_with fail
    go_ret
    exact ⟨by rw [HF.out]; trivial, Ext.refl _⟩
  have HRL := Lib.hid h1
  rw [h1] at hlr
  rw [h2] at hlt
  have HTB2 := Lib.hid (show r = (ascB pl nz && (clbF p k pl rows n 0 n nodes == some (top.map (fof p), []))) from by rw [HTB.out, decide_eq_true h1, decide_eq_true h2, decide_eq_true ⟨hn1, hn2⟩]; simp)
  clear h1 h2 HTB
  go_enter Tryz.func105, Tryz.ntmps105
  go_wp2_with fail
  go_loopw [13] (fun x13 wr => ∃ i : Nat, i ≤ pl.length ∧ x13 = .int .i64 i ∧ Hid (∀ j, j < i → ascAt pl nz j = true) ∧ Hid (Ext w wr)) (fun x13 _ => pl.length - (intOf x13).toNat)
  case atStart => exact ⟨0, Nat.zero_le _, rfl, Lib.hid (fun j hj => by omega), Lib.hid (Ext.refl _)⟩
  case round =>
    obtain ⟨i, hi, rfl, HI, HX⟩ := hrel
    by_cases hil : i < pl.length
    · have hip := HP.out.run_index (P := Tryz.prog) slInts i hil
      have hcp := (HP.out.ext HX.out).cell i hil
      obtain ⟨y, hy⟩ : ∃ y, nth pl i = y := ⟨_, rfl⟩
      rw [hy] at hcp
      have HYE := Lib.hid hy
      have HIL := Lib.hid hil
      clear hy
      by_cases ha : y < 0
      · have HF := Lib.hid (show r = false from by rw [HTB2.out, ascB_not HIL.out (by unfold ascAt; rw [HYE.out, decide_eq_false (by omega)]; rfl)]; rfl)
        go_wp2_with fail
        go_quiet (fail)
        go_wp2_with fail
        go_ret
        exact ⟨by rw [HF.out]; trivial, HX.out.trans (Ext.drewN _ _)⟩
      by_cases hb : nz ≤ y
      · have HF := Lib.hid (show r = false from by rw [HTB2.out, ascB_not HIL.out (by unfold ascAt; rw [HYE.out, decide_eq_false (by omega)]; rfl)]; rfl)
        go_wp2_with fail
        obtain ⟨ia, hia⟩ : ∃ a, elt (.slice pa pl.length pc) i 1 = a := ⟨_, rfl⟩
        obtain ⟨ii, hii⟩ : ∃ z : Int, (i : Int) = z := ⟨_, rfl⟩
        rw [hia] at hip hcp
        rw [hii] at hip ⊢
        have HII := Lib.hid hii
        have hd : decide (nz ≤ y) = true := decide_eq_true hb
        have hd0 : decide (y < 0) = false := decide_eq_false (by omega)
        clear hia hii hil hb ha hni hni2 hi
        go_quiet (fail)
        obtain rfl := HII.out
        have hil := HIL.out
        go_wp2_with fail
        go_ret
        exact ⟨by rw [HF.out]; trivial, HX.out.trans (Ext.drewN _ _)⟩
      by_cases hi0 : i = 0
      · have HA := Lib.hid (show ascAt pl nz i = true from by unfold ascAt; rw [HYE.out, decide_eq_true (by omega), hi0]; rfl)
        have HI0 := Lib.hid hi0
        clear hi0
        go_wp2_with fail
        have hi1 : ¬ ((0 : Int) < i) := by have := HI0.out; omega
        obtain ⟨ia, hia⟩ : ∃ a, elt (.slice pa pl.length pc) i 1 = a := ⟨_, rfl⟩
        obtain ⟨ii, hii⟩ : ∃ z : Int, (i : Int) = z := ⟨_, rfl⟩
        rw [hia] at hip hcp
        rw [hii] at hip hi1 ⊢
        have HII := Lib.hid hii
        have hd0 : decide (y < 0) = false := decide_eq_false (by omega)
        have hd1 : decide (nz ≤ y) = false := decide_eq_false (by omega)
        have hd2 : decide (0 < ii) = false := decide_eq_false hi1
        clear hia hii hil hi ha hb hni hni2 hi1
        go_quiet (fail)
        clear hd2
        obtain rfl := HII.out
        have hil := HIL.out
        go_wp2_with fail
        go_roundw
        case rel => exact ⟨i + 1, by omega, by go_num, Lib.hid (fun j hj => by obtain rfl : j = i := by have := HI0.out; omega
                                                                               exact HA.out), Lib.hid (HX.out.trans (Ext.drewN _ _))⟩
        case measure => have := HIL.out; simp [intOf]; omega
      have hiq := HP.out.run_index (P := Tryz.prog) slInts (i - 1) (by omega)
      have hcq := (HP.out.ext HX.out).cell (i - 1) (by omega)
      obtain ⟨z, hz⟩ : ∃ z, nth pl (i - 1) = z := ⟨_, rfl⟩
      rw [hz] at hcq
      have HZE := Lib.hid hz
      have hi1 : (0 : Int) < i := by omega
      have hwk : IntKind.i64.wrap ((i : Int) - 1) = (i : Int) - 1 := IntWalk.i64_in _ (by omega)
      rw [show ((i - 1 : Nat) : Int) = (i : Int) - 1 by omega] at hiq
      clear hz
      obtain ⟨ia, hia⟩ : ∃ a, elt (.slice pa pl.length pc) i 1 = a := ⟨_, rfl⟩
      obtain ⟨iq, hiqq⟩ : ∃ a, elt (.slice pa pl.length pc) (i - 1) 1 = a := ⟨_, rfl⟩
      rw [hia] at hip hcp
      rw [hiqq] at hiq hcq
      have HIL2 := Lib.hid (show i - 1 < pl.length from by omega)
      clear hia hiqq
      by_cases hzy : z < y
      · have HA := Lib.hid (show ascAt pl nz i = true from by unfold ascAt; rw [HYE.out, HZE.out, decide_eq_true (by omega), decide_eq_true hzy]; simp)
        go_wp2_with fail
        obtain ⟨ii, hii⟩ : ∃ z : Int, (i : Int) = z := ⟨_, rfl⟩
        rw [hii] at hip hiq hwk hi1 ⊢
        have HII := Lib.hid hii
        have HI0 := Lib.hid hi0
        clear hii hil hi0 hi
        go_quiet (fail)
        obtain rfl := HII.out
        have hil := HIL.out
        go_wp2_with fail
        go_roundw
        case rel => exact ⟨i + 1, by have := HIL.out; omega, by go_num, Lib.hid (fun j hj => by
          rcases Nat.lt_or_eq_of_le (show j ≤ i by omega) with h | rfl
          · exact HI.out j h
          · exact HA.out), Lib.hid (HX.out.trans (Ext.drewN _ _))⟩
        case measure => have := HIL.out; simp [intOf]; omega
      · have HF := Lib.hid (show r = false from by rw [HTB2.out, ascB_not HIL.out (by unfold ascAt; rw [HYE.out, HZE.out, decide_eq_false hzy]; simp [hi0])]; rfl)
        go_wp2_with fail
        obtain ⟨ii, hii⟩ : ∃ z : Int, (i : Int) = z := ⟨_, rfl⟩
        rw [hii] at hip hiq hwk hi1 ⊢
        have HII := Lib.hid hii
        have HI0 := Lib.hid hi0
        clear hii hil hi0 hi
        go_quiet (fail)
        obtain rfl := HII.out
        have hil := HIL.out
        go_wp2_with fail
        go_ret
        exact ⟨by rw [HF.out]; trivial, HX.out.trans (Ext.drewN _ _)⟩
    · obtain rfl : i = pl.length := by omega
      have hasc : ascB pl nz = true := ascB_all HI.out
      have hA := ascB_asc hasc
      have hC := cup_end (p := p) (k := k) (pl := pl) (rows := rows) (nodes := nodes) (D := top.map (fof p)) hn1
      have hfo := cupF_fof (p := p) (by omega) (k := k) (pl := pl) (rows := rows) (nodes := nodes) n 0 n 0 false
      have CU := Lib.hid (fun (W : World) (b : Nat) (hx : Ext w W) (hb : w.heap.size ≤ b) (hc : ClbD W b p (.slice pa pl.length pc) (.slice ra rn rc) (.slice na nodes.length nc) 0 false) => cup_any h23 hp2 HK.out HP.out HR.out HN.out hA HRL.out HRW.out hb n n 0 0 false hn1 (Nat.le_refl _) (by omega) (Nat.zero_le _) W hx hc)
      obtain ⟨⟨d, t, bd⟩, hU⟩ : ∃ u, cupF p k pl rows nodes n 0 n 0 false = u := ⟨_, rfl⟩
      rw [hU] at hC hfo CU
      simp only at hC hfo CU
      have HRE := Lib.hid (show r = (sameB p d top && !bd && decide (t = nodes.length)) from by rw [HTB2.out, hasc, ← hC, sameB_iff, hfo]; rfl)
      have htn : t ≤ nodes.length := by
        have := cupF_le (p := p) (k := k) (pl := pl) (rows := rows) (nodes := nodes) n 0 n 0 false hn1 (Nat.le_refl _) (Nat.zero_le _)
        rw [hU] at this; exact this.2
      have HXA := Lib.hid (HX.out.trans (Ext.alloc wr (Obj.cells (climbL p (.slice pa pl.length pc) (.slice ra rn rc) (.slice na nodes.length nc) 0 false).toArray 179)))
      have HCB := Lib.hid (show ClbD (wr.alloc (Obj.cells (climbL p (.slice pa pl.length pc) (.slice ra rn rc) (.slice na nodes.length nc) 0 false).toArray 179)) wr.heap.size p (.slice pa pl.length pc) (.slice ra rn rc) (.slice na nodes.length nc) 0 false from ⟨BlkOf.new wr _ _⟩)
      have HSW := Lib.hid HX.out.size
      clear hasc hA hC hfo hU HI
      rw [show ((0 : Nat) : Int) = 0 from rfl, HNZ.out] at CU
      have HNL := Lib.hid htn
      obtain ⟨s, hs⟩ : ∃ s, sameB p d top = s := ⟨_, rfl⟩
      rw [hs] at HRE
      have HSE := Lib.hid hs
      clear htn hs hil hi
      go_upto_region 9 with (fail)
      have e0 : (wr.alloc (Obj.cells (climbL p (.slice pa pl.length pc) (.slice ra rn rc) (.slice na nodes.length nc) 0 false).toArray 179)) = (wr.alloc (Obj.cells (climbL p (.slice pa pl.length pc) (.slice ra rn rc) (.slice na nodes.length nc) 0 false).toArray 179)) := rfl
      change Code.wp _ _ _ _ (wr.alloc (Obj.cells (climbL p (.slice pa pl.length pc) (.slice ra rn rc) (.slice na nodes.length nc) 0 false).toArray 179))
      clear e0
      generalize wr.alloc (Obj.cells (climbL p (.slice pa pl.length pc) (.slice ra rn rc) (.slice na nodes.length nc) 0 false).toArray 179) = wA at *
      generalize wr.heap.size = cb at *
      go_upto_region 10 with (go_at_call 147; refine (CU.out _ _ HXA.out HSW.out HCB.out).mono ?_; rintro e w2 ⟨v2, rfl, hg2, hc2, hi2⟩; have HX2 := Lib.hid (show Ext w w2 from Below.grown HXA.out.below hg2 HXA.out.size (fun q e => by cases e; exact HSW.out)); have HC2 := Lib.hid hc2; have HI2 := Lib.hid hi2; clear hg2 hc2 hi2)
      go_upto_region 11 with (go_at_call 14; refine (rsame_any p (by omega) hp2 HI2.out (HT.out.ext HX2.out)).mono ?_; rw [HSE.out]; rintro e w3 ⟨rfl, rfl⟩)
      have c4 : w2.cell? ⟨cb, 4, none⟩ = some (.int .i64 t) := HC2.out.blk.cell 4
      have c5 : w2.cell? ⟨cb, 5, none⟩ = some (.bool bd) := HC2.out.blk.cell 5
      cases s with
      | false =>
        have HF := Lib.hid (show r = false from HRE.out)
        go_wp2_with fail
        go_ret
        exact ⟨by rw [HF.out]; first | trivial | simp, HX2.out⟩
      | true =>
        cases bd with
        | true =>
          have HF := Lib.hid (show r = false from HRE.out)
          go_wp2_with fail
          go_ret
          exact ⟨by rw [HF.out]; first | trivial | simp, HX2.out⟩
        | false =>
          by_cases htn : t = nodes.length
          · subst htn
            have HF := Lib.hid (show r = true from by rw [HRE.out]; simp)
            go_wp2_with fail
            go_ret
            exact ⟨by rw [HF.out]; first | trivial | simp, HX2.out⟩
          · have HF := Lib.hid (show r = false from by rw [HRE.out, decide_eq_false htn]; rfl)
            have hne4 : ¬ ((t : Int) = (nodes.length : Int)) := by omega
            have hne5 : ((t : Int) == (nodes.length : Int)) = false := by rw [beq_eq_false_iff_ne]; exact hne4
            go_wp2_with fail
            go_ret
            exact ⟨by rw [HF.out]; first | trivial | (show Ending.returned (Value.bool ((t : Int) == (nodes.length : Int))) = _; rw [hne5]), HX2.out⟩
end Go.Proofs.YtcpnidomdkaefaaGreatDoor
