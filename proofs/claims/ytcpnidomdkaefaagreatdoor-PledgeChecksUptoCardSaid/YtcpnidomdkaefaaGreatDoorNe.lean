/- The document's Climb.Up: contract. -/
import Derived.Test.YtcpnidomdkaefaaGreatDoorZx18
import Derived.BigQuiet
import Derived.Deep.RegionHeld3
import Derived.Deep.DrawnRows
namespace Go.Att
open Go.RowKit
/-- No four numbers lie in a Climb's block. -/
theorem climb_apart {w : World} {b : Nat} {p : Int} {pv rv nv : Value} {t : Nat} {bad : Bool} {tt : TypeId} (h : BlkOf w b (climbL p pv rv nv t bad) tt) (h1 : ∃ a n c, pv = .slice a n c) (h2 : ∃ a n c, rv = .slice a n c) (h3 : ∃ a n c, nv = .slice a n c) {v : Value} {l : List Int} (hv : Ints w v l) (hl : l.length = 4) :
    ∀ q, v.ownBlock = some q → some q ≠ some b := by
  intro q hq e
  obtain rfl := Option.some.inj e
  obtain ⟨ao, cap, rfl, e2, e3, e4, e5⟩ := hv
  obtain ⟨bb, off, rfl, -⟩ := e5 0 (by simp; omega)
  obtain rfl : bb = q := by simpa [Value.ownBlock] using hq
  obtain ⟨x1, y1, z1, rfl⟩ := h1
  obtain ⟨x2, y2, z2, rfl⟩ := h2
  obtain ⟨x3, y3, z3, rfl⟩ := h3
  have g : ∀ i, i < 4 → ∃ m : Int, (climbL p (.slice x1 y1 z1) (.slice x2 y2 z2) (.slice x3 y3 z3) t bad)[off + i]? = some (.int .i64 m) := fun i hi => by
    obtain ⟨b', off', e6, e7⟩ := e5 i (by simp; omega)
    obtain ⟨rfl, rfl⟩ : bb = b' ∧ off = off' := by simpa using e6
    rw [h.cell] at e7
    exact ⟨l[i], by rw [e7]; simp⟩
  have hoff : off = 0 ∨ off = 1 ∨ off = 2 ∨ 3 ≤ off := by omega
  rcases hoff with rfl | rfl | rfl | h6
  · obtain ⟨m, hm⟩ := g 1 (by omega); simp [climbL] at hm
  · obtain ⟨m, hm⟩ := g 0 (by omega); simp [climbL] at hm
  · obtain ⟨m, hm⟩ := g 0 (by omega); simp [climbL] at hm
  · obtain ⟨m, hm⟩ := g 3 (by omega)
    have := (List.getElem?_eq_some_iff.1 hm).1
    simp [climbL] at this
    omega
end Go.Att
namespace Go.Proofs.YtcpnidomdkaefaaGreatDoor
open Go.RowKit Go.Att
section
variable {w0 : World} {b : Nat} {p : Int} {k : Nat} {pl : List Int} {rows nodes : List (List Int)} {pv rv nv : Value} {RR NR : Nat → Value}
set_option maxRecDepth 100000 in
set_option maxHeartbeats 8000000 in
theorem cup_any (h23 : 23 ≤ p) (hp2 : p ≤ 2147483647) (hk : IsPw p k) (hp : Ints w0 pv pl) (hr : RwsAt w0 rv rows RR) (hn : RwsAt w0 nv nodes NR) (hasc : Asc pl) (hrl : rows.length = pl.length) (hrw : ∀ i, i < rows.length → (nthL rows i).length ≤ 1048575000) (hb : w0.heap.size ≤ b) :
    ∀ (f n a t : Nat) (bad : Bool), 1 ≤ n → n ≤ f → a + n ≤ 65536 → t ≤ nodes.length → ∀ W, Ext w0 W → ClbD W b p pv rv nv t bad →
    Calls Tryz.prog 147 #[.pointer (some ⟨b, 0, none⟩), .int .i64 a, .int .i64 n] W fun e w' => ∃ v, e = .returned v ∧ W.grownBy w' (some b) ∧ ClbD w' b p pv rv nv (cupF p k pl rows nodes f a n t bad).2.1 (cupF p k pl rows nodes f a n t bad).2.2 ∧ Ints w' v (cupF p k pl rows nodes f a n t bad).1
  | 0, n, a, t, bad, h1, h2, h3, h4, W, hW, hC => by omega
  | f + 1, n, a, t, bad, h1, h2, h3, h4, W, hW, hC => by
    have HK := Lib.hid hk; have HP := Lib.hid hp; have HR := Lib.hid hr; have HN := Lib.hid hn; have HA := Lib.hid hasc; have HRL := Lib.hid hrl; have HRW := Lib.hid hrw; have HX := Lib.hid hW; have HC := Lib.hid hC
    have hps := hp.shape
    have hrs : ∃ a n c, rv = .slice a n c := let ⟨x, y, h⟩ := hr.shape; ⟨_, _, _, h⟩
    have hns : ∃ a n c, nv = .slice a n c := let ⟨x, y, h⟩ := hn.shape; ⟨_, _, _, h⟩
    have HSH := Lib.hid (⟨(let ⟨x, y, h⟩ := hps; ⟨_, _, _, h⟩ : ∃ a n c, pv = .slice a n c), hrs, hns⟩ : (∃ a n c, pv = .slice a n c) ∧ (∃ a n c, rv = .slice a n c) ∧ (∃ a n c, nv = .slice a n c))
    have hlp := hp.run_len (P := Tryz.prog) slInts
    have hln := hn.run_len (P := Tryz.prog) slRows
    have hpn := hp.len
    have hnn := hn.len
    have CS := Lib.hid (fun W' (hx : Ext w0 W') => some_any (hp.ext hx) (a : Int) ((a : Int) + n))
    obtain ⟨sh, hsh⟩ : ∃ sh, sho pl a ((a : Int) + n) = sh := ⟨_, rfl⟩
    rw [hsh] at CS
    have HSO := Lib.hid hsh
    have hwr : IntKind.i64.wrap ((a : Int) + n) = (a : Int) + n := IntWalk.i64_in _ (by omega)
    have e0 : W.cell? ⟨b, 0, none⟩ = some (.int .i64 p) := hC.blk.cell 0
    have e1 : W.cell? ⟨b, 1, none⟩ = some pv := hC.blk.cell 1
    clear hk hp hr hn hasc hrl hrw hW hC hsh hps hrs hns
    cases sh with
    | false =>
      have HU := Lib.hid (show cupF p k pl rows nodes (f + 1) a n t bad = if t < nodes.length ∧ (nthL nodes t).length = 4 then ((nthL nodes t).map (fof p), t + 1, bad) else ([0, 0, 0, 0], t, true) from by simp only [cupF]; rw [if_neg (by rw [HSO.out]; decide)])
      obtain ⟨U, hUd⟩ : ∃ U, cupF p k pl rows nodes (f + 1) a n t bad = U := ⟨_, rfl⟩
      rw [hUd]
      rw [hUd] at HU
      clear hUd
      go_enter Tryz.func147, Tryz.ntmps147
      go_upto_region 3 with (go_at_call 160; refine (CS.out _ HX.out).mono ?_; rintro e w1 ⟨rfl, hx1⟩; have HX1 := Lib.hid (HX.out.trans hx1); have HG1 := Lib.hid (hx1.grownBy (some b)); have HC1 := Lib.hid (HC.out.ext hx1); clear hx1 e0 e1)
      have e0 : w1.cell? ⟨b, 0, none⟩ = some (.int .i64 p) := HC1.out.blk.cell 0
      have e3 : w1.cell? ⟨b, 3, none⟩ = some nv := HC1.out.blk.cell 3
      have e4 : w1.cell? ⟨b, 4, none⟩ = some (.int .i64 t) := HC1.out.blk.cell 4
      have e5 : w1.cell? ⟨b, 5, none⟩ = some (.bool bad) := HC1.out.blk.cell 5
      have e5f : w1.frozen? ⟨b, 5, none⟩ = false := HC1.out.blk.free 5
      have e4f : w1.frozen? ⟨b, 4, none⟩ = false := HC1.out.blk.free 4
      by_cases ht : t < nodes.length
      · have hix := HN.out.run_index (P := Tryz.prog) slRows t ht
        have hcx := (HN.out.ext HX1.out).cell t ht
        have hlx := (HN.out.row t ht).run_len (P := Tryz.prog) slInts
        have HROW := Lib.hid ((HN.out.row t ht).ext HX1.out)
        have hge : ¬ ((nodes.length : Int) ≤ (t : Int)) := by omega
        have HT := Lib.hid ht
        clear ht
        by_cases hd : (nthL nodes t).length = 4
        · rw [hd] at hlx
          have HU2 := Lib.hid (show U = ((nthL nodes t).map (fof p), t + 1, bad) from by rw [HU.out, if_pos ⟨HT.out, hd⟩])
          have HD := Lib.hid hd
          clear hd HU
          go_quiet (fail)
          have HXQ := Lib.hid (Ext.drewN w1 nq)
          generalize w1.drewN nq = w2 at *
          have HC2 := Lib.hid (HC1.out.ext HXQ.out)
          have d3 : w2.cell? ⟨b, 3, none⟩ = some nv := HC2.out.blk.cell 3
          have d4 : w2.cell? ⟨b, 4, none⟩ = some (.int .i64 t) := HC2.out.blk.cell 4
          have dx := HXQ.out.cell hcx
          clear e0 e3 e4 e5 e5f e4f hcx
          go_upto_region 6 with (fail)
          go_quiet (fail)
          have HXR := Lib.hid (Ext.drewN w2 nq)
          generalize w2.drewN nq = w3 at *
          have HC3 := Lib.hid (HC2.out.ext HXR.out)
          have c0 : w3.cell? ⟨b, 0, none⟩ = some (.int .i64 p) := HC3.out.blk.cell 0
          have c4 : w3.cell? ⟨b, 4, none⟩ = some (.int .i64 t) := HC3.out.blk.cell 4
          have c4f : w3.frozen? ⟨b, 4, none⟩ = false := HC3.out.blk.free 4
          clear d3 d4 dx
          go_upto_region 8 with (fail)
          have HG4 := Lib.hid (setCell_grown w3 b 4 (.int .i64 ((t : Int) + 1)))
          have HC4 := Lib.hid (show ClbD (w3.setCell ⟨b, 4, none⟩ (.int .i64 ((t : Int) + 1))) b p pv rv nv (t + 1) bad from ⟨HC3.out.blk.set 4 (.int .i64 ((t : Int) + 1))⟩)
          have HX4 := Lib.hid (show Ext w0 (w3.setCell ⟨b, 4, none⟩ (.int .i64 ((t : Int) + 1))) from Below.grown (HX1.out.trans (HXQ.out.trans HXR.out)).below HG4.out (HX1.out.trans (HXQ.out.trans HXR.out)).size (fun q e => by cases e; exact hb))
          generalize w3.setCell ⟨b, 4, none⟩ (.int .i64 ((t : Int) + 1)) = w4 at *
          clear c0 c4 c4f
          have c0 : w4.cell? ⟨b, 0, none⟩ = some (.int .i64 p) := HC4.out.blk.cell 0
          go_wp2_with (go_at_call 133; refine (rall_any p _ (nthL nodes t) _ ((HN.out.row t HT.out).ext HX4.out) (by omega) hp2 (by rw [HD.out]; omega)).mono ?_; rintro e w5 ⟨v5, rfl, hx5, hi5, -, -⟩)
          go_ret
          exact ⟨_, rfl, grown_one (grown_one (grown_one HG1.out ((HXQ.out.trans HXR.out).grownBy _)) HG4.out) (hx5.grownBy _), by rw [HU2.out]; exact HC4.out.ext hx5, by rw [HU2.out]; exact hi5⟩
        · have HU2 := Lib.hid (show U = ([0, 0, 0, 0], t, true) from by rw [HU.out, if_neg (fun h => hd h.2)])
          have hne : ¬ (((nthL nodes t).length : Int) = 4) := by omega
          clear hd HU
          go_quiet (fail)
          have HXQ := Lib.hid (Ext.drewN w1 nq)
          generalize w1.drewN nq = w2 at *
          have HC2 := Lib.hid (HC1.out.ext HXQ.out)
          have d5 : w2.cell? ⟨b, 5, none⟩ = some (.bool bad) := HC2.out.blk.cell 5
          have d5f : w2.frozen? ⟨b, 5, none⟩ = false := HC2.out.blk.free 5
          clear e0 e3 e4 e5 e5f e4f
          go_upto_region 5 with (fail)
          have HG3 := Lib.hid (setCell_grown w2 b 5 (.bool true))
          have HC3 := Lib.hid (show ClbD (w2.setCell ⟨b, 5, none⟩ (.bool true)) b p pv rv nv t true from ⟨HC2.out.blk.set 5 (.bool true)⟩)
          generalize w2.setCell ⟨b, 5, none⟩ (.bool true) = w3 at *
          go_wp2_with fail
          go_ret
          exact ⟨_, rfl, grown_one (grown_one (grown_one HG1.out (HXQ.out.grownBy _)) HG3.out) ((Ext.alloc w3 _).grownBy _), by rw [HU2.out]; exact HC3.out.ext (Ext.alloc w3 _), by rw [HU2.out]; exact Ints.of_own (own_litB (B := w3.heap.size) [.int .i64 0, .int .i64 0, .int .i64 0, .int .i64 0] 3 (by simp) (Nat.le_refl _))⟩
      · obtain rfl : t = nodes.length := by omega
        have HU2 := Lib.hid (show U = ([0, 0, 0, 0], nodes.length, true) from by rw [HU.out, if_neg (fun h => absurd h.1 (Nat.lt_irrefl _))])
        clear HU ht
        go_quiet (fail)
        have HXQ := Lib.hid (Ext.drewN w1 nq)
        generalize w1.drewN nq = w2 at *
        have HC2 := Lib.hid (HC1.out.ext HXQ.out)
        have d5 : w2.cell? ⟨b, 5, none⟩ = some (.bool bad) := HC2.out.blk.cell 5
        have d5f : w2.frozen? ⟨b, 5, none⟩ = false := HC2.out.blk.free 5
        clear e0 e3 e4 e5 e5f e4f
        go_upto_region 5 with (fail)
        have HG3 := Lib.hid (setCell_grown w2 b 5 (.bool true))
        have HC3 := Lib.hid (show ClbD (w2.setCell ⟨b, 5, none⟩ (.bool true)) b p pv rv nv nodes.length true from ⟨HC2.out.blk.set 5 (.bool true)⟩)
        generalize w2.setCell ⟨b, 5, none⟩ (.bool true) = w3 at *
        go_wp2_with fail
        go_ret
        exact ⟨_, rfl, grown_one (grown_one (grown_one HG1.out (HXQ.out.grownBy _)) HG3.out) ((Ext.alloc w3 _).grownBy _), by rw [HU2.out]; exact HC3.out.ext (Ext.alloc w3 _), by rw [HU2.out]; exact Ints.of_own (own_litB (B := w3.heap.size) [.int .i64 0, .int .i64 0, .int .i64 0, .int .i64 0] 3 (by simp) (Nat.le_refl _))⟩
    | true =>
      by_cases hn1 : n = 1
      · have HU := Lib.hid (show cupF p k pl rows nodes (f + 1) a n t bad = (hashP p k (0 :: rowOf pl rows a), t, bad) from by simp only [cupF]; rw [if_pos HSO.out, if_pos hn1])
        rw [HU.out]
        clear HU
        obtain ⟨c, hc⟩ : ∃ c, pl.countP (· < (a : Int)) = c := ⟨_, rfl⟩
        have hso := HSO.out
        rw [sho_search HA.out.le, hc, Bool.and_eq_true, decide_eq_true_eq, decide_eq_true_eq] at hso
        have hca : nth pl c = (a : Int) := by
          have h9 : ¬ c < pl.countP (· < (a : Int)) := by omega
          rw [count_below HA.out.le (a : Int) c hso.1] at h9
          omega
        have HLO := Lib.hid (fun j (hj : j < c) => (show ¬ nth pl j = (a : Int) from by
          have := (count_below HA.out.le (a : Int) j (by omega)).1 (by omega)
          omega))
        have HCA := Lib.hid hca
        have HCL := Lib.hid hso.1
        have HROW := Lib.hid (show rowOf pl rows a = nthL rows c from by unfold rowOf; rw [hc])
        rw [HROW.out]
        obtain rfl := hn1
        have hix := HR.out.run_index (P := Tryz.prog) slRows c (by rw [HRL.out]; exact HCL.out)
        have HRC := Lib.hid (HR.out.row c (by rw [HRL.out]; exact HCL.out))
        have HRWC := Lib.hid (HRW.out c (by rw [HRL.out]; exact HCL.out))
        clear hc hso hca
        go_enter Tryz.func147, Tryz.ntmps147
        go_wp2_with (go_at_call 160; refine (CS.out _ HX.out).mono ?_; rintro e w1 ⟨rfl, hx1⟩; have HX1 := Lib.hid (HX.out.trans hx1); have HG1 := Lib.hid (hx1.grownBy (some b)); have HC1 := Lib.hid (HC.out.ext hx1); clear hx1 e0 e1)
        go_loopw [9] (fun x9 wr => ∃ i : Nat, i ≤ c ∧ x9 = .int .i64 i ∧ wr = w1) (fun x9 _ => pl.length - (intOf x9).toNat)
        case atStart => exact ⟨0, Nat.zero_le _, rfl, rfl⟩
        case round =>
          obtain ⟨i, hi, rfl, rfl⟩ := hrel
          have e0 : wr.cell? ⟨b, 0, none⟩ = some (.int .i64 p) := HC1.out.blk.cell 0
          have e1 : wr.cell? ⟨b, 1, none⟩ = some pv := HC1.out.blk.cell 1
          have e2 : wr.cell? ⟨b, 2, none⟩ = some rv := HC1.out.blk.cell 2
          have hil : i < pl.length := Nat.lt_of_le_of_lt hi HCL.out
          have hip := HP.out.run_index (P := Tryz.prog) slInts i hil
          have hcp := (HP.out.ext HX1.out).cell i hil
          by_cases hic : i = c
          · subst hic
            rw [HCA.out] at hcp
            have hcr := (HR.out.ext HX1.out).cell i (by rw [HRL.out]; exact HCL.out)
            have hRI := (HRC.out.ext HX1.out)
            have HRI := Lib.hid hRI
            clear hRI
            go_upto_region 14 with (fail)
            go_region_held3 (fun W => W.cell? ⟨b, 0, none⟩ = some (.int .i64 p) ∧ W.cell? ⟨b, 2, none⟩ = some rv ∧ W.cell? (elt rv i 1) = some (RR i)) (first | exact ⟨hx5.cell ((Ext.drew wr).cell e0), hx5.cell ((Ext.drew wr).cell e2), hx5.cell ((Ext.drew wr).cell hcr)⟩ | exact ⟨(Ext.drew wr).cell e0, (Ext.drew wr).cell e2, (Ext.drew wr).cell hcr⟩ | go_keep) ((go_at_call 130; refine (rleaf_any h23 hp2 HK.out (HRI.out.ext (Ext.drew wr)) HRWC.out).mono ?_; rintro e w5 ⟨v5, rfl, hx5, hi5⟩))
            go_wp2_with fail
            go_ret
            exact ⟨_, rfl, grown_one HG1.out (((Ext.drew _).trans hx5).grownBy _), HC1.out.ext ((Ext.drew _).trans hx5), hi5⟩
          · have HNE := HLO.out i (by omega)
            go_wp2_with fail
            go_roundw
            case rel => exact ⟨i + 1, by omega, by go_num, trivial⟩
            case measure => simp [intOf]; omega
      · have HLB := Lib.hid (lfN_bd (show 2 ≤ n by omega))
        have HU := Lib.hid (show cupF p k pl rows nodes (f + 1) a n t bad = (hashP p k (1 :: ((cupF p k pl rows nodes f a (lfN n) t bad).1 ++ (cupF p k pl rows nodes f (a + lfN n) (n - lfN n) (cupF p k pl rows nodes f a (lfN n) t bad).2.1 (cupF p k pl rows nodes f a (lfN n) t bad).2.2).1)),
         (cupF p k pl rows nodes f (a + lfN n) (n - lfN n) (cupF p k pl rows nodes f a (lfN n) t bad).2.1 (cupF p k pl rows nodes f a (lfN n) t bad).2.2).2) from by simp only [cupF]; rw [if_pos HSO.out, if_neg hn1])
        rw [HU.out]
        clear HU
        have hl1 := cupF_len (p := p) (k := k) (pl := pl) (rows := rows) (nodes := nodes) f a (lfN n) t bad HLB.out.1 (by have := HLB.out; omega)
        have hle1 := cupF_le (p := p) (k := k) (pl := pl) (rows := rows) (nodes := nodes) f a (lfN n) t bad HLB.out.1 (by have := HLB.out; omega) h4
        have IA := Lib.hid (fun W' hx hc' => cup_any h23 hp2 HK.out HP.out HR.out HN.out HA.out HRL.out HRW.out hb f (lfN n) a t bad HLB.out.1 (by have := HLB.out; omega) (by have := HLB.out; omega) h4 W' hx hc')
        obtain ⟨⟨X, t1, b1⟩, hU1⟩ : ∃ u, cupF p k pl rows nodes f a (lfN n) t bad = u := ⟨_, rfl⟩
        rw [hU1] at IA hl1 hle1 ⊢
        simp only at IA hl1 hle1 ⊢
        have hl2 := cupF_len (p := p) (k := k) (pl := pl) (rows := rows) (nodes := nodes) f (a + lfN n) (n - lfN n) t1 b1 (by have := HLB.out; omega) (by have := HLB.out; omega)
        have IB := Lib.hid (fun W' hx hc' => by have := cup_any h23 hp2 HK.out HP.out HR.out HN.out HA.out HRL.out HRW.out hb f (n - lfN n) (a + lfN n) t1 b1 (by have := HLB.out; omega) (by have := HLB.out; omega) (by have := HLB.out; omega) hle1.2 W' hx hc'; rw [show ((a + lfN n : Nat) : Int) = (a : Int) + (lfN n : Nat) by omega, show ((n - lfN n : Nat) : Int) = (n : Int) - (lfN n : Nat) by have := HLB.out; omega] at this; exact this)
        obtain ⟨⟨Y, t2, b2⟩, hU2⟩ : ∃ u, cupF p k pl rows nodes f (a + lfN n) (n - lfN n) t1 b1 = u := ⟨_, rfl⟩
        rw [hU2] at IB hl2 ⊢
        simp only at IB hl2 ⊢
        have CL := Lib.hid (fun W' => rleft_any n (by omega) (by omega) W')
        obtain ⟨m, hm⟩ : ∃ m, lfN n = m := ⟨_, rfl⟩
        have hwr2 : IntKind.i64.wrap ((a : Int) + m) = (a : Int) + m := IntWalk.i64_in _ (by have := HLB.out; omega)
        have hwr3 : IntKind.i64.wrap ((n : Int) - m) = (n : Int) - m := IntWalk.i64_in _ (by have := HLB.out; omega)
        rw [hm] at IA IB CL
        have hne1 : ¬ ((n : Int) = 1) := by omega
        have HL1 := Lib.hid hl1; have HL2 := Lib.hid hl2
        clear hU1 hU2 hm hl1 hl2 hle1
        go_enter Tryz.func147, Tryz.ntmps147
        go_upto_region 16 with (first | (go_at_call 160; refine (CS.out _ HX.out).mono ?_; rintro e w1 ⟨rfl, hx1⟩; have HX1 := Lib.hid (HX.out.trans hx1); have HG1 := Lib.hid (hx1.grownBy (some b)); have HC1 := Lib.hid (HC.out.ext hx1); clear hx1 e0 e1) | (go_at_call 131; refine (CL.out _).mono ?_; rintro e w' ⟨rfl, rfl⟩))
        go_upto_region 17 with (go_at_call 147; refine (IA.out _ HX1.out HC1.out).mono ?_; rintro e w2 ⟨v2, rfl, hg2, hc2, hi2⟩; have HG2 := Lib.hid (grown_one HG1.out hg2); have HX2 := Lib.hid (show Ext w0 w2 from Below.grown HX1.out.below hg2 HX1.out.size (fun q e => by cases e; exact hb)); have HC2 := Lib.hid hc2; have HI2 := Lib.hid hi2; clear hg2 hc2 hi2)
        go_upto_region 18 with (go_at_call 147; refine (IB.out _ HX2.out HC2.out).mono ?_; rintro e w3 ⟨v3, rfl, hg3, hc3, hi3⟩; have HG3 := Lib.hid (grown_one HG2.out hg3); have HC3 := Lib.hid hc3; have HI3 := Lib.hid hi3; have HI23 := Lib.hid (HI2.out.grown hg3 (climb_apart HC2.out.blk HSH.out.1 HSH.out.2.1 HSH.out.2.2 HI2.out HL1.out)); clear hg3 hc3 hi3)
        have e0 : w3.cell? ⟨b, 0, none⟩ = some (.int .i64 p) := HC3.out.blk.cell 0
        go_wp2_with (go_at_call 132; refine (rnode_any h23 hp2 HK.out HI23.out HI3.out (by rw [HL1.out]; omega) (by rw [HL2.out]; omega)).mono ?_; rintro e w4 ⟨v4, rfl, hx4, hi4⟩)
        go_ret
        exact ⟨_, rfl, grown_one HG3.out (hx4.grownBy _), HC3.out.ext hx4, hi4⟩
end
end Go.Proofs.YtcpnidomdkaefaaGreatDoor
