/- tree.Collide: contract: two openings that show all rows of a tree, and differ at a leaf: two unlike lists with one digest. -/
import Derived.Test.YtcpnidomdkaefaaGreatDoorZx24
import Derived.Test.YtcpnidomdkaefaaGreatDoorNo
import Derived.Test.YtcpnidomdkaefaaGreatDoorZx10
import Derived.Handy
import Derived.BigQuiet
namespace Go.Att
open Go.RowKit
/-- What a cell holds, as a number. -/
def cInt (w : World) (b o : Nat) : Int := match w.cell? ⟨b, o, none⟩ with
  | some (.int _ x) => x
  | _ => 0
theorem cInt_eq {w : World} {b o : Nat} {x : Int} (h : w.cell? ⟨b, o, none⟩ = some (.int .i64 x)) : cInt w b o = x := by unfold cInt; rw [h]
/-- How far a group goes that lies in a box. -/
def spanOf (w : World) : Value → Nat
  | .pointer (some a) => (cInt w a.block 1 - cInt w a.block 0).toNat
  | _ => 0
theorem spanOf_eq {w : World} {b : Nat} {a m : Nat} {T : TypeId} (h : BlkOf w b [.int .i64 (a : Int), .int .i64 ((a : Int) + m)] T) : spanOf w (.pointer (some ⟨b, 0, none⟩)) = m := by
  show (cInt w b 1 - cInt w b 0).toNat = m
  rw [cInt_eq (x := (a : Int) + m) (h.cell 1), cInt_eq (x := (a : Int)) (h.cell 0)]
  omega
/-- A list that is not empty, as it lies. -/
theorem ints_some {W : World} {v : Value} {l : List Int} (h : Ints W v l) (h0 : 0 < l.length) : ∃ q off cap, v = .slice (some ⟨q, off, none⟩) l.length cap := by
  obtain ⟨q, off, cap, e, -⟩ := arr_of h h0
  exact ⟨q, off, cap, e⟩
end Go.Att
namespace Go.Proofs.YtcpnidomdkaefaaGreatDoor
open Go.RowKit Go.Att
theorem WayAt.lookL {W : World} {wb mb lb n : Nat} {D L : Int → Int → Option (List Int)} (h : WayAt W wb mb lb n D L) {a b : Int} (ha : Wf64 a) (hb : Wf64 b) {l : List Int} (hl : L a b = some l) :
    ∃ v, Ints W v l ∧ ∀ W', Ext W W' → (Instr.lookup 114 (.map (some lb)) (.agg #[.int .i64 a, .int .i64 b]) false).run Tryz.prog W' = .ok v W' := by
  obtain ⟨q, hq⟩ := grp_key ha hb
  obtain ⟨LV, h1, h2⟩ := h.lst
  rcases h2 a b with ⟨e, -⟩ | ⟨v, l', e1, e2, e3⟩
  · rw [hl] at e; cases e
  · rw [hl] at e2
    obtain rfl := Option.some.inj e2
    refine ⟨v, e3, fun W' hx => ?_⟩
    have := (h1.ext hx).look grp_keyed (T := 114) (E := 22) Tryz.underlying114 (z := .slice none 0 0) (by kernel_rfl) hq
    rw [this, grpM_at, e1]; rfl
theorem pequal_q {w : World} {v u : Value} {l m : List Int} (h : Ints w v l) (k : Ints w u m) {c : Bool} (hc : (l == m) = c) (n : Nat) : Calls Tryz.prog 37 #[v, u] (w.drewN n) fun e w'' => e = .returned (.bool c) ∧ ∃ q, w'' = w.drewN q := by
  subst hc
  exact Calls.quiet_of (pequal_any (h.drewN n) (k.drewN n))
section
variable {w : World} {bs : Nat} {p : Int} {k : Nat} {tv pv rv nv pv' rv' nv' : Value} {top pl : List Int} {rows nodes rows' nodes' : List (List Int)} {RR NR RR' NR' : Nat → Value}
set_option maxRecDepth 100000 in
set_option maxHeartbeats 16000000 in
theorem collide_any (h2p : 2 ≤ p) (hs : Spg w (.pointer (some ⟨bs, 0, none⟩)) p k) (ht : Ints w tv top) (hp : Ints w pv pl) (hr : RwsAt w rv rows RR) (hn : RwsAt w nv nodes NR) (hp' : Ints w pv' pl) (hr' : RwsAt w rv' rows' RR') (hn' : RwsAt w nv' nodes' NR') (hpl : pl.length ≤ 1000000)
    (hrw : ∀ i, i < rows.length → (nthL rows i).length ≤ 4294960000) (hrw' : ∀ i, i < rows'.length → (nthL rows' i).length ≤ 4294960000) (n : Nat) (hn1 : 1 ≤ n) (hn2 : n ≤ 65536)
    (hb : treeB p k top n pl rows nodes = true) (hb' : treeB p k top n pl rows' nodes' = true) (hlen : pl.length = n) (hne : ∃ i, i < n ∧ (nthL rows i).map (fof p) ≠ (nthL rows' i).map (fof p)) :
    Calls Tryz.prog 15 #[.pointer (some ⟨bs, 0, none⟩), tv, .int .i64 n, .agg #[pv, rv, nv], .agg #[pv', rv', nv']] w fun e w' => ∃ x y l l', e = .returned (.tuple #[x, y, .bool true]) ∧ Ext w w' ∧ Ints w' x l ∧ Ints w' y l' ∧ hashP p k l = hashP p k l' ∧ l.map (fof p) = l ∧ l'.map (fof p) = l' ∧ l ≠ l' ∧ l.length ≤ 4294960001 ∧ l'.length ≤ 4294960001 := by
  have hasc : ascB pl n = true := by
    have := hb
    unfold treeB at this
    simp only [Bool.and_eq_true] at this
    exact this.1.2
  have CF1 : Hid (∀ W, Ext w W → Calls Tryz.prog 60 #[.pointer (some ⟨bs, 0, none⟩), tv, .int .i64 n, .agg #[pv, rv, nv]] W fun e w' => ∃ wb mb lb N D L, e = .returned (.tuple #[.pointer (some ⟨wb, 0, none⟩), .bool true]) ∧ Ext W w' ∧ WayAt w' wb mb lb N D L ∧ Wkd p k pl rows D L n 0 n nodes) :=
    Lib.hid fun W hx => (follow_any (hs.ext hx) (ht.ext hx) (hp.ext hx) (hr.ext hx) (hn.ext hx) hpl hrw n hn1 hn2).mono fun e w' ⟨u, e1, e2, e3⟩ => by
      obtain ⟨wb, mb, lb, N, D, L, rfl, h1, h2⟩ := e3 hb
      exact ⟨wb, mb, lb, N, D, L, by rw [e1, hb], e2, h1, h2⟩
  have CF2 : Hid (∀ W, Ext w W → Calls Tryz.prog 60 #[.pointer (some ⟨bs, 0, none⟩), tv, .int .i64 n, .agg #[pv', rv', nv']] W fun e w' => ∃ wb mb lb N D L, e = .returned (.tuple #[.pointer (some ⟨wb, 0, none⟩), .bool true]) ∧ Ext W w' ∧ WayAt w' wb mb lb N D L ∧ Wkd p k pl rows' D L n 0 n nodes') :=
    Lib.hid fun W hx => (follow_any (hs.ext hx) (ht.ext hx) (hp'.ext hx) (hr'.ext hx) (hn'.ext hx) hpl hrw' n hn1 hn2).mono fun e w' ⟨u, e1, e2, e3⟩ => by
      obtain ⟨wb, mb, lb, N, D, L, rfl, h1, h2⟩ := e3 hb'
      exact ⟨wb, mb, lb, N, D, L, by rw [e1, hb'], e2, h1, h2⟩
  have H2P := Lib.hid h2p; have HP := Lib.hid hp; have HASC := Lib.hid hasc; have HLEN := Lib.hid hlen; have HNE := Lib.hid hne; have HRW := Lib.hid hrw; have HRW' := Lib.hid hrw'
  have hrn : rows.length = n ∧ rows'.length = n := by
    unfold treeB at hb hb'
    simp only [Bool.and_eq_true, decide_eq_true_eq] at hb hb'
    omega
  have HRN := Lib.hid hrn
  have HCL : Hid (clbF p k pl rows n 0 n nodes = some (top.map (fof p), []) ∧ clbF p k pl rows' n 0 n nodes' = some (top.map (fof p), [])) := by
    unfold treeB at hb hb'
    simp only [Bool.and_eq_true, beq_iff_eq] at hb hb'
    exact Lib.hid ⟨hb.2, hb'.2⟩
  have hlp := hp.run_len (P := Tryz.prog) slInts
  rw [hlen] at hlp
  have hX1 := Ext.alloc w (Obj.cells #[pv, rv, nv] 25)
  have hX2 := Ext.alloc (w.alloc (Obj.cells #[pv, rv, nv] 25)) (Obj.cells #[pv', rv', nv'] 25)
  have HX := Lib.hid (hX1.trans hX2)
  have HB1 := Lib.hid ((BlkOf.new w [pv, rv, nv] 25).ext hX2)
  have hb2 := BlkOf.new (w.alloc (Obj.cells #[pv, rv, nv] 25)) [pv', rv', nv'] 25
  rw [World.size_alloc] at hb2
  have HB2 := Lib.hid hb2
  clear h2p hs ht hp hr hn hp' hr' hn' hrw hrw' hb hb' hlen hne hasc hX1 hX2 hb2 hrn
  go_enter Tryz.func15, Tryz.ntmps15
  go_upto_region 1 with (fail)
  generalize (w.alloc (Obj.cells #[pv, rv, nv] 25)).alloc (Obj.cells #[pv', rv', nv'] 25) = W0 at *
  have k0 : W0.cell? ⟨w.heap.size, 0, none⟩ = some pv := HB1.out.cell 0
  have k1 : W0.cell? ⟨w.heap.size, 1, none⟩ = some rv := HB1.out.cell 1
  have k2 : W0.cell? ⟨w.heap.size, 2, none⟩ = some nv := HB1.out.cell 2
  go_upto_region 2 with (go_at_call 60; refine (CF1.out _ HX.out).mono ?_; rintro e w1 ⟨vb, vm, vl, vn, D, L, rfl, hx1, hway1, hwk1⟩; have HX1 := Lib.hid hx1; have HV := Lib.hid hway1; have HWK1 := Lib.hid hwk1; clear hx1 hway1 hwk1 k0 k1 k2)
  have j0 : w1.cell? ⟨w.heap.size + 1, 0, none⟩ = some pv' := (HB2.out.ext HX1.out).cell 0
  have j1 : w1.cell? ⟨w.heap.size + 1, 1, none⟩ = some rv' := (HB2.out.ext HX1.out).cell 1
  have j2 : w1.cell? ⟨w.heap.size + 1, 2, none⟩ = some nv' := (HB2.out.ext HX1.out).cell 2
  go_upto_region 3 with (go_at_call 60; refine (CF2.out _ (HX.out.trans HX1.out)).mono ?_; rintro e w2 ⟨ub, um, ul, un, D', L', rfl, hx2, hway2, hwk2⟩; have HX2 := Lib.hid hx2; have HU := Lib.hid hway2; have HWK2 := Lib.hid hwk2; clear hx2 hway2 hwk2 j0 j1 j2)
  have HV2 := Lib.hid (HV.out.ext HX2.out)
  have HXW := Lib.hid (HX.out.trans (HX1.out.trans HX2.out))
  have k0 : w2.cell? ⟨w.heap.size, 0, none⟩ = some pv := (HB1.out.ext (HX1.out.trans HX2.out)).cell 0
  have HTW : Hid (TwoAt p k pl rows rows' D L D' L' n 0 n) := by
    obtain ⟨d1, s1, e1, f1⟩ := HWK1.out.dig
    obtain ⟨d2, s2, e2, f2⟩ := HWK2.out.dig
    rw [HCL.out.1] at e1
    rw [HCL.out.2] at e2
    obtain ⟨rfl, -⟩ := Prod.mk.inj (Option.some.inj e1)
    obtain ⟨rfl, -⟩ := Prod.mk.inj (Option.some.inj e2)
    exact Lib.hid ⟨_, _, HWK1.out, HWK2.out, by rw [f1, f2]⟩
  clear HB1 HB2 CF1 CF2 HX HX1 HX2 HV
  have HPW := Lib.hid (HP.out.ext HXW.out)
  have HVL := Lib.hid (fun i (hi : i < n) => HV2.out.lookL (a := (i : Int)) (b := (i : Int) + 1) (by unfold Wf64; omega) (by unfold Wf64; omega) (HWK1.out.leaf HASC.out HLEN.out hn1 (by omega) i (by omega) (by omega)))
  have HUL := Lib.hid (fun i (hi : i < n) => HU.out.lookL (a := (i : Int)) (b := (i : Int) + 1) (by unfold Wf64; omega) (by unfold Wf64; omega) (HWK2.out.leaf HASC.out HLEN.out hn1 (by omega) i (by omega) (by omega)))
  go_wp2_with fail
  generalize w.heap.size = kb at *
  go_loopw [50] (fun x50 wr => ∃ i : Nat, i ≤ n ∧ x50 = .int .i64 i ∧ Hid (∀ j, j < i → (nthL rows j).map (fof p) = (nthL rows' j).map (fof p)) ∧ Hid (Ext w2 wr)) (fun x50 _ => n - (intOf x50).toNat)
  case atStart => exact ⟨0, Nat.zero_le _, rfl, Lib.hid (fun j hj => by omega), Lib.hid (Ext.refl _)⟩
  case round =>
    obtain ⟨i, hi, rfl, HI, HXR⟩ := hrel
    by_cases hil : i < n
    case neg =>
      exfalso
      obtain ⟨j, hj, hj2⟩ := HNE.out
      exact hj2 (HI.out j (by omega))
    have HIL := Lib.hid hil
    have hip := HPW.out.run_index (P := Tryz.prog) slInts i (by rw [HLEN.out]; exact hil)
    have hcp := (HPW.out.ext HXR.out).cell i (by rw [HLEN.out]; exact hil)
    rw [full_at HASC.out HLEN.out hil] at hcp
    have hw1 : IntKind.i64.wrap ((i : Int) + 1) = (i : Int) + 1 := IntWalk.i64_in _ (by omega)
    obtain ⟨xv, hxi, hxl⟩ := HVL.out i hil
    obtain ⟨yv, hyi, hyl⟩ := HUL.out i hil
    obtain ⟨xq, xo, xc, rfl⟩ := ints_some hxi (by simp)
    obtain ⟨yq, yo, yc, rfl⟩ := ints_some hyi (by simp)
    obtain ⟨lx, hlx⟩ : ∃ lx, 0 :: (nthL rows i).map (fof p) = lx := ⟨_, rfl⟩
    obtain ⟨ly, hly⟩ : ∃ ly, 0 :: (nthL rows' i).map (fof p) = ly := ⟨_, rfl⟩
    rw [hlx] at hxi hxl
    rw [hly] at hyi hyl
    have HLX := Lib.hid hlx; have HLY := Lib.hid hly
    have HXI := Lib.hid hxi; have HYI := Lib.hid hyi; have HXL := Lib.hid hxl; have HYL := Lib.hid hyl
    have HXA := Lib.hid (Ext.alloc wr (Obj.cells #[.int .i64 i, .int .i64 ((i : Int) + 1)] 112))
    have HBA := Lib.hid (BlkOf.new wr [.int .i64 i, .int .i64 ((i : Int) + 1)] 112)
    obtain ⟨gb, hgb⟩ : ∃ gb, wr.heap.size = gb := ⟨_, rfl⟩
    clear hxi hyi hxl hyl hlx hly k0
    go_upto_region 9 with (fail)
    generalize wr.alloc (Obj.cells #[.int .i64 i, .int .i64 ((i : Int) + 1)] 112) = wL at *
    rw [hgb] at HBA
    clear hgb
    have HXB := Lib.hid (HXR.out.trans HXA.out)
    have g0 : wL.cell? ⟨gb, 0, none⟩ = some (.int .i64 i) := HBA.out.cell 0
    have g1 : wL.cell? ⟨gb, 1, none⟩ = some (.int .i64 ((i : Int) + 1)) := HBA.out.cell 1
    have v1 : wL.cell? ⟨vb, 1, none⟩ = some (.map (some vl)) := (HV2.out.ext HXB.out).blk.cell 1
    have u1 : wL.cell? ⟨ub, 1, none⟩ = some (.map (some ul)) := (HU.out.ext HXB.out).blk.cell 1
    have lk1 := fun q => HXL.out (wL.drewN q) (HXB.out.trans (Ext.drewN wL q))
    have lk2 := fun q => HYL.out (wL.drewN q) (HXB.out.trans (Ext.drewN wL q))
    go_quiet (fail)
    clear g0 g1 v1 u1 lk1 lk2
    have HXC := Lib.hid (HXB.out.trans (Ext.drewN wL nq))
    have HBC := Lib.hid (HBA.out.ext (Ext.drewN wL nq))
    generalize wL.drewN nq = wM at *
    have hnl : ∀ w', (binOp .eql 22 (.slice (some ⟨yq, yo, none⟩) ly.length yc) (.slice none 0 0)).run Tryz.prog w' = .ok (.bool false) w' := fun w' => Lib.run_eql_slice_nil w' 22 3 (some ⟨yq, yo, none⟩) ly.length yc 0 0 Tryz.underlying22
    have CE := Lib.hid (pequal_any (HXI.out.ext HXC.out) (HYI.out.ext HXC.out))
    cases heq : (lx == ly) with
    | true =>
      rw [heq] at CE
      have HEQ := Lib.hid (show (nthL rows i).map (fof p) = (nthL rows' i).map (fof p) from by
        have h1 := beq_iff_eq.1 heq
        rw [← HLX.out, ← HLY.out] at h1
        exact (List.cons.inj h1).2)
      clear heq
      go_wp2_with (go_at_call 37; refine CE.out.mono ?_; rintro e w3 ⟨rfl, q3, rfl⟩)
      go_roundw
      case rel => exact ⟨i + 1, by have := HIL.out; omega, by go_num, Lib.hid (fun j hj => by
        rcases Nat.lt_or_eq_of_le (show j ≤ i by omega) with h | rfl
        · exact HI.out j h
        · exact HEQ.out), Lib.hid (HXC.out.trans (Ext.drewN _ _))⟩
      case measure => have := HIL.out; simp [intOf]; omega
    | false =>
      rw [heq] at CE
      have HNQ := Lib.hid (show ¬ (nthL rows i).map (fof p) = (nthL rows' i).map (fof p) from fun e => by
        have h1 : lx = ly := by rw [← HLX.out, ← HLY.out, e]
        rw [h1] at heq; simp at heq)
      clear heq
      go_upto_region 11 with (go_at_call 37; refine CE.out.mono ?_; rintro e w3 ⟨rfl, q3, rfl⟩)
      have HXD := Lib.hid (HXC.out.trans (Ext.drewN wM q3))
      generalize wM.drewN q3 = wN at *
      have HXE := Lib.hid (Ext.alloc wN (Obj.cells #[.int .i64 0, .int .i64 n] 112))
      have HBE := Lib.hid (BlkOf.new wN [.int .i64 0, .int .i64 n] 112)
      have HSE := Lib.hid HXD.out.size
      obtain ⟨gp, hgp⟩ : ∃ gp, wN.heap.size = gp := ⟨_, rfl⟩
      go_upto_region 12 with (fail)
      rw [hgp] at HBE
      have HGP := Lib.hid (show w2.heap.size ≤ gp from by rw [← hgp]; exact HSE.out)
      have HXF := Lib.hid (HXD.out.trans HXE.out)
      obtain ⟨wo, rfl⟩ : ∃ wo : World, wo = wr := ⟨_, rfl⟩
      generalize wN.alloc (Obj.cells #[.int .i64 0, .int .i64 n] 112) = wP at *
      clear hgp HXE HXD HXC HBC HXA HBA HXI HYI HXL HYL HLX HLY HXB CE hnl HVL HUL hip hcp
      go_loopw [22] (fun x22 wr => ∃ gq f a m : Nat, x22 = .pointer (some ⟨gq, 0, none⟩) ∧ Hid (TwoAt p k pl rows rows' D L D' L' f a m) ∧ a ≤ i ∧ i < a + m ∧ a + m ≤ n ∧ m ≤ f ∧ Hid (w2.heap.size ≤ gq) ∧ Hid (Ext w2 wr) ∧ Hid (BlkOf wr gq [.int .i64 (a : Int), .int .i64 ((a : Int) + m)] 112)) (fun x22 wr => spanOf wr x22)
      case atStart => exact ⟨gp, n, 0, n, rfl, HTW, by omega, by omega, by omega, Nat.le_refl _, HGP, HXF, Lib.hid (by have := HBE.out; rw [show ((0 : Nat) : Int) + (n : Int) = (n : Int) by omega]; exact this)⟩
      case round =>
        obtain ⟨gq, f, a, m, rfl, HT, ha1, ha2, ha3, hmf, HGQ, HXR2, HBR⟩ := hrel
        obtain ⟨l1, l2, d, e1, e2, e3, e4, e5, e6, e7, e8, e9, e10⟩ := HT.out.at H2P.out HASC.out HLEN.out (by omega) ha3
        have hll : 0 < l1.length ∧ 0 < l2.length ∧ l1.length ≤ 4294960001 ∧ l2.length ≤ 4294960001 := by
          by_cases h1 : m = 1
          · obtain ⟨r1, r2⟩ := e9 h1
            have h2 := HRW.out a (by have := HRN.out; omega)
            have h3 := HRW'.out a (by have := HRN.out; omega)
            rw [r1, r2]
            simp only [List.length_cons, List.length_map]
            omega
          · have := e10 h1; omega
        obtain ⟨xv, hxi, hxl⟩ := HV2.out.lookL (a := (a : Int)) (b := (a : Int) + m) (by unfold Wf64; omega) (by unfold Wf64; omega) e1
        obtain ⟨yv, hyi, hyl⟩ := HU.out.lookL (a := (a : Int)) (b := (a : Int) + m) (by unfold Wf64; omega) (by unfold Wf64; omega) e2
        obtain ⟨xq, xo, xc, rfl⟩ := ints_some hxi hll.1
        obtain ⟨yq, yo, yc, rfl⟩ := ints_some hyi hll.2.1
        have HLL := Lib.hid hll
        have HXI := Lib.hid hxi; have HYI := Lib.hid hyi; have HXL := Lib.hid hxl; have HYL := Lib.hid hyl
        have hd4 : d.length = 4 := by rw [← e5]; exact hashP_length _ _ _
        have HD1 := Lib.hid (fun W (hx : Ext w2 W) => by have := (HV2.out.ext hx).look (a := (a : Int)) (b := (a : Int) + m) (by unfold Wf64; omega) (by unfold Wf64; omega) e3; rw [digV_four hd4] at this; exact this)
        have HD2 := Lib.hid (fun W (hx : Ext w2 W) => by have := (HU.out.ext hx).look (a := (a : Int)) (b := (a : Int) + m) (by unfold Wf64; omega) (by unfold Wf64; omega) e4; rw [digV_four hd4] at this; exact this)
        generalize nth d 0 = x0 at HD1 HD2
        generalize nth d 1 = x1 at HD1 HD2
        generalize nth d 2 = x2 at HD1 HD2
        generalize nth d 3 = x3 at HD1 HD2
        have HE5 := Lib.hid (show hashP p k l1 = hashP p k l2 from e5.trans e6.symm)
        have HE7 := Lib.hid e7; have HE8 := Lib.hid e8; have HE9 := Lib.hid e9
        have HLE := Lib.hid (fun h : l1 = l2 => show L a ((a : Int) + m) = L' a ((a : Int) + m) from by rw [e1, e2, h])
        clear e1 e2 e3 e4 e5 e6 e7 e8 e9 e10 hll hxi hyi hxl hyl hd4
        have g0 : wr.cell? ⟨gq, 0, none⟩ = some (.int .i64 (a : Int)) := HBR.out.cell 0
        have g1 : wr.cell? ⟨gq, 1, none⟩ = some (.int .i64 ((a : Int) + m)) := HBR.out.cell 1
        have v1 : wr.cell? ⟨vb, 1, none⟩ = some (.map (some vl)) := (HV2.out.ext HXR2.out).blk.cell 1
        have u1 : wr.cell? ⟨ub, 1, none⟩ = some (.map (some ul)) := (HU.out.ext HXR2.out).blk.cell 1
        have lk1 := fun q => HXL.out (wr.drewN q) (HXR2.out.trans (Ext.drewN wr q))
        have lk2 := fun q => HYL.out (wr.drewN q) (HXR2.out.trans (Ext.drewN wr q))
        go_wp2_with fail
        go_quiet (fail)
        clear g0 g1 v1 u1 lk1 lk2
        have HXq := Lib.hid (HXR2.out.trans (Ext.drewN wr nq))
        have HBq := Lib.hid (HBR.out.ext (Ext.drewN wr nq))
        have hspan : spanOf wr (.pointer (some ⟨gq, 0, none⟩)) = m := spanOf_eq HBR.out
        have HSP := Lib.hid hspan
        clear hspan
        generalize wr.drewN nq = wq at *
        have g0 : wq.cell? ⟨gq, 0, none⟩ = some (.int .i64 (a : Int)) := HBq.out.cell 0
        have g1 : wq.cell? ⟨gq, 1, none⟩ = some (.int .i64 ((a : Int) + m)) := HBq.out.cell 1
        have v0 : wq.cell? ⟨vb, 0, none⟩ = some (.map (some vm)) := (HV2.out.ext HXq.out).blk.cell 0
        have u0 : wq.cell? ⟨ub, 0, none⟩ = some (.map (some um)) := (HU.out.ext HXq.out).blk.cell 0
        have lk1 := fun q => HD1.out (wq.drewN q) (HXq.out.trans (Ext.drewN wq q))
        have lk2 := fun q => HD2.out (wq.drewN q) (HXq.out.trans (Ext.drewN wq q))
        cases heq : (l1 == l2) with
        | true =>
          have CE := Lib.hid (fun q => pequal_q (HXI.out.ext HXq.out) (HYI.out.ext HXq.out) heq q)
          have HL12 := Lib.hid (beq_iff_eq.1 heq)
          clear heq
          go_wp2_with fail
          go_quiet ((go_at_call 37; exact CE.out _))
          obtain ⟨f', rfl⟩ : ∃ f', f = f' + 1 := ⟨f - 1, by omega⟩
          have hm2 : 2 ≤ m := by
            apply Classical.byContradiction
            intro hc
            have h1 : m = 1 := by omega
            obtain ⟨r1, r2⟩ := HE9.out h1
            have hai : a = i := by omega
            rw [HL12.out, r2, hai] at r1
            exact HNQ.out (List.cons.inj r1).2.symm
          obtain ⟨T1, T2⟩ := HT.out.down HASC.out HLEN.out hm2 ha3 (HLE.out HL12.out)
          have HT1 := Lib.hid T1; have HT2 := Lib.hid T2
          have hLB := lfN_bd hm2
          have CV := Lib.hid (fun W => thalves_any (w := W) a m hm2 (by omega))
          obtain ⟨h, hh⟩ : ∃ h, lfN m = h := ⟨_, rfl⟩
          rw [hh] at hLB CV HT1 HT2
          clear hh T1 T2 v0 u0 lk1 lk2 CE HD1 HD2 HXI HYI HXL HYL HLE HE9
          have HXr := Lib.hid (HXq.out.trans (Ext.drewN wq nq))
          have HBr := Lib.hid (HBq.out.ext (Ext.drewN wq nq))
          clear g0 g1
          generalize wq.drewN nq = wr2 at *
          have g0 : wr2.cell? ⟨gq, 0, none⟩ = some (.int .i64 (a : Int)) := HBr.out.cell 0
          have g1 : wr2.cell? ⟨gq, 1, none⟩ = some (.int .i64 ((a : Int) + m)) := HBr.out.cell 1
          go_upto_region 16 with (go_at_call 62; refine (CV.out _).mono ?_; rintro e w4 ⟨u4, rfl, hx4, rfl⟩; have HX4 := Lib.hid hx4; clear hx4)
          have HY1 := Lib.hid (BlkOf.new w4 [.int .i64 (a : Int), .int .i64 ((a : Int) + h)] 112)
          have HZ1 := Lib.hid (Ext.alloc w4 (Obj.cells #[.int .i64 (a : Int), .int .i64 ((a : Int) + h)] 112))
          have hy2 := BlkOf.new (w4.alloc (Obj.cells #[.int .i64 (a : Int), .int .i64 ((a : Int) + h)] 112)) [.int .i64 ((a : Int) + h), .int .i64 ((a : Int) + m)] 112
          rw [World.size_alloc] at hy2
          have HY2 := Lib.hid hy2
          have HZ2 := Lib.hid (Ext.alloc (w4.alloc (Obj.cells #[.int .i64 (a : Int), .int .i64 ((a : Int) + h)] 112)) (Obj.cells #[.int .i64 ((a : Int) + h), .int .i64 ((a : Int) + m)] 112))
          clear hy2 g0 g1
          have HG4 := Lib.hid (show gq < w4.heap.size from Nat.lt_of_lt_of_le HBr.out.lt HX4.out.size)
          generalize (w4.alloc (Obj.cells #[.int .i64 (a : Int), .int .i64 ((a : Int) + h)] 112)).alloc (Obj.cells #[.int .i64 ((a : Int) + h), .int .i64 ((a : Int) + m)] 112) = w5 at *
          have k0 : w5.cell? ⟨w4.heap.size, 0, none⟩ = some (.int .i64 (a : Int)) := (HY1.out.ext HZ2.out).cell 0
          have k1 : w5.cell? ⟨w4.heap.size, 1, none⟩ = some (.int .i64 ((a : Int) + h)) := (HY1.out.ext HZ2.out).cell 1
          have k2 : w5.cell? ⟨w4.heap.size + 1, 0, none⟩ = some (.int .i64 ((a : Int) + h)) := HY2.out.cell 0
          have k3 : w5.cell? ⟨w4.heap.size + 1, 1, none⟩ = some (.int .i64 ((a : Int) + m)) := HY2.out.cell 1
          have HB5 := Lib.hid (HBr.out.ext (HX4.out.trans (HZ1.out.trans HZ2.out)))
          have HX5 := Lib.hid (HXr.out.trans (HX4.out.trans (HZ1.out.trans HZ2.out)))
          have g0 : w5.cell? ⟨gq, 0, none⟩ = some (.int .i64 (a : Int)) := HB5.out.cell 0
          have g1 : w5.cell? ⟨gq, 1, none⟩ = some (.int .i64 ((a : Int) + m)) := HB5.out.cell 1
          have z0 : w5.frozen? ⟨gq, 0, none⟩ = false := HB5.out.free 0
          have z1 : w5.frozen? ⟨gq, 1, none⟩ = false := HB5.out.free 1
          obtain ⟨q1, hq1⟩ : ∃ q1, w4.heap.size = q1 := ⟨_, rfl⟩
          have hg4 := HG4.out
          have HW5 := Lib.hid (show q1 + 1 < w5.heap.size from by rw [← hq1]; exact HY2.out.lt)
          rw [hq1] at k0 k1 k2 k3 hg4 HY1 HY2
          have hne1 : ¬ (q1 = gq) := by omega
          have hne2 : ¬ (q1 + 1 = gq) := by omega
          have hne3 : ¬ (gq = q1) := by omega
          have hne4 : ¬ (gq = q1 + 1) := by omega
          rw [hq1]
          clear hq1
          go_upto_region 17 with (fail)
          have HB6 : Hid (BlkOf ((w5.setCell ⟨gq, 0, none⟩ (.int .i64 (a : Int))).setCell ⟨gq, 1, none⟩ (.int .i64 ((a : Int) + h))) gq [.int .i64 (a : Int), .int .i64 ((a : Int) + h)] 112) := Lib.hid ((HB5.out.set 0 _).set 1 _)
          have HX6 := Lib.hid (ext_set (ext_set HX5.out HGQ.out (o := 0) (v := .int .i64 (a : Int))) HGQ.out (o := 1) (v := .int .i64 ((a : Int) + h)))
          have HY6 : Hid (BlkOf ((w5.setCell ⟨gq, 0, none⟩ (.int .i64 (a : Int))).setCell ⟨gq, 1, none⟩ (.int .i64 ((a : Int) + h))) q1 [.int .i64 (a : Int), .int .i64 ((a : Int) + h)] 112) := Lib.hid (((HY1.out.ext HZ2.out).grown (setCell_grown _ _ _ _) (fun e => hne1 (Option.some.inj e))).grown (setCell_grown _ _ _ _) (fun e => hne1 (Option.some.inj e)))
          have HY7 : Hid (BlkOf ((w5.setCell ⟨gq, 0, none⟩ (.int .i64 (a : Int))).setCell ⟨gq, 1, none⟩ (.int .i64 ((a : Int) + h))) (q1 + 1) [.int .i64 ((a : Int) + h), .int .i64 ((a : Int) + m)] 112) := Lib.hid ((HY2.out.grown (setCell_grown _ _ _ _) (fun e => hne2 (Option.some.inj e))).grown (setCell_grown _ _ _ _) (fun e => hne2 (Option.some.inj e)))
          clear k0 k1 k2 k3 g0 g1 z0 z1
          generalize (w5.setCell ⟨gq, 0, none⟩ (.int .i64 (a : Int))).setCell ⟨gq, 1, none⟩ (.int .i64 ((a : Int) + h)) = w6 at *
          have k1 : w6.cell? ⟨q1, 1, none⟩ = some (.int .i64 ((a : Int) + h)) := HY6.out.cell 1
          have k2 : w6.cell? ⟨q1 + 1, 0, none⟩ = some (.int .i64 ((a : Int) + h)) := HY7.out.cell 0
          have k3 : w6.cell? ⟨q1 + 1, 1, none⟩ = some (.int .i64 ((a : Int) + m)) := HY7.out.cell 1
          have g0 : w6.cell? ⟨gq, 0, none⟩ = some (.int .i64 (a : Int)) := HB6.out.cell 0
          have g1 : w6.cell? ⟨gq, 1, none⟩ = some (.int .i64 ((a : Int) + h)) := HB6.out.cell 1
          have z0 : w6.frozen? ⟨gq, 0, none⟩ = false := HB6.out.free 0
          have z1 : w6.frozen? ⟨gq, 1, none⟩ = false := HB6.out.free 1
          by_cases hk : a + h ≤ i
          · have hki : ((a : Int) + h) ≤ (i : Int) := by omega
            go_upto_region 19 with (fail)
            have HB7 : Hid (BlkOf ((w6.setCell ⟨gq, 0, none⟩ (.int .i64 ((a : Int) + h))).setCell ⟨gq, 1, none⟩ (.int .i64 ((a : Int) + m))) gq [.int .i64 ((a : Int) + h), .int .i64 ((a : Int) + m)] 112) := Lib.hid ((HB6.out.set 0 _).set 1 _)
            have HX7 := Lib.hid (ext_set (ext_set HX6.out HGQ.out (o := 0) (v := .int .i64 ((a : Int) + h))) HGQ.out (o := 1) (v := .int .i64 ((a : Int) + m)))
            clear k1 k2 k3 g0 g1 z0 z1
            generalize (w6.setCell ⟨gq, 0, none⟩ (.int .i64 ((a : Int) + h))).setCell ⟨gq, 1, none⟩ (.int .i64 ((a : Int) + m)) = w7 at *
            have g0 : w7.cell? ⟨gq, 0, none⟩ = some (.int .i64 ((a : Int) + h)) := HB7.out.cell 0
            have g1 : w7.cell? ⟨gq, 1, none⟩ = some (.int .i64 ((a : Int) + m)) := HB7.out.cell 1
            have hn7 := BlkOf.new w7 [.int .i64 ((a : Int) + h), .int .i64 ((a : Int) + m)] 112
            have HXN := Lib.hid (HX7.out.trans (Ext.alloc w7 (Obj.cells #[.int .i64 ((a : Int) + h), .int .i64 ((a : Int) + m)] 112)))
            have HSN := Lib.hid HX7.out.size
            have HN : Hid (BlkOf (w7.alloc (Obj.cells #[.int .i64 ((a : Int) + h), .int .i64 ((a : Int) + m)] 112)) w7.heap.size [.int .i64 ((a + h : Nat) : Int), .int .i64 (((a + h : Nat) : Int) + ((m - h : Nat) : Int))] 112) := Lib.hid (by
              rw [show ((a + h : Nat) : Int) + ((m - h : Nat) : Int) = (a : Int) + m by omega, show ((a + h : Nat) : Int) = (a : Int) + h by omega]; exact hn7)
            clear hn7
            go_wp2_with fail
            go_roundw
            case rel => exact ⟨_, f', a + h, m - h, rfl, HT2, by omega, by omega, by omega, by omega, HSN, HXN, HN⟩
            case measure => rw [HSP.out, spanOf_eq HN.out]; omega
          · have hki : ¬ (((a : Int) + h) ≤ (i : Int)) := by omega
            go_upto_region 19 with (fail)
            have HN := Lib.hid (BlkOf.new w6 [.int .i64 (a : Int), .int .i64 ((a : Int) + h)] 112)
            have HXN := Lib.hid (HX6.out.trans (Ext.alloc w6 (Obj.cells #[.int .i64 (a : Int), .int .i64 ((a : Int) + h)] 112)))
            have HSN := Lib.hid HX6.out.size
            go_wp2_with fail
            go_roundw
            case rel => exact ⟨_, f', a, h, rfl, HT1, ha1, by omega, by omega, by omega, HSN, HXN, HN⟩
            case measure => rw [HSP.out, spanOf_eq HN.out]; omega
        | false =>
          have CE := Lib.hid (fun q => pequal_q (HXI.out.ext HXq.out) (HYI.out.ext HXq.out) heq q)
          have HL12 := Lib.hid (show l1 ≠ l2 from beq_eq_false_iff_ne.1 heq)
          clear heq
          have hq4 : ∀ w', (Op.equalIn 10000 117 (.agg #[.int .i64 x0, .int .i64 x1, .int .i64 x2, .int .i64 x3]) (.agg #[.int .i64 x0, .int .i64 x1, .int .i64 x2, .int .i64 x3])).run Tryz.prog w' = .ok true w' := fun w' => by rw [run_eq_arr4]; simp
          go_wp2_with fail
          go_quiet ((go_at_call 37; exact CE.out _))
          clear v0 u0 lk1 lk2 CE HD1 HD2 HXL HYL HLE hq4 g0 g1
          have HXr := Lib.hid (HXq.out.trans (Ext.drewN wq nq))
          generalize wq.drewN nq = wr2 at *
          have CK1 := Lib.hid (clone_any (HXI.out.ext HXr.out) (by have := HLL.out; omega))
          go_upto_region 15 with (go_at_call 61; refine CK1.out.mono ?_; rintro e w4 ⟨v4, rfl, hx4, ho4⟩; have HX4 := Lib.hid hx4; have HO4 := Lib.hid ho4; clear hx4 ho4)
          refine (clone_any ((HYI.out.ext HXr.out).ext HX4.out) (by have := HLL.out; omega)).mono ?_
          rintro e w5 ⟨v5, rfl, hx5, ho5⟩
          have HX5 := Lib.hid hx5
          have HO5 := Lib.hid ho5
          clear hx5 ho5
          go_wp2_with fail
          go_ret3
          have h1 := HXr.out.trans (HX4.out.trans HX5.out)
          have h2 := HLL.out
          exact ⟨v4, v5, l1, l2, rfl, HXW.out.trans h1, (Ints.of_own (own_ext HO4.out HX5.out)), Ints.of_own HO5.out, HE5.out, HE7.out, HE8.out, HL12.out, by omega, by omega⟩
end
end Go.Proofs.YtcpnidomdkaefaaGreatDoor
