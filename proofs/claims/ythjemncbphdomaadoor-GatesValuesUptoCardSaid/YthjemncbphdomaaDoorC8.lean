/- What the gates of a circuit are, the program's side: the walker of a circuit that is right. -/
import Derived.Test.YthjemncbphdomaaDoorC7
namespace Go.Att
theorem map_take_step (g : Int → Int) {l : List Int} {i : Nat} (h : i < l.length) : (((l.take (i + 1)).map g).map (Value.int .i64)) = ((l.take i).map g).map (Value.int .i64) ++ [.int .i64 (g (nth l i))] := by
  rw [List.take_succ_eq_append_getElem h, ← nth_eq h]; simp
theorem vals_zero (p : Int) (Ls : List (List Tri)) (inp : List Int) : vals p Ls inp 0 = [inp.map (fof p)] := by simp [vals, vrow]
end Go.Att
namespace Go.Proofs.YthjemncbphdomaaDoor
open Go.RowKit Go.Att

set_option maxRecDepth 100000 in
set_option maxHeartbeats 4000000 in
theorem walker_ok {w : World} {bf : Nat} {p g : Int} {fs : List Int} (hf : Fld w (.pointer (some ⟨bf, 0, none⟩)) p g fs) (wd : Int) (lv vi : Value) (Ls : List (List Tri)) (R : Nat → Value) (inp : List Int) (hv : LysAt w lv Ls R) (hi : Ints w vi inp) (hE : walkErr wd Ls inp.length = 0) :
    Calls Tryd.prog 107 #[.pointer (some ⟨bf, 0, none⟩), .agg #[.int .i64 wd, lv], vi] w (Gives w fun v w' => ∃ b vv S, v = .tuple #[.pointer (some ⟨b, 0, none⟩), .nilIface] ∧ Wlk w' b (.pointer (some ⟨bf, 0, none⟩)) wd lv vv ∧ Grid (b + 1) w' 23 vv (vals p Ls inp Ls.length) S ∧ w.heap.size ≤ b) := by
  obtain ⟨h0, hin⟩ := walkErr_ok hE
  obtain ⟨hS, hG⟩ := cirErr_ok h0
  obtain ⟨ao, cap, rfl⟩ := hv.shape
  obtain ⟨wn, rfl⟩ := Int.eq_ofNat_of_zero_le hS.1
  rw [Int.toNat_natCast] at hin
  have hw6 : wn ≤ 6 := by have := hS.2.1; omega
  have hp2 := pow2_small hw6
  have hlen : (Ls.length : Int) ≤ 8 := by have := hS.2.2.2.1; omega
  have hil : inp.length ≤ 64 := by omega
  have hb : ((inp.length : Int) != 2 ^ wn) = false := by rw [bne_eq_false_iff_eq]; exact hin
  have hll := hv.run_len (P := Tryd.prog) slLayers
  have hli := hi.run_len (P := Tryd.prog) slInts
  have E0 := Lib.hid (show errv (cirErr wn Ls) = .nilIface by rw [h0, errv_zero])
  have HV := Lib.hid hv; have HI := Lib.hid hi; have HS := Lib.hid hS; have HG := Lib.hid hG; have HIN := Lib.hid hin; have C := Lib.hid hf
  clear hv hi hS hG hE hin h0 hf
  have c0 := cell_new w #[.int .i64 wn, .slice ao Ls.length cap] 80 0
  have c1 := cell_new w #[.int .i64 wn, .slice ao Ls.length cap] 80 1
  go_enter Tryd.func107, Tryd.ntmps107
  go_wp2_with (go_at_call 109; refine (checked_any _ _ Ls R _ (HV.out.ext (Ext.alloc _ _))).mono ?_; rw [E0.out]; rintro e w2 ⟨rfl, hx2⟩; have hlt : w.heap.size < w2.heap.size := (by have := hx2.size; simp at this; omega); replace c0 : w2.cell? ⟨w.heap.size, 0, none⟩ = some (.int .i64 wn) := hx2.cell c0; replace c1 : w2.cell? ⟨w.heap.size, 1, none⟩ = some (.slice ao Ls.length cap) := hx2.cell c1; replace hx2 := (Ext.alloc _ _).trans hx2)
  have k0 := cell_new w2 #[.pointer (some ⟨bf, 0, none⟩), .int .i64 wn, .slice ao Ls.length cap, .slice none 0 0] 179 0
  have k1 := cell_new w2 #[.pointer (some ⟨bf, 0, none⟩), .int .i64 wn, .slice ao Ls.length cap, .slice none 0 0] 179 1
  have k2 := cell_new w2 #[.pointer (some ⟨bf, 0, none⟩), .int .i64 wn, .slice ao Ls.length cap, .slice none 0 0] 179 2
  have k3 := cell_new w2 #[.pointer (some ⟨bf, 0, none⟩), .int .i64 wn, .slice ao Ls.length cap, .slice none 0 0] 179 3
  have kf : (w2.alloc (Obj.cells #[.pointer (some ⟨bf, 0, none⟩), .int .i64 wn, .slice ao Ls.length cap, .slice none 0 0] 179)).frozen? ⟨w2.heap.size, 3, none⟩ = false := by simp
  have hx3 := Ext.alloc w2 (Obj.cells #[.pointer (some ⟨bf, 0, none⟩), .int .i64 wn, .slice ao Ls.length cap, .slice none 0 0] 179)
  have hsz : (w2.alloc (Obj.cells #[.pointer (some ⟨bf, 0, none⟩), .int .i64 wn, .slice ao Ls.length cap, .slice none 0 0] 179)).heap.size = w2.heap.size + 1 := by simp
  generalize hW3 : World.alloc w2 _ = W3 at *
  clear hW3
  have HWK := Lib.hid (show Wlk W3 w2.heap.size (.pointer (some ⟨bf, 0, none⟩)) wn (.slice ao Ls.length cap) (.slice none 0 0) from ⟨k0, k1, k2, k3, kf⟩)
  clear k0 k1 k2 k3 kf
  have HSZ := Lib.hid hsz; clear hsz
  go_loopw [10, 12, 35] (fun x10 _ x35 wr => ∃ i : Nat, i ≤ inp.length ∧ x35 = .int .i64 i ∧ wr.ownsRow W3.heap.size 3 1 x10 i (((inp.take i).map (fof p)).map (Value.int .i64)) ∧ Ext W3 wr) (fun _ _ x35 _ => inp.length - (intOf x35).toNat)
  case atStart => exact ⟨0, Nat.zero_le _, rfl, World.ownsRow_nil _ _ _ _, Ext.refl _⟩
  case round =>
    obtain ⟨i, hi, rfl, hown, hx⟩ := hrel
    by_cases hii : i < inp.length
    · have hix := HI.out.run_index (P := Tryd.prog) slInts i hii
      have hci := (HI.out.ext ((hx2.trans hx3).trans hx)).cell i hii
      have HF := Lib.hid (C.out.ext ((hx2.trans hx3).trans hx))
      have HST := Lib.hid (map_take_step (fof p) hii)
      go_wp2_with (first | (go_at_call 91; refine (of_any HF.out _).mono ?_; rintro e w' hrd; obtain ⟨rfl, hx4⟩ := hrd.ext; clear hrd; replace hown := own_ext hown hx4; replace hx := hx.trans hx4; clear hx4 hci) | (at_builtin; refine wpList_appNw rfl _ _ 23 rfl slInts rfl hx.size hown rfl _ rfl (by intro u hu; simp at hu; subst hu; rfl) rfl (by omega) (by omega) ?_; intro v' w7 HO7 HG7 HW7))
      go_roundw
      case rel => exact ⟨i + 1, by omega, by go_num, by rw [HST.out]; exact HO7, Ext.own_grown hx hown HG7⟩
      case measure => simp [intOf]; omega
    · obtain rfl : i = inp.length := by omega
      rw [List.take_length] at hown
      have hrow := Ints.of_own hown
      have hfar : ∀ k, Value.ownBlock _ = some k → W3.heap.size ≤ k ∧ k < wr.heap.size ∧ some k ≠ (Value.slice none 0 0).ownBlock := fun k hk => ⟨(hown.lt k hk).1, (hown.lt k hk).2, by simp [Value.ownBlock]⟩
      obtain ⟨ao2, cap2, rfl⟩ := own_shape hown
      have hg0 : Grid W3.heap.size wr 23 (.slice none 0 0) [] (fun _ => .slice none 0 0) := Grid.nil _ _ _ _
      obtain ⟨k0, k1, k2, k3, kf⟩ := HWK.out.ext hx
      go_wp2_with (at_builtin; refine wpList_appNw rfl _ _ 35 rfl slRows rfl hx.size hg0.own rfl _ rfl (by intro u hu; simp at hu; subst hu; rfl) rfl (by simp) (by omega) ?_; intro v' w7 HO7 HG7 HW7; clear k0 k1 k2 k3 kf; have hx7 := Ext.own_grown hx hg0.own HG7; obtain ⟨k0, k1, k2, k3, kf⟩ := HWK.out.ext hx7; have hgr := hg0.push hrow hfar HO7 HG7 HW7; obtain ⟨ao3, cap3, rfl⟩ := own_shape HO7; clear HG7 HW7 HO7; have hsg := setCell_grown w7 w2.heap.size 3 (.slice ao3 1 cap3); have hc1 := hsg.cell ((hx3.trans hx7).cell c1) (by simp; omega))
      have hwk := (show Wlk w7 w2.heap.size (.pointer (some ⟨bf, 0, none⟩)) wn (.slice ao Ls.length cap) (.slice none 0 0) from ⟨k0, k1, k2, k3, kf⟩).set (.slice ao3 1 cap3)
      rw [HSZ.out] at hgr
      have hgr2 := hgr.low hsg (by omega)
      have hx8 : Ext w2 (w7.setCell ⟨w2.heap.size, 3, none⟩ (.slice ao3 1 cap3)) := (hx3.trans hx7).below.setCell (Nat.le_refl _) _
      rw [List.nil_append, ← vals_zero p Ls inp] at hgr2
      clear k0 k1 k2 k3 kf hgr hsg hg0 hx7 hx hown hrow hfar
      generalize w7.setCell ⟨w2.heap.size, 3, none⟩ (.slice ao3 1 cap3) = W8 at *
      go_loopw [10, 13, 14, 16, 59] (fun _ _ _ _ x59 wr => ∃ (i : Nat) (vv : Value) (S : Nat → Value), i ≤ Ls.length ∧ x59 = .int .i64 i ∧ Wlk wr w2.heap.size (.pointer (some ⟨bf, 0, none⟩)) wn (.slice ao Ls.length cap) vv ∧ Grid (w2.heap.size + 1) wr 23 vv (vals p Ls inp i) S ∧ Ext w2 wr) (fun _ _ _ _ x59 _ => Ls.length - (intOf x59).toNat)
      case atStart => exact ⟨0, _, _, Nat.zero_le _, rfl, hwk, hgr2, hx8⟩
      case round =>
        obtain ⟨i, vv, S, hi, rfl, hwk, hgr, hx⟩ := hrel
        clear hc1
        have HWKR := Lib.hid hwk; have HGR := Lib.hid hgr
        by_cases hil2 : i < Ls.length
        · have hV := HV.out.ext (hx2.trans hx)
          have hix := hV.run_index (P := Tryd.prog) slLayers i hil2
          have hc := hV.cell i hil2
          have hrow := hV.row i hil2
          have hln := hrow.run_len (P := Tryd.prog) slGates
          have hl64 := wideOf_le (HS.out.2.2.2.2 i hil2)
          have HROW := Lib.hid hrow
          have hbl := vrow_length (p := p) (wd := wn) (Ls := Ls) (inp := inp) (by rw [Int.toNat_natCast]; exact HIN.out) i
          have HOK := Lib.hid (HG.out i hil2)
          have hsz2 : w2.heap.size < wr.heap.size := World.block_lt_of_cell? _ ⟨w2.heap.size, 0, none⟩ HWKR.out.c0
          clear hV hrow hwk hgr
          go_wp2_with fail
          clear hix hc
          go_loopw [10, 16, 66] (fun x10 _ x66 ws => ∃ k : Nat, k ≤ (nthY Ls i).length ∧ x66 = .int .i64 k ∧ ws.ownsRow wr.heap.size 3 1 x10 k ((((nthY Ls i).take k).map (gval p (vrow p Ls inp i))).map (Value.int .i64)) ∧ Ext wr ws) (fun _ _ x66 _ => (nthY Ls i).length - (intOf x66).toNat)
          case atStart => exact ⟨0, Nat.zero_le _, rfl, World.ownsRow_nil _ _ _ _, Ext.refl _⟩
          case round =>
            obtain ⟨k, hk, rfl, hown, hxs⟩ := hrel
            by_cases hkl : k < (nthY Ls i).length
            · have hrow := HROW.out.ext hxs
              have hix2 := hrow.run_index (P := Tryd.prog) slGates k hkl
              have g0 := hrow.c0 k hkl
              have g1 := hrow.c1 k hkl
              have g2 := hrow.c2 k hkl
              have hok := HOK.out k hkl
              rw [← hbl] at hok
              have HST := Lib.hid (vrow_step p (vrow p Ls inp i) hkl)
              clear hrow
              generalize hg : nthT (nthY Ls i) k = G at g0 g1 g2 hok HST
              obtain ⟨gk, ga, gb⟩ := G
              have HGG := Lib.hid hg; clear hg
              simp only [gateOk] at g0 g1 g2 hok
              obtain ⟨o1, o2, o3, o4, o5, o6⟩ := hok
              obtain ⟨a, rfl⟩ := Int.eq_ofNat_of_zero_le o3
              obtain ⟨b, rfl⟩ := Int.eq_ofNat_of_zero_le o5
              have hgk : gk = 0 ∨ gk = 1 := by omega
              have HX9 := hxs.trans (Ext.alloc wr (Obj.cells #[.int .i64 gk, .int .i64 a, .int .i64 b] 104))
              have HGR9 := Lib.hid (HGR.out.ext HX9)
              have HWK9 := Lib.hid (HWKR.out.ext HX9)
              have HF9 := Lib.hid (C.out.ext ((hx2.trans hx).trans HX9))
              have hown9 := own_ext hown (Ext.alloc wr (Obj.cells #[.int .i64 gk, .int .i64 a, .int .i64 b] 104))
              have HQ0 := cell_new wr #[.int .i64 gk, .int .i64 a, .int .i64 b] 104 0
              have HQ1 := cell_new wr #[.int .i64 gk, .int .i64 a, .int .i64 b] 104 1
              have HQ2 := cell_new wr #[.int .i64 gk, .int .i64 a, .int .i64 b] 104 2
              clear o1 o2 o3 o5
              go_wp2_with fail
              generalize hW9 : World.alloc wr _ = W9 at *
              replace HQ0 : W9.cell? ⟨wr.heap.size, 0, none⟩ = some (.int .i64 gk) := HQ0
              replace HQ1 : W9.cell? ⟨wr.heap.size, 1, none⟩ = some (.int .i64 a) := HQ1
              replace HQ2 : W9.cell? ⟨wr.heap.size, 2, none⟩ = some (.int .i64 b) := HQ2
              clear hW9 g0 g1 g2 hix2 hown
              have hvl : i < (vals p Ls inp i).length := by rw [vals_length]; omega
              have hiv := HGR9.out.rws.run_index (P := Tryd.prog) slRows i hvl
              have hcv := HGR9.out.rws.cell i hvl
              have hrv := HGR9.out.row i hvl
              rw [vals_nth _ _ _ (Nat.le_refl _)] at hrv
              have hia := hrv.run_index (P := Tryd.prog) slInts a (by omega)
              have hib := hrv.run_index (P := Tryd.prog) slInts b (by omega)
              have hca := hrv.cell a (by omega)
              have hcb := hrv.cell b (by omega)
              obtain ⟨k0, k1, k2, k3, kf⟩ := HWK9.out
              clear hrv hvl
              refine wp_region_move_quiet_tail 27 _ (by kernel_rfl) rfl rfl (by kernel_rfl) ?_
              simp only [List.take_succ_cons, List.take_zero, List.drop_succ_cons, List.drop_zero]
              repeat (go_big_quiet_step ((go_at_call 154; exact Calls.quiet_of (apply_any (HF9.out.drewN _) (HWK9.out.ext (Ext.drewN _ _)) _ _ _ hgk))))
              refine wpQuiet_nil ?_
              rintro _ ⟨nq, rfl⟩
              have HX10 := HX9.trans (Ext.drewN W9 nq)
              have hown10 := own_ext hown9 (Ext.drewN W9 nq)
              clear k0 k1 k2 k3 kf hiv hcv hia hib hca hcb HQ0 HQ1 HQ2
              go_wp2_with (at_builtin; refine wpList_appNw rfl _ _ 23 rfl slInts rfl HX10.size hown10 rfl _ rfl (by intro u hu; simp at hu; subst hu; rfl) rfl (by omega) (by omega) ?_; intro v' w11 HO11 HG11 HW11)
              refine NoPan.normal ?_
              go_wp2_with fail
              go_roundw
              case rel => exact ⟨k + 1, by omega, by go_num, by rw [HST.out, gval_app]; exact HO11, Ext.own_grown HX10 hown10 HG11⟩
              case measure => simp [intOf]; omega
            · obtain rfl : k = (nthY Ls i).length := by omega
              rw [List.take_length] at hown
              have hgr := HGR.out.ext hxs
              have hwk := HWKR.out.ext hxs
              have hnx := Ints.of_own hown
              have hfar : ∀ k, Value.ownBlock _ = some k → w2.heap.size + 1 ≤ k ∧ k < wr.heap.size ∧ some k ≠ vv.ownBlock := fun k hk => ⟨by have := (hown.lt k hk).1; omega, (hown.lt k hk).2, fun hc => by have h1 := (hown.lt k hk).1; have h2 := (HGR.out.own.lt k hc.symm).2; omega⟩
              obtain ⟨ao4, cap4, rfl⟩ := own_shape hown
              have HX5 := hx.trans hxs
              have VS := Lib.hid (vals_succ p Ls inp i)
              have hvl := vals_length p Ls inp i
              have hne : some w2.heap.size ≠ vv.ownBlock := fun hc => by have := (hgr.own.lt _ hc.symm).1; omega
              have hsz3 := HX5.size
              obtain ⟨k0, k1, k2, k3, kf⟩ := hwk
              clear hown
              go_wp2_with (at_builtin; refine wpList_appNw rfl _ _ 35 rfl slRows rfl (by have := hxs.size; omega) hgr.own rfl _ rfl (by intro u hu; simp at hu; subst hu; rfl) rfl (by omega) (by omega) ?_; intro v' w7 HO7 HG7 HW7; clear k0 k1 k2 k3 kf; obtain ⟨k0, k1, k2, k3, kf⟩ := (HWKR.out.ext hxs).grown HG7 hne; have hpush := hgr.push hnx hfar HO7 HG7 HW7; obtain ⟨ao5, cap5, rfl⟩ := own_shape HO7)
              go_roundw
              case rel =>
                rw [show vals p Ls inp i ++ [(nthY Ls i).map (gval p (vrow p Ls inp i))] = vals p Ls inp (i + 1) from VS.out.symm, hvl] at hpush
                have hx7 : Ext w2 w7 := Below.grown HX5.below HG7 HX5.size (fun k hk => by have := (hgr.own.lt k hk).1; omega)
                exact ⟨i + 1, _, _, by omega, by go_num, (show Wlk w7 w2.heap.size (.pointer (some ⟨bf, 0, none⟩)) wn (.slice ao Ls.length cap) vv from ⟨k0, k1, k2, k3, kf⟩).set _, hpush.low (setCell_grown w7 w2.heap.size 3 _) (by omega), hx7.below.setCell (Nat.le_refl _) _⟩
              case measure => simp [intOf]; omega
        · obtain rfl : i = Ls.length := by omega
          go_wp2_with fail
          go_ret2
          exact .mk _ rfl (hx2.trans hx) ⟨_, _, _, rfl, HWKR.out, HGR.out, by omega⟩
end Go.Proofs.YthjemncbphdomaaDoor
