/- What the gates of a circuit are, the program's side: the walker. -/
import Derived.Test.YtaajjaadlpgbiaaGreatDoorCc
import Derived.Test.YtaajjaadlpgbiaaGreatDoorZx3
import Derived.Test.YtaajjaadlpgbiaaGreatDoorQt
/-! What the gates of a circuit are, the program's side: the walker. -/
namespace Go.Att
open Go.RowKit
/-- The program's walker: its field, its circuit, its values. -/
structure Wlk (w : World) (b : Nat) (f : Value) (wd : Int) (lv vv : Value) : Prop where
  c0 : w.cell? ⟨b, 0, none⟩ = some f
  c1 : w.cell? ⟨b, 1, none⟩ = some (.int .i64 wd)
  c2 : w.cell? ⟨b, 2, none⟩ = some lv
  c3 : w.cell? ⟨b, 3, none⟩ = some vv
  fz : w.frozen? ⟨b, 3, none⟩ = false
theorem Wlk.ext {w w' : World} {b : Nat} {f : Value} {wd : Int} {lv vv : Value} (h : Wlk w b f wd lv vv) (hx : Ext w w') : Wlk w' b f wd lv vv :=
  ⟨hx.cell h.c0, hx.cell h.c1, hx.cell h.c2, hx.cell h.c3, by rw [World.frozen?_of_block (hx.below.block b (World.block_lt_of_cell? w ⟨b, 3, none⟩ h.c3))]; exact h.fz⟩
theorem Wlk.grown {w w' : World} {b : Nat} {f : Value} {wd : Int} {lv vv : Value} {r : Option Nat} (h : Wlk w b f wd lv vv) (hg : w.grownBy w' r) (hne : some b ≠ r) : Wlk w' b f wd lv vv :=
  ⟨hg.cell h.c0 hne, hg.cell h.c1 hne, hg.cell h.c2 hne, hg.cell h.c3 hne, by rw [World.frozen?_of_block (hg.block b (World.block_lt_of_cell? w ⟨b, 3, none⟩ h.c3) hne)]; exact h.fz⟩
/-- New values are laid in. -/
theorem Wlk.set {w : World} {b : Nat} {f : Value} {wd : Int} {lv vv : Value} (h : Wlk w b f wd lv vv) (v' : Value) : Wlk (w.setCell ⟨b, 3, none⟩ v') b f wd lv v' := by
  refine ⟨?_, ?_, ?_, World.cell?_setCell_same _ _ _ h.c3, by rw [World.frozen?_setCell]; exact h.fz⟩
  · rw [World.cell?_setCell_other _ _ _ _ (by simp)]; exact h.c0
  · rw [World.cell?_setCell_other _ _ _ _ (by simp)]; exact h.c1
  · rw [World.cell?_setCell_other _ _ _ _ (by simp)]; exact h.c2
/-- What a gate makes of two elements. -/
def fapp (p k x y : Int) : Int := if k = 1 then fmul p x y else fadd p x y
theorem gval_app (p : Int) (row : List Int) (k : Int) (a b : Nat) : gval p row (k, a, b) = fapp p k (nth row a) (nth row b) := by simp [gval, fapp]
/-- What is wrong with a circuit and so many inputs. -/
noncomputable def walkErr (wd : Int) (Ls : List (List Tri)) (n : Nat) : Int := if cirErr wd Ls = 0 then (if (n : Int) = 2 ^ wd.toNat then 0 else 2) else cirErr wd Ls
theorem walkErr_ok {wd : Int} {Ls : List (List Tri)} {n : Nat} (h : walkErr wd Ls n = 0) : cirErr wd Ls = 0 ∧ (n : Int) = 2 ^ wd.toNat := by
  unfold walkErr at h
  split at h
  · split at h
    · exact ⟨by assumption, by assumption⟩
    · omega
  · exact absurd h (by assumption)
end Go.Att
namespace Go.Proofs.YtaajjaadlpgbiaaGreatDoor
open Go.RowKit Go.Att

set_option maxRecDepth 100000 in
set_option maxHeartbeats 1000000 in
theorem apply_any {w : World} {b : Nat} {f : Value} {p g : Int} {fs : List Int} {wd : Int} {lv vv : Value} (hf : Fld w f p g fs) (hw : Wlk w b f wd lv vv) (k x y : Int) (hk : k = 0 ∨ k = 1) :
    Calls Tryz.prog 113 #[.pointer (some ⟨b, 0, none⟩), .int .i64 k, .int .i64 x, .int .i64 y] w (Rd w (.int .i64 (fapp p k x y))) := by
  obtain ⟨bf, rfl⟩ := hf.ptr
  have C := Lib.hid hf; clear hf
  obtain ⟨c0, c1, c2, c3, fz⟩ := hw
  rcases hk with rfl | rfl
  · go_enter Tryz.func113, Tryz.ntmps113
    go_wp2_with (go_at_call 70; refine (add_any C.out _ _).mono ?_; rintro e w' ⟨rfl, m, rfl⟩)
    go_ret
    exact .more _ rfl
  · go_enter Tryz.func113, Tryz.ntmps113
    go_wp2_with (go_at_call 71; refine (mul_any C.out _ _).mono ?_; rintro e w' ⟨rfl, m, rfl⟩)
    go_ret
    exact .more _ rfl

set_option maxRecDepth 100000 in
set_option maxHeartbeats 1000000 in
theorem walker_bad (f : Value) (wd : Int) (lv vi : Value) (Ls : List (List Tri)) (R : Nat → Value) (inp : List Int) (w : World) (hv : LysAt w lv Ls R) (hi : Ints w vi inp) (hE : walkErr wd Ls inp.length ≠ 0) :
    Calls Tryz.prog 59 #[f, .agg #[.int .i64 wd, lv], vi] w fun e w' => e = .returned (.tuple #[.pointer none, errv (walkErr wd Ls inp.length)]) ∧ Ext w w' := by
  have hli := hi.run_len (P := Tryz.prog) slInts
  have HV := Lib.hid hv
  obtain ⟨ao, cap, rfl⟩ := hv.shape
  clear hv hi
  by_cases h0 : cirErr wd Ls = 0
  · obtain ⟨hS, -⟩ := cirErr_ok h0
    obtain ⟨wn, rfl⟩ := Int.eq_ofNat_of_zero_le hS.1
    have hw6 : wn ≤ 6 := by have := hS.2.1; omega
    have hp2 := pow2_small hw6
    clear hS
    have h2 : ¬ (inp.length : Int) = 2 ^ wn := by
      intro e
      unfold walkErr at hE
      rw [if_pos h0, Int.toNat_natCast, if_pos e] at hE
      exact hE rfl
    have hW : walkErr wn Ls inp.length = 2 := by unfold walkErr; rw [if_pos h0, Int.toNat_natCast, if_neg h2]
    have hb : ((inp.length : Int) != 2 ^ wn) = true := by rw [bne_iff_ne]; exact h2
    rw [hW, errv_pos (by decide)]
    have E0 := Lib.hid (show errv (cirErr wn Ls) = .nilIface by rw [h0, errv_zero])
    clear hE h0 h2 hW
    go_enter Tryz.func59, Tryz.ntmps59
    have c0 := cell_new w #[.int .i64 wn, .slice ao Ls.length cap] 48 0
    have c1 := cell_new w #[.int .i64 wn, .slice ao Ls.length cap] 48 1
    go_wp2_with (go_at_call 47; refine (checked_any _ _ Ls R _ (HV.out.ext (Ext.alloc _ _))).mono ?_; rw [E0.out]; rintro e w2 ⟨rfl, hx2⟩; replace c0 : w2.cell? ⟨w.heap.size, 0, none⟩ = some (.int .i64 wn) := hx2.cell c0; replace c1 : w2.cell? ⟨w.heap.size, 1, none⟩ = some (.slice ao Ls.length cap) := hx2.cell c1; replace hx2 := (Ext.alloc _ _).trans hx2)
    go_ret2
    exact ⟨rfl, hx2⟩
  · have hW : walkErr wd Ls inp.length = cirErr wd Ls := by unfold walkErr; rw [if_neg h0]
    rw [hW, errv_pos h0]
    have E0 := Lib.hid (errv_pos h0)
    clear hE h0 hW
    go_enter Tryz.func59, Tryz.ntmps59
    go_wp2_with (go_at_call 47; refine (checked_any _ _ Ls R _ (HV.out.ext (Ext.alloc _ _))).mono ?_; rw [E0.out]; rintro e w2 ⟨rfl, hx2⟩)
    go_ret2
    exact ⟨rfl, (Ext.alloc _ _).trans hx2⟩
end Go.Proofs.YtaajjaadlpgbiaaGreatDoor
/-! What the gates of a circuit are, the program's side: the walker of a circuit that is right. -/
namespace Go.Att
theorem map_take_step (g : Int → Int) {l : List Int} {i : Nat} (h : i < l.length) : (((l.take (i + 1)).map g).map (Value.int .i64)) = ((l.take i).map g).map (Value.int .i64) ++ [.int .i64 (g (nth l i))] := by
  rw [List.take_succ_eq_append_getElem h, ← nth_eq h]; simp
theorem vals_zero (p : Int) (Ls : List (List Tri)) (inp : List Int) : vals p Ls inp 0 = [inp.map (fof p)] := by simp [vals, vrow]
end Go.Att
namespace Go.Proofs.YtaajjaadlpgbiaaGreatDoor
open Go.RowKit Go.Att

set_option maxRecDepth 100000 in
set_option maxHeartbeats 4000000 in
theorem walker_ok {w : World} {bf : Nat} {p g : Int} {fs : List Int} (hf : Fld w (.pointer (some ⟨bf, 0, none⟩)) p g fs) (wd : Int) (lv vi : Value) (Ls : List (List Tri)) (R : Nat → Value) (inp : List Int) (hv : LysAt w lv Ls R) (hi : Ints w vi inp) (hE : walkErr wd Ls inp.length = 0) :
    Calls Tryz.prog 59 #[.pointer (some ⟨bf, 0, none⟩), .agg #[.int .i64 wd, lv], vi] w (Gives w fun v w' => ∃ b vv S, v = .tuple #[.pointer (some ⟨b, 0, none⟩), .nilIface] ∧ Wlk w' b (.pointer (some ⟨bf, 0, none⟩)) wd lv vv ∧ Grid (b + 1) w' 23 vv (vals p Ls inp Ls.length) S ∧ w.heap.size ≤ b) := by
  obtain ⟨h0, hin⟩ := walkErr_ok hE
  obtain ⟨hS, hG⟩ := cirErr_ok h0
  obtain ⟨ao, cap, rfl⟩ := hv.shape
  obtain ⟨wn, rfl⟩ := Int.eq_ofNat_of_zero_le hS.1
  rw [Int.toNat_natCast] at hin
  have hw6 : wn ≤ 6 := by have := hS.2.1; omega
  have hp2 := pow2_small hw6
  have hlen : (Ls.length : Int) ≤ 8 := by have := hS.2.2.2.1; omega
  have hil : inp.length ≤ 64 := by omega
  have hb : ((inp.length : Int) != 2 ^ wn) = false := by rw [bne_eq_false_iff_eq]; exact hin
  have hll := hv.run_len (P := Tryz.prog) slLayers
  have hli := hi.run_len (P := Tryz.prog) slInts
  have E0 := Lib.hid (show errv (cirErr wn Ls) = .nilIface by rw [h0, errv_zero])
  have HV := Lib.hid hv; have HI := Lib.hid hi; have HS := Lib.hid hS; have HG := Lib.hid hG; have HIN := Lib.hid hin; have C := Lib.hid hf
  clear hv hi hS hG hE hin h0 hf
  have c0 := cell_new w #[.int .i64 wn, .slice ao Ls.length cap] 48 0
  have c1 := cell_new w #[.int .i64 wn, .slice ao Ls.length cap] 48 1
  go_enter Tryz.func59, Tryz.ntmps59
  go_wp2_with (go_at_call 47; refine (checked_any _ _ Ls R _ (HV.out.ext (Ext.alloc _ _))).mono ?_; rw [E0.out]; rintro e w2 ⟨rfl, hx2⟩; have hlt : w.heap.size < w2.heap.size := (by have := hx2.size; simp at this; omega); replace c0 : w2.cell? ⟨w.heap.size, 0, none⟩ = some (.int .i64 wn) := hx2.cell c0; replace c1 : w2.cell? ⟨w.heap.size, 1, none⟩ = some (.slice ao Ls.length cap) := hx2.cell c1; replace hx2 := (Ext.alloc _ _).trans hx2)
  have k0 := cell_new w2 #[.pointer (some ⟨bf, 0, none⟩), .int .i64 wn, .slice ao Ls.length cap, .slice none 0 0] 118 0
  have k1 := cell_new w2 #[.pointer (some ⟨bf, 0, none⟩), .int .i64 wn, .slice ao Ls.length cap, .slice none 0 0] 118 1
  have k2 := cell_new w2 #[.pointer (some ⟨bf, 0, none⟩), .int .i64 wn, .slice ao Ls.length cap, .slice none 0 0] 118 2
  have k3 := cell_new w2 #[.pointer (some ⟨bf, 0, none⟩), .int .i64 wn, .slice ao Ls.length cap, .slice none 0 0] 118 3
  have kf : (w2.alloc (Obj.cells #[.pointer (some ⟨bf, 0, none⟩), .int .i64 wn, .slice ao Ls.length cap, .slice none 0 0] 118)).frozen? ⟨w2.heap.size, 3, none⟩ = false := by simp
  have hx3 := Ext.alloc w2 (Obj.cells #[.pointer (some ⟨bf, 0, none⟩), .int .i64 wn, .slice ao Ls.length cap, .slice none 0 0] 118)
  have hsz : (w2.alloc (Obj.cells #[.pointer (some ⟨bf, 0, none⟩), .int .i64 wn, .slice ao Ls.length cap, .slice none 0 0] 118)).heap.size = w2.heap.size + 1 := by simp
  generalize hW3 : World.alloc w2 _ = W3 at *
  clear hW3
  have HWK := Lib.hid (show Wlk W3 w2.heap.size (.pointer (some ⟨bf, 0, none⟩)) wn (.slice ao Ls.length cap) (.slice none 0 0) from ⟨k0, k1, k2, k3, kf⟩)
  clear k0 k1 k2 k3 kf
  have HSZ := Lib.hid hsz; clear hsz
  go_loopw [10, 12, 35] (fun x10 _ x35 wr => ∃ i : Nat, i ≤ inp.length ∧ x35 = .int .i64 i ∧ wr.ownsRow W3.heap.size 3 1 x10 i (((inp.take i).map (fof p)).map (Value.int .i64)) ∧ Ext W3 wr) (fun _ _ x35 _ => inp.length - (intOf x35).toNat)
  case atStart => exact ⟨0, Nat.zero_le _, rfl, World.ownsRow_nil _ _ _ _, Ext.refl _⟩
  case round =>
    obtain ⟨i, hi, rfl, hown, hx⟩ := hrel
    by_cases hii : i < inp.length
    · have hix := HI.out.run_index (P := Tryz.prog) slInts i hii
      have hci := (HI.out.ext ((hx2.trans hx3).trans hx)).cell i hii
      have HF := Lib.hid (C.out.ext ((hx2.trans hx3).trans hx))
      have HST := Lib.hid (map_take_step (fof p) hii)
      go_wp2_with (first | (go_at_call 66; refine (of_any HF.out _).mono ?_; rintro e w' hrd; obtain ⟨rfl, hx4⟩ := hrd.ext; clear hrd; replace hown := own_ext hown hx4; replace hx := hx.trans hx4; clear hx4 hci) | (at_builtin; refine wpList_appNw rfl _ _ 23 rfl slInts rfl hx.size hown rfl _ rfl (by intro u hu; simp at hu; subst hu; rfl) rfl (by omega) (by omega) ?_; intro v' w7 HO7 HG7 HW7))
      go_roundw
      case rel => exact ⟨i + 1, by omega, by go_num, by rw [HST.out]; exact HO7, Ext.own_grown hx hown HG7⟩
      case measure => simp [intOf]; omega
    · obtain rfl : i = inp.length := by omega
      rw [List.take_length] at hown
      have hrow := Ints.of_own hown
      have hfar : ∀ k, Value.ownBlock _ = some k → W3.heap.size ≤ k ∧ k < wr.heap.size ∧ some k ≠ (Value.slice none 0 0).ownBlock := fun k hk => ⟨(hown.lt k hk).1, (hown.lt k hk).2, by simp [Value.ownBlock]⟩
      obtain ⟨ao2, cap2, rfl⟩ := own_shape hown
      have hg0 : Grid W3.heap.size wr 23 (.slice none 0 0) [] (fun _ => .slice none 0 0) := Grid.nil _ _ _ _
      obtain ⟨k0, k1, k2, k3, kf⟩ := HWK.out.ext hx
      go_wp2_with (at_builtin; refine wpList_appNw rfl _ _ 22 rfl slRows rfl hx.size hg0.own rfl _ rfl (by intro u hu; simp at hu; subst hu; rfl) rfl (by simp) (by omega) ?_; intro v' w7 HO7 HG7 HW7; clear k0 k1 k2 k3 kf; have hx7 := Ext.own_grown hx hg0.own HG7; obtain ⟨k0, k1, k2, k3, kf⟩ := HWK.out.ext hx7; have hgr := hg0.push hrow hfar HO7 HG7 HW7; obtain ⟨ao3, cap3, rfl⟩ := own_shape HO7; clear HG7 HW7 HO7; have hsg := setCell_grown w7 w2.heap.size 3 (.slice ao3 1 cap3); have hc1 := hsg.cell ((hx3.trans hx7).cell c1) (by simp; omega))
      have hwk := (show Wlk w7 w2.heap.size (.pointer (some ⟨bf, 0, none⟩)) wn (.slice ao Ls.length cap) (.slice none 0 0) from ⟨k0, k1, k2, k3, kf⟩).set (.slice ao3 1 cap3)
      rw [HSZ.out] at hgr
      have hgr2 := hgr.low hsg (by omega)
      have hx8 : Ext w2 (w7.setCell ⟨w2.heap.size, 3, none⟩ (.slice ao3 1 cap3)) := (hx3.trans hx7).below.setCell (Nat.le_refl _) _
      rw [List.nil_append, ← vals_zero p Ls inp] at hgr2
      clear k0 k1 k2 k3 kf hgr hsg hg0 hx7 hx hown hrow hfar
      generalize w7.setCell ⟨w2.heap.size, 3, none⟩ (.slice ao3 1 cap3) = W8 at *
      go_loopw [10, 13, 14, 16, 59] (fun _ _ _ _ x59 wr => ∃ (i : Nat) (vv : Value) (S : Nat → Value), i ≤ Ls.length ∧ x59 = .int .i64 i ∧ Wlk wr w2.heap.size (.pointer (some ⟨bf, 0, none⟩)) wn (.slice ao Ls.length cap) vv ∧ Grid (w2.heap.size + 1) wr 23 vv (vals p Ls inp i) S ∧ Ext w2 wr) (fun _ _ _ _ x59 _ => Ls.length - (intOf x59).toNat)
      case atStart => exact ⟨0, _, _, Nat.zero_le _, rfl, hwk, hgr2, hx8⟩
      case round =>
        obtain ⟨i, vv, S, hi, rfl, hwk, hgr, hx⟩ := hrel
        clear hc1
        have HWKR := Lib.hid hwk; have HGR := Lib.hid hgr
        by_cases hil2 : i < Ls.length
        · have hV := HV.out.ext (hx2.trans hx)
          have hix := hV.run_index (P := Tryz.prog) slLayers i hil2
          have hc := hV.cell i hil2
          have hrow := hV.row i hil2
          have hln := hrow.run_len (P := Tryz.prog) slGates
          have hl64 := wideOf_le (HS.out.2.2.2.2 i hil2)
          have HROW := Lib.hid hrow
          have hbl := vrow_length (p := p) (wd := wn) (Ls := Ls) (inp := inp) (by rw [Int.toNat_natCast]; exact HIN.out) i
          have HOK := Lib.hid (HG.out i hil2)
          have hsz2 : w2.heap.size < wr.heap.size := World.block_lt_of_cell? _ ⟨w2.heap.size, 0, none⟩ HWKR.out.c0
          clear hV hrow hwk hgr
          go_wp2_with fail
          clear hix hc
          go_loopw [10, 16, 66] (fun x10 _ x66 ws => ∃ k : Nat, k ≤ (nthY Ls i).length ∧ x66 = .int .i64 k ∧ ws.ownsRow wr.heap.size 3 1 x10 k ((((nthY Ls i).take k).map (gval p (vrow p Ls inp i))).map (Value.int .i64)) ∧ Ext wr ws) (fun _ _ x66 _ => (nthY Ls i).length - (intOf x66).toNat)
          case atStart => exact ⟨0, Nat.zero_le _, rfl, World.ownsRow_nil _ _ _ _, Ext.refl _⟩
          case round =>
            obtain ⟨k, hk, rfl, hown, hxs⟩ := hrel
            by_cases hkl : k < (nthY Ls i).length
            · have hrow := HROW.out.ext hxs
              have hix2 := hrow.run_index (P := Tryz.prog) slGates k hkl
              have g0 := hrow.c0 k hkl
              have g1 := hrow.c1 k hkl
              have g2 := hrow.c2 k hkl
              have hok := HOK.out k hkl
              rw [← hbl] at hok
              have HST := Lib.hid (vrow_step p (vrow p Ls inp i) hkl)
              clear hrow
              generalize hg : nthT (nthY Ls i) k = G at g0 g1 g2 hok HST
              obtain ⟨gk, ga, gb⟩ := G
              have HGG := Lib.hid hg; clear hg
              simp only [gateOk] at g0 g1 g2 hok
              obtain ⟨o1, o2, o3, o4, o5, o6⟩ := hok
              obtain ⟨a, rfl⟩ := Int.eq_ofNat_of_zero_le o3
              obtain ⟨b, rfl⟩ := Int.eq_ofNat_of_zero_le o5
              have hgk : gk = 0 ∨ gk = 1 := by omega
              have HX9 := hxs.trans (Ext.alloc wr (Obj.cells #[.int .i64 gk, .int .i64 a, .int .i64 b] 61))
              have HGR9 := Lib.hid (HGR.out.ext HX9)
              have HWK9 := Lib.hid (HWKR.out.ext HX9)
              have HF9 := Lib.hid (C.out.ext ((hx2.trans hx).trans HX9))
              have hown9 := own_ext hown (Ext.alloc wr (Obj.cells #[.int .i64 gk, .int .i64 a, .int .i64 b] 61))
              have HQ0 := cell_new wr #[.int .i64 gk, .int .i64 a, .int .i64 b] 61 0
              have HQ1 := cell_new wr #[.int .i64 gk, .int .i64 a, .int .i64 b] 61 1
              have HQ2 := cell_new wr #[.int .i64 gk, .int .i64 a, .int .i64 b] 61 2
              clear o1 o2 o3 o5
              go_wp2_with fail
              generalize hW9 : World.alloc wr _ = W9 at *
              replace HQ0 : W9.cell? ⟨wr.heap.size, 0, none⟩ = some (.int .i64 gk) := HQ0
              replace HQ1 : W9.cell? ⟨wr.heap.size, 1, none⟩ = some (.int .i64 a) := HQ1
              replace HQ2 : W9.cell? ⟨wr.heap.size, 2, none⟩ = some (.int .i64 b) := HQ2
              clear hW9 g0 g1 g2 hix2 hown
              have hvl : i < (vals p Ls inp i).length := by rw [vals_length]; omega
              have hiv := HGR9.out.rws.run_index (P := Tryz.prog) slRows i hvl
              have hcv := HGR9.out.rws.cell i hvl
              have hrv := HGR9.out.row i hvl
              rw [vals_nth _ _ _ (Nat.le_refl _)] at hrv
              have hia := hrv.run_index (P := Tryz.prog) slInts a (by omega)
              have hib := hrv.run_index (P := Tryz.prog) slInts b (by omega)
              have hca := hrv.cell a (by omega)
              have hcb := hrv.cell b (by omega)
              obtain ⟨k0, k1, k2, k3, kf⟩ := HWK9.out
              clear hrv hvl
              refine wp_region_move_quiet_tail 27 _ (by kernel_rfl) rfl rfl (by kernel_rfl) ?_
              simp only [List.take_succ_cons, List.take_zero, List.drop_succ_cons, List.drop_zero]
              repeat (go_big_quiet_step ((go_at_call 113; exact Calls.quiet_of (apply_any (HF9.out.drewN _) (HWK9.out.ext (Ext.drewN _ _)) _ _ _ hgk))))
              refine wpQuiet_nil ?_
              rintro _ ⟨nq, rfl⟩
              have HX10 := HX9.trans (Ext.drewN W9 nq)
              have hown10 := own_ext hown9 (Ext.drewN W9 nq)
              clear k0 k1 k2 k3 kf hiv hcv hia hib hca hcb HQ0 HQ1 HQ2
              go_wp2_with (at_builtin; refine wpList_appNw rfl _ _ 23 rfl slInts rfl HX10.size hown10 rfl _ rfl (by intro u hu; simp at hu; subst hu; rfl) rfl (by omega) (by omega) ?_; intro v' w11 HO11 HG11 HW11)
              refine NoPan.normal ?_
              go_wp2_with fail
              go_roundw
              case rel => exact ⟨k + 1, by omega, by go_num, by rw [HST.out, gval_app]; exact HO11, Ext.own_grown HX10 hown10 HG11⟩
              case measure => simp [intOf]; omega
            · obtain rfl : k = (nthY Ls i).length := by omega
              rw [List.take_length] at hown
              have hgr := HGR.out.ext hxs
              have hwk := HWKR.out.ext hxs
              have hnx := Ints.of_own hown
              have hfar : ∀ k, Value.ownBlock _ = some k → w2.heap.size + 1 ≤ k ∧ k < wr.heap.size ∧ some k ≠ vv.ownBlock := fun k hk => ⟨by have := (hown.lt k hk).1; omega, (hown.lt k hk).2, fun hc => by have h1 := (hown.lt k hk).1; have h2 := (HGR.out.own.lt k hc.symm).2; omega⟩
              obtain ⟨ao4, cap4, rfl⟩ := own_shape hown
              have HX5 := hx.trans hxs
              have VS := Lib.hid (vals_succ p Ls inp i)
              have hvl := vals_length p Ls inp i
              have hne : some w2.heap.size ≠ vv.ownBlock := fun hc => by have := (hgr.own.lt _ hc.symm).1; omega
              have hsz3 := HX5.size
              obtain ⟨k0, k1, k2, k3, kf⟩ := hwk
              clear hown
              go_wp2_with (at_builtin; refine wpList_appNw rfl _ _ 22 rfl slRows rfl (by have := hxs.size; omega) hgr.own rfl _ rfl (by intro u hu; simp at hu; subst hu; rfl) rfl (by omega) (by omega) ?_; intro v' w7 HO7 HG7 HW7; clear k0 k1 k2 k3 kf; obtain ⟨k0, k1, k2, k3, kf⟩ := (HWKR.out.ext hxs).grown HG7 hne; have hpush := hgr.push hnx hfar HO7 HG7 HW7; obtain ⟨ao5, cap5, rfl⟩ := own_shape HO7)
              go_roundw
              case rel =>
                rw [show vals p Ls inp i ++ [(nthY Ls i).map (gval p (vrow p Ls inp i))] = vals p Ls inp (i + 1) from VS.out.symm, hvl] at hpush
                have hx7 : Ext w2 w7 := Below.grown HX5.below HG7 HX5.size (fun k hk => by have := (hgr.own.lt k hk).1; omega)
                exact ⟨i + 1, _, _, by omega, by go_num, (show Wlk w7 w2.heap.size (.pointer (some ⟨bf, 0, none⟩)) wn (.slice ao Ls.length cap) vv from ⟨k0, k1, k2, k3, kf⟩).set _, hpush.low (setCell_grown w7 w2.heap.size 3 _) (by omega), hx7.below.setCell (Nat.le_refl _) _⟩
              case measure => simp [intOf]; omega
        · obtain rfl : i = Ls.length := by omega
          go_wp2_with fail
          go_ret2
          exact .mk _ rfl (hx2.trans hx) ⟨_, _, _, rfl, HWKR.out, HGR.out, by omega⟩
end Go.Proofs.YtaajjaadlpgbiaaGreatDoor
/-! What the gates of a circuit are, the program's side: Values. -/
namespace Go.Att
open Go.RowKit
theorem Ints.based {w : World} {v : Value} {l : List Int} (h : Ints w v l) (h0 : 0 < l.length) : ∃ b off cap, v = .slice (some ⟨b, off, none⟩) l.length cap ∧ l.length ≤ cap ∧ cap ≤ maxLen := by
  obtain ⟨ao, cap, rfl, h2, h3, h4, h5⟩ := h
  obtain ⟨b, off, rfl, _⟩ := h5 0 (by simpa using h0)
  exact ⟨b, off, cap, rfl, h3, h4⟩
theorem Ints.clip {w : World} {b off cap : Nat} {l : List Int} (h : Ints w (.slice (some ⟨b, off, none⟩) l.length cap) l) : Ints w (.slice (some ⟨b, off, none⟩) l.length l.length) l := by
  obtain ⟨ao, cap', hv, h2, h3, h4, h5⟩ := h
  simp at hv
  obtain ⟨rfl, rfl⟩ := hv
  exact ⟨_, _, rfl, h2, Nat.le_refl _, by omega, h5⟩
end Go.Att
namespace Go.Proofs.YtaajjaadlpgbiaaGreatDoor
open Go.RowKit Go.Att

set_option maxRecDepth 100000 in
theorem clip_any (b off n cap : Nat) (w : World) (h : n ≤ cap) (_h2 : cap ≤ maxLen) :
    Calls Tryz.prog 60 #[.slice (some ⟨b, off, none⟩) n cap] w fun e w' => e = .returned (.slice (some ⟨b, off, none⟩) n n) ∧ w = w' := by
  go_enter Tryz.func60, Tryz.ntmps60
  go_wp2_with fail
  go_ret
  exact ⟨rfl, rfl⟩

theorem vrow_pos {p wd : Int} {Ls : List (List Tri)} {inp : List Int} (hS : cirSizes wd Ls) (hin : (inp.length : Int) = 2 ^ wd.toNat) {i : Nat} (hi : i ≤ Ls.length) : 0 < (vrow p Ls inp i).length := by
  have h1 := vrow_length (p := p) (Ls := Ls) hin i
  have h2 : 1 ≤ below wd Ls i := by
    unfold below
    split
    · have h6 : wd.toNat ≤ 6 := by have := hS.2.1; omega
      exact (pow2_small h6).1
    · exact (wideOf_le (hS.2.2.2.2 (i - 1) (by omega))).1
  omega

set_option maxRecDepth 100000 in
set_option maxHeartbeats 1000000 in
theorem values_bad (f : Value) (wd : Int) (lv vi : Value) (Ls : List (List Tri)) (R : Nat → Value) (inp : List Int) (w : World) (hv : LysAt w lv Ls R) (hi : Ints w vi inp) (hE : walkErr wd Ls inp.length ≠ 0) :
    Calls Tryz.prog 21 #[f, .agg #[.int .i64 wd, lv], vi] w fun e w' => e = .returned (.tuple #[.slice none 0 0, errv (walkErr wd Ls inp.length)]) ∧ Ext w w' := by
  have HV := Lib.hid hv; have HI := Lib.hid hi
  obtain ⟨ao, cap, rfl⟩ := hv.shape
  clear hv hi
  have E := Lib.hid (errv_pos hE)
  rw [E.out]
  have HE := Lib.hid hE; clear hE
  go_enter Tryz.func21, Tryz.ntmps21
  go_wp2_with (go_at_call 59; refine (walker_bad _ wd _ _ Ls R inp _ (HV.out.ext (Ext.alloc _ _)) (HI.out.ext (Ext.alloc _ _)) HE.out).mono ?_; rw [E.out]; rintro e w2 ⟨rfl, hx2⟩)
  go_ret2
  exact ⟨rfl, (Ext.alloc _ _).trans hx2⟩

set_option maxRecDepth 100000 in
set_option maxHeartbeats 4000000 in
theorem values_ok {w : World} {bf : Nat} {p g : Int} {fs : List Int} (hf : Fld w (.pointer (some ⟨bf, 0, none⟩)) p g fs) (wd : Int) (lv vi : Value) (Ls : List (List Tri)) (R : Nat → Value) (inp : List Int) (hv : LysAt w lv Ls R) (hi : Ints w vi inp) (hE : walkErr wd Ls inp.length = 0) :
    Calls Tryz.prog 21 #[.pointer (some ⟨bf, 0, none⟩), .agg #[.int .i64 wd, lv], vi] w (Gives w fun v w' => ∃ u, v = .tuple #[u, .nilIface] ∧ Rws w' u (vals p Ls inp Ls.length)) := by
  obtain ⟨h0, hin⟩ := walkErr_ok hE
  obtain ⟨hS, hG⟩ := cirErr_ok h0
  have HPOS := Lib.hid (fun i (hi : i ≤ Ls.length) => vrow_pos (p := p) hS hin hi)
  have HV := Lib.hid hv; have HI := Lib.hid hi; have HE := Lib.hid hE; have C := Lib.hid hf
  have hlen : Ls.length ≤ 8 := hS.2.2.2.1
  obtain ⟨ao, cap, rfl⟩ := hv.shape
  clear hv hi hE hf hS hG h0 hin
  go_enter Tryz.func21, Tryz.ntmps21
  go_wp2_with (go_at_call 59; refine (walker_ok (C.out.ext (Ext.alloc _ _)) wd _ _ Ls R inp (HV.out.ext (Ext.alloc _ _)) (HI.out.ext (Ext.alloc _ _)) HE.out).mono ?_; rintro e w2 ⟨v, rfl, hx2, b, vv, S, rfl, hwk, hgr, hb⟩; replace hx2 := (Ext.alloc _ _).trans hx2; have hlv := hgr.rws.run_len (P := Tryz.prog) slRows; rw [vals_length] at hlv; have HWK := Lib.hid hwk; have HGR := Lib.hid hgr; obtain ⟨k0, k1, k2, k3, kf⟩ := hwk; clear hgr)
  clear k0 k1 k2 k3 kf
  go_loopw [10, 26] (fun _ x26 wr => ∃ (i : Nat) (S : Nat → Value), i ≤ Ls.length + 1 ∧ x26 = .int .i64 i ∧ Wlk wr b (.pointer (some ⟨bf, 0, none⟩)) wd (.slice ao Ls.length cap) vv ∧ Grid (b + 1) wr 23 vv (vals p Ls inp Ls.length) S ∧ Ext w wr) (fun _ x26 _ => Ls.length + 1 - (intOf x26).toNat)
  case atStart => exact ⟨0, S, Nat.zero_le _, rfl, HWK.out, HGR.out, hx2⟩
  case round =>
    obtain ⟨i, S, hi, rfl, hwk, hgr, hx⟩ := hrel
    have HW := Lib.hid hwk; have HG := Lib.hid hgr
    obtain ⟨k0, k1, k2, k3, kf⟩ := hwk
    by_cases hil : i < Ls.length + 1
    · have hvl : i < (vals p Ls inp Ls.length).length := by rw [vals_length]; exact hil
      have hiv := hgr.rws.run_index (P := Tryz.prog) slRows i hvl
      have hcv := hgr.rws.cell i hvl
      have hrv := hgr.row i hvl
      have hlt := hgr.lt i hvl
      rw [vals_nth _ _ _ (by omega)] at hrv
      obtain ⟨rb, ro, rc, he, hle, hm⟩ := hrv.based (HPOS.out i (by omega))
      rw [he] at hcv hrv hlt
      have HCL := Lib.hid hrv.clip
      have HLT := Lib.hid hlt
      have HE2 := Lib.hid he
      clear hrv hlt he hgr
      generalize (vrow p Ls inp i).length = N at *
      go_wp2_with fail
      refine wp_region_quiet_tail 14 (by kernel_rfl) (by kernel_rfl) ?_
      simp only [List.take_succ_cons, List.take_zero, List.drop_succ_cons, List.drop_zero]
      repeat (go_big_quiet_step ((go_at_call 60; exact (clip_any _ _ _ _ _ hle hm).mono fun _ _ h => ⟨h.1, _, h.2.symm⟩)))
      refine wpQuiet_nil ?_
      rintro _ ⟨nq, rfl⟩
      have hx3 := hx.trans (Ext.drewN wr nq)
      have HW3 := Lib.hid (HW.out.ext (Ext.drewN wr nq))
      have HG3 := Lib.hid (HG.out.ext (Ext.drewN wr nq))
      have HCL3 := Lib.hid (HCL.out.drewN nq)
      generalize wr.drewN nq = W3 at *
      clear k0 k1 k2 k3 kf hiv hcv
      go_wp2_with (refine wpList_set rfl rfl _ _ 23 rfl slRows HG3.out.own i hvl rfl (.slice (some ⟨rb, ro, none⟩) N N) rfl rfl (by intro u hu; simp [Value.cells] at hu; subst hu; rfl) ?_; intro w4 HO4 HG4)
      go_roundw
      case rel =>
        have hbsz : w.heap.size ≤ b := by simp at hb; omega
        have hx4 : Ext w w4 := Below.grown hx3.below HG4 hx3.size (fun k hk => by have := (HG3.out.own.lt k hk).1; omega)
        refine ⟨i + 1, _, by omega, by go_num, HW3.out.grown HG4 (fun hc => by have := (HG3.out.own.lt _ hc.symm).1; omega), HG3.out.set hvl ?_ ?_ HO4 HG4, hx4⟩
        · rw [vals_nth _ _ _ (by omega)]; exact HCL3.out
        · exact fun k hk => ⟨(HLT.out k hk).1, by have h1 := HG3.out.lt i hvl k (by rw [HE2.out]; exact hk); exact h1.2.1, (HLT.out k hk).2.2⟩
      case measure => simp [intOf]; omega
    · obtain rfl : i = Ls.length + 1 := by omega
      go_wp2_with fail
      go_ret2
      exact .mk _ rfl hx ⟨_, rfl, ⟨S, HG.out.rws⟩⟩
end Go.Proofs.YtaajjaadlpgbiaaGreatDoor
