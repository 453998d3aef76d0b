/- What the gates of a circuit are, the program's side: Values. -/
import Derived.Test.YthjemncbphdomaaDoorC8
namespace Go.Att
open Go.RowKit
theorem Ints.based {w : World} {v : Value} {l : List Int} (h : Ints w v l) (h0 : 0 < l.length) : ∃ b off cap, v = .slice (some ⟨b, off, none⟩) l.length cap ∧ l.length ≤ cap ∧ cap ≤ maxLen := by
  obtain ⟨ao, cap, rfl, h2, h3, h4, h5⟩ := h
  obtain ⟨b, off, rfl, _⟩ := h5 0 (by simpa using h0)
  exact ⟨b, off, cap, rfl, h3, h4⟩
theorem Ints.clip {w : World} {b off cap : Nat} {l : List Int} (h : Ints w (.slice (some ⟨b, off, none⟩) l.length cap) l) : Ints w (.slice (some ⟨b, off, none⟩) l.length l.length) l := by
  obtain ⟨ao, cap', hv, h2, h3, h4, h5⟩ := h
  simp at hv
  obtain ⟨rfl, rfl⟩ := hv
  exact ⟨_, _, rfl, h2, Nat.le_refl _, by omega, h5⟩
end Go.Att
namespace Go.Proofs.YthjemncbphdomaaDoor
open Go.RowKit Go.Att

set_option maxRecDepth 100000 in
theorem clip_any (b off n cap : Nat) (w : World) (h : n ≤ cap) (h2 : cap ≤ maxLen) :
    Calls Tryd.prog 108 #[.slice (some ⟨b, off, none⟩) n cap] w fun e w' => e = .returned (.slice (some ⟨b, off, none⟩) n n) ∧ w = w' := by
  unfold maxLen at h2
  go_enter Tryd.func108, Tryd.ntmps108
  go_wp2_with fail
  go_ret
  exact ⟨rfl, rfl⟩

theorem vrow_pos {p wd : Int} {Ls : List (List Tri)} {inp : List Int} (hS : cirSizes wd Ls) (hin : (inp.length : Int) = 2 ^ wd.toNat) {i : Nat} (hi : i ≤ Ls.length) : 0 < (vrow p Ls inp i).length := by
  have h1 := vrow_length (p := p) (Ls := Ls) hin i
  have h2 : 1 ≤ below wd Ls i := by
    unfold below
    split
    · have h6 : wd.toNat ≤ 6 := by have := hS.2.1; omega
      exact (pow2_small h6).1
    · exact (wideOf_le (hS.2.2.2.2 (i - 1) (by omega))).1
  omega

set_option maxRecDepth 100000 in
set_option maxHeartbeats 1000000 in
theorem values_bad (f : Value) (wd : Int) (lv vi : Value) (Ls : List (List Tri)) (R : Nat → Value) (inp : List Int) (w : World) (hv : LysAt w lv Ls R) (hi : Ints w vi inp) (hE : walkErr wd Ls inp.length ≠ 0) :
    Calls Tryd.prog 33 #[f, .agg #[.int .i64 wd, lv], vi] w fun e w' => e = .returned (.tuple #[.slice none 0 0, errv (walkErr wd Ls inp.length)]) ∧ Ext w w' := by
  have HV := Lib.hid hv; have HI := Lib.hid hi
  obtain ⟨ao, cap, rfl⟩ := hv.shape
  clear hv hi
  have E := Lib.hid (errv_pos hE)
  rw [E.out]
  have HE := Lib.hid hE; clear hE
  go_enter Tryd.func33, Tryd.ntmps33
  go_wp2_with (go_at_call 107; refine (walker_bad _ wd _ _ Ls R inp _ (HV.out.ext (Ext.alloc _ _)) (HI.out.ext (Ext.alloc _ _)) HE.out).mono ?_; rw [E.out]; rintro e w2 ⟨rfl, hx2⟩)
  go_ret2
  exact ⟨rfl, (Ext.alloc _ _).trans hx2⟩

set_option maxRecDepth 100000 in
set_option maxHeartbeats 4000000 in
theorem values_ok {w : World} {bf : Nat} {p g : Int} {fs : List Int} (hf : Fld w (.pointer (some ⟨bf, 0, none⟩)) p g fs) (wd : Int) (lv vi : Value) (Ls : List (List Tri)) (R : Nat → Value) (inp : List Int) (hv : LysAt w lv Ls R) (hi : Ints w vi inp) (hE : walkErr wd Ls inp.length = 0) :
    Calls Tryd.prog 33 #[.pointer (some ⟨bf, 0, none⟩), .agg #[.int .i64 wd, lv], vi] w (Gives w fun v w' => ∃ u, v = .tuple #[u, .nilIface] ∧ Rws w' u (vals p Ls inp Ls.length)) := by
  obtain ⟨h0, hin⟩ := walkErr_ok hE
  obtain ⟨hS, hG⟩ := cirErr_ok h0
  have HPOS := Lib.hid (fun i (hi : i ≤ Ls.length) => vrow_pos (p := p) hS hin hi)
  have HV := Lib.hid hv; have HI := Lib.hid hi; have HE := Lib.hid hE; have C := Lib.hid hf
  have hlen : Ls.length ≤ 8 := hS.2.2.2.1
  obtain ⟨ao, cap, rfl⟩ := hv.shape
  clear hv hi hE hf hS hG h0 hin
  go_enter Tryd.func33, Tryd.ntmps33
  go_wp2_with (go_at_call 107; refine (walker_ok (C.out.ext (Ext.alloc _ _)) wd _ _ Ls R inp (HV.out.ext (Ext.alloc _ _)) (HI.out.ext (Ext.alloc _ _)) HE.out).mono ?_; rintro e w2 ⟨v, rfl, hx2, b, vv, S, rfl, hwk, hgr, hb⟩; replace hx2 := (Ext.alloc _ _).trans hx2; have hlv := hgr.rws.run_len (P := Tryd.prog) slRows; rw [vals_length] at hlv; have HWK := Lib.hid hwk; have HGR := Lib.hid hgr; obtain ⟨k0, k1, k2, k3, kf⟩ := hwk; clear hgr)
  clear k0 k1 k2 k3 kf
  go_loopw [10, 26] (fun _ x26 wr => ∃ (i : Nat) (S : Nat → Value), i ≤ Ls.length + 1 ∧ x26 = .int .i64 i ∧ Wlk wr b (.pointer (some ⟨bf, 0, none⟩)) wd (.slice ao Ls.length cap) vv ∧ Grid (b + 1) wr 23 vv (vals p Ls inp Ls.length) S ∧ Ext w wr) (fun _ x26 _ => Ls.length + 1 - (intOf x26).toNat)
  case atStart => exact ⟨0, S, Nat.zero_le _, rfl, HWK.out, HGR.out, hx2⟩
  case round =>
    obtain ⟨i, S, hi, rfl, hwk, hgr, hx⟩ := hrel
    have HW := Lib.hid hwk; have HG := Lib.hid hgr
    obtain ⟨k0, k1, k2, k3, kf⟩ := hwk
    by_cases hil : i < Ls.length + 1
    · have hvl : i < (vals p Ls inp Ls.length).length := by rw [vals_length]; exact hil
      have hiv := hgr.rws.run_index (P := Tryd.prog) slRows i hvl
      have hcv := hgr.rws.cell i hvl
      have hrv := hgr.row i hvl
      have hlt := hgr.lt i hvl
      rw [vals_nth _ _ _ (by omega)] at hrv
      obtain ⟨rb, ro, rc, he, hle, hm⟩ := hrv.based (HPOS.out i (by omega))
      rw [he] at hcv hrv hlt
      have HCL := Lib.hid hrv.clip
      have HLT := Lib.hid hlt
      have HE2 := Lib.hid he
      clear hrv hlt he hgr
      generalize (vrow p Ls inp i).length = N at *
      go_wp2_with fail
      refine wp_region_quiet_tail 14 (by kernel_rfl) (by kernel_rfl) ?_
      simp only [List.take_succ_cons, List.take_zero, List.drop_succ_cons, List.drop_zero]
      repeat (go_big_quiet_step ((go_at_call 108; exact (clip_any _ _ _ _ _ hle hm).mono fun _ _ h => ⟨h.1, _, h.2.symm⟩)))
      refine wpQuiet_nil ?_
      rintro _ ⟨nq, rfl⟩
      have hx3 := hx.trans (Ext.drewN wr nq)
      have HW3 := Lib.hid (HW.out.ext (Ext.drewN wr nq))
      have HG3 := Lib.hid (HG.out.ext (Ext.drewN wr nq))
      have HCL3 := Lib.hid (HCL.out.drewN nq)
      generalize wr.drewN nq = W3 at *
      clear k0 k1 k2 k3 kf hiv hcv
      go_wp2_with (refine wpList_set rfl rfl _ _ 23 rfl slRows HG3.out.own i hvl rfl (.slice (some ⟨rb, ro, none⟩) N N) rfl rfl (by intro u hu; simp [Value.cells] at hu; subst hu; rfl) ?_; intro w4 HO4 HG4)
      go_roundw
      case rel =>
        have hbsz : w.heap.size ≤ b := by simp at hb; omega
        have hx4 : Ext w w4 := Below.grown hx3.below HG4 hx3.size (fun k hk => by have := (HG3.out.own.lt k hk).1; omega)
        refine ⟨i + 1, _, by omega, by go_num, HW3.out.grown HG4 (fun hc => by have := (HG3.out.own.lt _ hc.symm).1; omega), HG3.out.set hvl ?_ ?_ HO4 HG4, hx4⟩
        · rw [vals_nth _ _ _ (by omega)]; exact HCL3.out
        · exact fun k hk => ⟨(HLT.out k hk).1, by have h1 := HG3.out.lt i hvl k (by rw [HE2.out]; exact hk); exact h1.2.1, (HLT.out k hk).2.2⟩
      case measure => simp [intOf]; omega
    · obtain rfl : i = Ls.length + 1 := by omega
      go_wp2_with fail
      go_ret2
      exact .mk _ rfl hx ⟨_, rfl, ⟨S, HG.out.rws⟩⟩
end Go.Proofs.YthjemncbphdomaaDoor
