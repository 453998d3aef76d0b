/- How much of the gates there is anywhere, the program's side: contracts. How much of the gates there is anywhere, the program's side: Wire with its faults. -/
import Derived.Test.YtaajjaadlpgbiaaGreatDoorCd
import Derived.Test.YtaajjaadlpgbiaaGreatDoorZx4
section
/-! How much of the gates there is anywhere, the program's side: contracts. -/
namespace Go.Att
open Go.RowKit
/-- Is it a layer? -/
def layB (i : Int) (n : Nat) : Bool := decide (0 ≤ i ∧ i < (n : Int))
/-- The gates of a kind up to one, each times its place's weights. -/
def wireU (l : List Tri) (kind : Int) (z x y : List Int) : Nat → Int
  | 0 => 0
  | n + 1 => if (nthT l n).1 = kind then wireU l kind z x y n + wgt z n * (wgt x (nthT l n).2.1.toNat * wgt y (nthT l n).2.2.toNat) else wireU l kind z x y n
theorem wire_no {l : List Tri} {kind : Int} (z x y : List Int) {n : Nat} (h : (nthT l n).1 ≠ kind) : wireU l kind z x y (n + 1) = wireU l kind z x y n := by simp [wireU, h]
theorem wire_yes (p : Int) {l : List Tri} {kind : Int} (z x y : List Int) {n a b : Nat} (h : nthT l n = (kind, (a : Int), (b : Int))) :
    fadd p (wireU l kind z x y n % p) (fmul p (wgt z n % p) (fmul p (wgt x a % p) (wgt y b % p))) = wireU l kind z x y (n + 1) % p := by
  simp only [wireU, h, if_true, Int.toNat_natCast, fadd, fmul, ea_l, ea_r, em_l, em_r]
theorem wire_yes' (p : Int) {l : List Tri} {kind : Int} (z x y : List Int) {n a b : Nat} (h : nthT l n = (kind, (a : Int), (b : Int))) :
    fadd p (wireU l kind z x y n % p) (fmul p (fmul p (wgt z n % p) (wgt x a % p)) (wgt y b % p)) = wireU l kind z x y (n + 1) % p := by
  simp only [wireU, h, if_true, Int.toNat_natCast, fadd, fmul, ea_l, ea_r, em_l, em_r, Int.mul_assoc]
end Go.Att
namespace Go.Proofs.YtaajjaadlpgbiaaGreatDoor
open Go.RowKit Go.Att

set_option maxRecDepth 100000 in
set_option maxHeartbeats 1000000 in
theorem vars_low (wd : Int) (lv : Value) (Ls : List (List Tri)) (R : Nat → Value) (i : Int) (w : World) (hv : LysAt w lv Ls R) (hi : i < 0) :
    Calls Tryz.prog 98 #[.agg #[.int .i64 wd, lv], .int .i64 i] w fun e w' => e = .returned (.int .i64 wd) ∧ Ext w w' := by
  obtain ⟨ao, cap, rfl⟩ := hv.shape
  clear hv
  go_enter Tryz.func98, Tryz.ntmps98
  go_wp2_with fail
  go_ret
  exact ⟨rfl, Ext.alloc _ _⟩

set_option maxRecDepth 100000 in
set_option maxHeartbeats 1000000 in
theorem vars_any (wd : Int) (lv : Value) (Ls : List (List Tri)) (R : Nat → Value) (i : Nat) (w : World) (hv : LysAt w lv Ls R) (hi : i < Ls.length) :
    Calls Tryz.prog 98 #[.agg #[.int .i64 wd, lv], .int .i64 i] w fun e w' => e = .returned (.int .i64 (wideOf (nthY Ls i).length)) ∧ Ext w w' := by
  obtain ⟨ao, cap, rfl⟩ := hv.shape
  have hlen := hv.len
  have hix := hv.run_index (P := Tryz.prog) slLayers i hi
  have hc := (Ext.alloc w (Obj.cells #[.int .i64 wd, .slice ao Ls.length cap] 48)).cell (hv.cell i hi)
  have hrow := hv.row i hi
  have hln := hrow.run_len (P := Tryz.prog) slGates
  have hrl := hrow.len
  clear hv hrow
  go_enter Tryz.func98, Tryz.ntmps98
  go_wp2_with (go_at_call 95; refine (size_ok _ _ (by omega)).mono ?_; rintro e w2 ⟨rfl, rfl⟩)
  go_ret
  exact ⟨rfl, Ext.alloc _ _⟩

theorem unit_q {w : World} {f : Value} {p g : Int} {fs : List Int} (hf : Fld w f p g fs) {v : Value} {l : List Int} {i : Nat} (hv : Ints w v l) (hl : l.length ≤ 30) (hi : i ≤ 9223372036854775807) (n : Nat) :
    Calls Tryz.prog 138 #[f, .int .i64 i, v] (w.drewN n) fun e w'' => e = .returned (.int .i64 (wgt l i % p)) ∧ ∃ m, w'' = w.drewN m := Calls.quiet_of (unit_any (hf.drewN n) v l i (hv.drewN n) hl hi)

set_option maxRecDepth 100000 in
set_option maxHeartbeats 4000000 in
theorem wire_any {w : World} {f : Value} {p g : Int} {fs : List Int} (hf : Fld w f p g fs) (wd : Int) (lv : Value) (Ls : List (List Tri)) (R : Nat → Value) (i : Nat) (kind : Int) (vz vx vy : Value) (z x y : List Int) (hv : LysAt w lv Ls R) (hi : i < Ls.length) (hE : cirErr wd Ls = 0)
    (hz : Ints w vz z) (hx : Ints w vx x) (hy : Ints w vy y) (lz : z.length ≤ 30) (lx : x.length ≤ 30) (ly : y.length ≤ 30) :
    Calls Tryz.prog 103 #[f, .agg #[.int .i64 wd, lv], .int .i64 i, .int .i64 kind, vz, vx, vy] w fun e w' => e = .returned (.int .i64 (wireU (nthY Ls i) kind z x y (nthY Ls i).length % p)) ∧ Ext w w' := by
  obtain ⟨hS, hG⟩ := cirErr_ok hE
  obtain ⟨ao, cap, rfl⟩ := hv.shape
  obtain ⟨bf, rfl⟩ := hf.ptr
  have hl64 := wideOf_le (hS.2.2.2.2 i hi)
  have hbd : below wd Ls i ≤ 64 := by
    unfold below
    split
    · have h6 : wd.toNat ≤ 6 := by have := hS.2.1; omega
      exact (pow2_small h6).2
    · exact (wideOf_le (hS.2.2.2.2 (i - 1) (by omega))).2
  have HOK := Lib.hid (hG i hi)
  have hix := hv.run_index (P := Tryz.prog) slLayers i hi
  have hc := (Ext.alloc w (Obj.cells #[.int .i64 wd, .slice ao Ls.length cap] 48)).cell (hv.cell i hi)
  have hrow := hv.row i hi
  have hln := hrow.run_len (P := Tryz.prog) slGates
  have HROW := Lib.hid hrow; have C := Lib.hid hf; have HZ := Lib.hid hz; have HX := Lib.hid hx; have HY := Lib.hid hy
  clear hv hrow hf hz hx hy hS hG hE
  go_enter Tryz.func103, Tryz.ntmps103
  go_wp2_with fail
  have hx0 := Ext.alloc w (Obj.cells #[.int .i64 wd, .slice ao Ls.length cap] 48)
  go_loopw [15, 16, 17, 18, 25] (fun x15 _ _ _ x25 wr => ∃ k : Nat, k ≤ (nthY Ls i).length ∧ x25 = .int .i64 k ∧ x15 = .int .i64 (wireU (nthY Ls i) kind z x y k % p) ∧ Ext w wr) (fun _ _ _ _ x25 _ => (nthY Ls i).length - (intOf x25).toNat)
  case atStart => exact ⟨0, Nat.zero_le _, rfl, by simp [wireU], hx0⟩
  case round =>
    obtain ⟨k, hk, rfl, rfl, hxr⟩ := hrel
    clear hix hc
    by_cases hkl : k < (nthY Ls i).length
    · have hrow := HROW.out.ext hxr
      have hix2 := hrow.run_index (P := Tryz.prog) slGates k hkl
      have g0 := hrow.c0 k hkl
      have g1 := hrow.c1 k hkl
      have g2 := hrow.c2 k hkl
      have hok := HOK.out k hkl
      clear hrow
      generalize hg : nthT (nthY Ls i) k = G at g0 g1 g2 hok
      obtain ⟨gk, ga, gb⟩ := G
      simp only [gateOk] at g0 g1 g2 hok
      obtain ⟨o1, o2, o3, o4, o5, o6⟩ := hok
      obtain ⟨a, rfl⟩ := Int.eq_ofNat_of_zero_le o3
      obtain ⟨b, rfl⟩ := Int.eq_ofNat_of_zero_le o5
      have HGG := Lib.hid hg; clear hg
      by_cases hkk : gk = kind
      · have hbb : (gk != kind) = false := by rw [bne_eq_false_iff_eq]; exact hkk
        have S := Lib.hid (wire_yes p z x y (l := nthY Ls i) (kind := kind) (n := k) (a := a) (b := b) (by rw [HGG.out, hkk]))
        clear hkk
        go_wp2_with fail
        have hx9 := hxr.trans (Ext.alloc wr (Obj.cells #[.int .i64 gk, .int .i64 a, .int .i64 b] 61))
        have HQ1 := cell_new wr #[.int .i64 gk, .int .i64 a, .int .i64 b] 61 1
        have HQ2 := cell_new wr #[.int .i64 gk, .int .i64 a, .int .i64 b] 61 2
        generalize World.alloc wr _ = W9 at *
        replace HQ1 : W9.cell? ⟨wr.heap.size, 1, none⟩ = some (.int .i64 a) := HQ1
        replace HQ2 : W9.cell? ⟨wr.heap.size, 2, none⟩ = some (.int .i64 b) := HQ2
        have HF9 := Lib.hid (C.out.ext hx9); have HZ9 := Lib.hid (HZ.out.ext hx9); have HX9 := Lib.hid (HX.out.ext hx9); have HY9 := Lib.hid (HY.out.ext hx9)
        have hk63 : k ≤ 9223372036854775807 := by omega
        have ha63 : a ≤ 9223372036854775807 := by omega
        have hb63 : b ≤ 9223372036854775807 := by omega
        clear g0 g1 g2
        go_quiet ((first | (go_at_call_of 138 vz; exact unit_q HF9.out HZ9.out lz hk63 _) | (go_at_call_of 138 vx; exact unit_q HF9.out HX9.out lx ha63 _) | (go_at_call_of 138 vy; exact unit_q HF9.out HY9.out ly hb63 _) | (go_at_call 71; exact mul_q HF9.out _ _ _)))
        go_wp2_with (go_at_call 70; refine (add_any (HF9.out.drewN _) _ _).mono ?_; rw [S.out]; rintro e w' hrd; obtain ⟨rfl, hx10⟩ := hrd.ext; clear hrd)
        go_roundw
        case rel => exact ⟨k + 1, by omega, by go_num, rfl, (hx9.trans (Ext.drewN _ _)).trans hx10⟩
        case measure => simp [intOf]; omega
      · have hbb : (gk != kind) = true := by rw [bne_iff_ne]; exact hkk
        have S := Lib.hid (wire_no z x y (l := nthY Ls i) (kind := kind) (n := k) (by rw [HGG.out]; exact hkk))
        clear hkk
        go_wp2_with fail
        go_roundw
        case rel => exact ⟨k + 1, by omega, by go_num, by rw [S.out], hxr.trans (Ext.alloc _ _)⟩
        case measure => simp [intOf]; omega
    · obtain rfl : k = (nthY Ls i).length := by omega
      go_wp2_with fail
      go_ret
      exact ⟨rfl, hxr⟩
end Go.Proofs.YtaajjaadlpgbiaaGreatDoor
/-! How much of the gates there is anywhere, the document's side: contract. -/
namespace Go.Att
theorem lt_pow2 {a n : Nat} (h : (a : Int) < (2 : Int) ^ n) : a < 2 ^ n := by
  have h2 : ((2 ^ n : Nat) : Int) = (2 : Int) ^ n := by simp
  omega
end Go.Att
namespace Go.Proofs.YtaajjaadlpgbiaaGreatDoor
open Go.RowKit Go.Att

set_option maxRecDepth 100000 in
set_option maxHeartbeats 4000000 in
theorem rwire_any {w : World} (p : Int) (vl : Value) (l : List Tri) (kind : Int) (vz vx vy : Value) (z x y : List Int) (B : Int) (hp : 2 ≤ p) (hp2 : p ≤ 2147483647) (hv : Trs w vl l) (hok : ∀ k, k < l.length → gateOk B (nthT l k))
    (hz : Ints w vz z) (hx : Ints w vx x) (hy : Ints w vy y) (lz : z.length ≤ 30) (lx : x.length ≤ 30) (ly : y.length ≤ 30) (ez : l.length = 2 ^ z.length) (ex : B = 2 ^ x.length) (ey : B = 2 ^ y.length) :
    Calls Tryz.prog 57 #[.int .i64 p, vl, .int .i64 kind, vz, vx, vy] w fun e w' => e = .returned (.int .i64 (wireU l kind z x y l.length % p)) ∧ Ext w w' := by
  have hln := hv.run_len (P := Tryz.prog) slGates
  have hlen := hv.len
  have HROW := Lib.hid hv; have HZ := Lib.hid hz; have HX := Lib.hid hx; have HY := Lib.hid hy; have HOK := Lib.hid hok
  have EZ := Lib.hid ez; have EX := Lib.hid ex; have EY := Lib.hid ey
  clear hv hz hx hy hok ez ex ey
  go_enter Tryz.func57, Tryz.ntmps57
  go_wp2_with fail
  go_loopw [13, 14, 15, 16, 17] (fun x13 x14 _ _ _ wr => ∃ k : Nat, k ≤ l.length ∧ x14 = .int .i64 k ∧ x13 = .int .i64 (wireU l kind z x y k % p) ∧ Ext w wr) (fun _ x14 _ _ _ _ => l.length - (intOf x14).toNat)
  case atStart => exact ⟨0, Nat.zero_le _, rfl, by simp [wireU], Ext.refl _⟩
  case round =>
    obtain ⟨k, hk, rfl, rfl, hxr⟩ := hrel
    by_cases hkl : k < l.length
    · have hrow := HROW.out.ext hxr
      have hix2 := hrow.run_index (P := Tryz.prog) slGates k hkl
      have g0 := hrow.c0 k hkl
      have g1 := hrow.c1 k hkl
      have g2 := hrow.c2 k hkl
      have hok := HOK.out k hkl
      clear hrow
      generalize hg : nthT l k = G at g0 g1 g2 hok
      obtain ⟨gk, ga, gb⟩ := G
      simp only [gateOk] at g0 g1 g2 hok
      obtain ⟨o1, o2, o3, o4, o5, o6⟩ := hok
      obtain ⟨a, rfl⟩ := Int.eq_ofNat_of_zero_le o3
      obtain ⟨b, rfl⟩ := Int.eq_ofNat_of_zero_le o5
      have HGG := Lib.hid hg; clear hg
      by_cases hkk : gk = kind
      · have hbb : (gk == kind) = true := by rw [beq_iff_eq]; exact hkk
        have S := Lib.hid (wire_yes' p z x y (l := l) (kind := kind) (n := k) (a := a) (b := b) (by rw [HGG.out, hkk]))
        have HK := Lib.hid (show k < 2 ^ z.length by rw [← EZ.out]; exact hkl)
        have HA := Lib.hid (lt_pow2 (by rw [← EX.out]; exact o4) : a < 2 ^ x.length)
        have HB := Lib.hid (lt_pow2 (by rw [← EY.out]; exact o6) : b < 2 ^ y.length)
        clear hkk o4 o6
        go_wp2_with (first | (go_at_call_of 111 vz; refine (runit_any p vz z k _ hp hp2 (HZ.out.ext hxr) lz HK.out).mono ?_; rintro e w3 ⟨rfl, hx3⟩; have hy3 := hxr.trans hx3; replace g1 := hx3.cell g1; replace g2 := hx3.cell g2) | (go_at_call_of 111 vx; refine (runit_any p vx x a _ hp hp2 (HX.out.ext hy3) lx HA.out).mono ?_; rintro e w4 ⟨rfl, hx4⟩; have hy4 := hy3.trans hx4; replace g2 := hx4.cell g2) | (go_at_call_of 111 vy; refine (runit_any p vy y b _ hp hp2 (HY.out.ext hy4) ly HB.out).mono ?_; rintro e w5 ⟨rfl, hx5⟩; have hy5 := hy4.trans hx5) | (go_at_call 33; refine (rmul_any _ _ _ _ hp hp2).mono ?_; rintro e w' ⟨rfl, rfl⟩) | (go_at_call 34; refine (radd_any _ _ _ _ hp hp2).mono ?_; rw [S.out]; rintro e w' ⟨rfl, rfl⟩))
        go_roundw
        case rel => exact ⟨k + 1, by omega, by go_num, rfl, hy5⟩
        case measure => simp [intOf]; omega
      · have hbb : (gk == kind) = false := by rw [beq_eq_false_iff_ne]; exact hkk
        have S := Lib.hid (wire_no z x y (l := l) (kind := kind) (n := k) (by rw [HGG.out]; exact hkk))
        clear hkk
        go_wp2_with fail
        go_roundw
        case rel => exact ⟨k + 1, by omega, by go_num, by rw [S.out], hxr⟩
        case measure => simp [intOf]; omega
    · obtain rfl : k = l.length := by omega
      go_wp2_with fail
      go_ret
      exact ⟨rfl, hxr⟩
end Go.Proofs.YtaajjaadlpgbiaaGreatDoor
end
section
/-! How much of the gates there is anywhere, the program's side: Wire with its faults. -/
namespace Go.Att
open Go.RowKit
def kindB (k : Int) : Bool := decide (k = 0 ∨ k = 1)
/-- Do the points fit the layer? -/
def fitsB (wd : Int) (Ls : List (List Tri)) (i : Nat) (z x y : List Int) : Bool := decide ((z.length : Int) = wideOf (nthY Ls i).length ∧ (x.length : Int) = beneath wd Ls i ∧ (y.length : Int) = beneath wd Ls i)
end Go.Att
namespace Go.Proofs.YtaajjaadlpgbiaaGreatDoor
open Go.RowKit Go.Att

end Go.Proofs.YtaajjaadlpgbiaaGreatDoor
/-! How much of the gates there is anywhere, the program's side: Wire, the points' sizes. -/
namespace Go.Att
open Go.RowKit
theorem fitsB_true {wd : Int} {Ls : List (List Tri)} {i : Nat} {z x y : List Int} (h : fitsB wd Ls i z x y = true) : (z.length : Int) = wideOf (nthY Ls i).length ∧ (x.length : Int) = beneath wd Ls i ∧ (y.length : Int) = beneath wd Ls i := of_decide_eq_true h
theorem fitsB_false {wd : Int} {Ls : List (List Tri)} {i : Nat} {z x y : List Int} (h : fitsB wd Ls i z x y = false) : ¬ ((z.length : Int) = wideOf (nthY Ls i).length ∧ (x.length : Int) = beneath wd Ls i ∧ (y.length : Int) = beneath wd Ls i) := of_decide_eq_false h
end Go.Att
namespace Go.Proofs.YtaajjaadlpgbiaaGreatDoor
open Go.RowKit Go.Att

/-- variables(c, layer - 1): those beneath. -/
theorem vars_below (wd : Int) (lv : Value) (Ls : List (List Tri)) (R : Nat → Value) (i : Nat) (w : World) (hv : LysAt w lv Ls R) (hi : i < Ls.length) :
    Calls Tryz.prog 98 #[.agg #[.int .i64 wd, lv], .int .i64 ((i : Int) - 1)] w fun e w' => e = .returned (.int .i64 (beneath wd Ls i)) ∧ Ext w w' := by
  unfold beneath
  by_cases h0 : i = 0
  · rw [if_pos h0]; exact vars_low wd lv Ls R _ w hv (by omega)
  · rw [if_neg h0, show (i : Int) - 1 = ((i - 1 : Nat) : Int) by omega]; exact vars_any wd lv Ls R _ w hv (by omega)

end Go.Proofs.YtaajjaadlpgbiaaGreatDoor
/-! How much of the gates there is anywhere, the program's side: Wire where all fits. -/
namespace Go.Proofs.YtaajjaadlpgbiaaGreatDoor
open Go.RowKit Go.Att

end Go.Proofs.YtaajjaadlpgbiaaGreatDoor
end
