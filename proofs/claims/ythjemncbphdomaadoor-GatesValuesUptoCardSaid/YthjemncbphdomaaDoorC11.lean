/- How much of the gates there is anywhere, the document's side: contract. -/
import Derived.Test.YthjemncbphdomaaDoorC10
namespace Go.Att
theorem lt_pow2 {a n : Nat} (h : (a : Int) < (2 : Int) ^ n) : a < 2 ^ n := by
  have h2 : ((2 ^ n : Nat) : Int) = (2 : Int) ^ n := by simp
  omega
end Go.Att
namespace Go.Proofs.YthjemncbphdomaaDoor
open Go.RowKit Go.Att

set_option maxRecDepth 100000 in
set_option maxHeartbeats 4000000 in
theorem rwire_any {w : World} (p : Int) (vl : Value) (l : List Tri) (kind : Int) (vz vx vy : Value) (z x y : List Int) (B : Int) (hp : 2 ≤ p) (hp2 : p ≤ 2147483647) (hv : Trs w vl l) (hok : ∀ k, k < l.length → gateOk B (nthT l k))
    (hz : Ints w vz z) (hx : Ints w vx x) (hy : Ints w vy y) (lz : z.length ≤ 30) (lx : x.length ≤ 30) (ly : y.length ≤ 30) (ez : l.length = 2 ^ z.length) (ex : B = 2 ^ x.length) (ey : B = 2 ^ y.length) :
    Calls Tryd.prog 40 #[.int .i64 p, vl, .int .i64 kind, vz, vx, vy] w fun e w' => e = .returned (.int .i64 (wireU l kind z x y l.length % p)) ∧ Ext w w' := by
  have hln := hv.run_len (P := Tryd.prog) slGates
  have hlen := hv.len
  have HROW := Lib.hid hv; have HZ := Lib.hid hz; have HX := Lib.hid hx; have HY := Lib.hid hy; have HOK := Lib.hid hok
  have EZ := Lib.hid ez; have EX := Lib.hid ex; have EY := Lib.hid ey
  clear hv hz hx hy hok ez ex ey
  go_enter Tryd.func40, Tryd.ntmps40
  go_wp2_with fail
  go_loopw [13, 14, 15, 16, 17] (fun x13 x14 _ _ _ wr => ∃ k : Nat, k ≤ l.length ∧ x14 = .int .i64 k ∧ x13 = .int .i64 (wireU l kind z x y k % p) ∧ Ext w wr) (fun _ x14 _ _ _ _ => l.length - (intOf x14).toNat)
  case atStart => exact ⟨0, Nat.zero_le _, rfl, by simp [wireU], Ext.refl _⟩
  case round =>
    obtain ⟨k, hk, rfl, rfl, hxr⟩ := hrel
    by_cases hkl : k < l.length
    · have hrow := HROW.out.ext hxr
      have hix2 := hrow.run_index (P := Tryd.prog) slGates k hkl
      have g0 := hrow.c0 k hkl
      have g1 := hrow.c1 k hkl
      have g2 := hrow.c2 k hkl
      have hok := HOK.out k hkl
      clear hrow
      generalize hg : nthT l k = G at g0 g1 g2 hok
      obtain ⟨gk, ga, gb⟩ := G
      simp only [gateOk] at g0 g1 g2 hok
      obtain ⟨o1, o2, o3, o4, o5, o6⟩ := hok
      obtain ⟨a, rfl⟩ := Int.eq_ofNat_of_zero_le o3
      obtain ⟨b, rfl⟩ := Int.eq_ofNat_of_zero_le o5
      have HGG := Lib.hid hg; clear hg
      by_cases hkk : gk = kind
      · have hbb : (gk == kind) = true := by rw [beq_iff_eq]; exact hkk
        have S := Lib.hid (wire_yes' p z x y (l := l) (kind := kind) (n := k) (a := a) (b := b) (by rw [HGG.out, hkk]))
        have HK := Lib.hid (show k < 2 ^ z.length by rw [← EZ.out]; exact hkl)
        have HA := Lib.hid (lt_pow2 (by rw [← EX.out]; exact o4) : a < 2 ^ x.length)
        have HB := Lib.hid (lt_pow2 (by rw [← EY.out]; exact o6) : b < 2 ^ y.length)
        clear hkk o4 o6
        go_wp2_with (first | (go_at_call_of 113 vz; refine (runit_any p vz z k _ hp hp2 (HZ.out.ext hxr) lz HK.out).mono ?_; rintro e w3 ⟨rfl, hx3⟩; have hy3 := hxr.trans hx3; replace g1 := hx3.cell g1; replace g2 := hx3.cell g2) | (go_at_call_of 113 vx; refine (runit_any p vx x a _ hp hp2 (HX.out.ext hy3) lx HA.out).mono ?_; rintro e w4 ⟨rfl, hx4⟩; have hy4 := hy3.trans hx4; replace g2 := hx4.cell g2) | (go_at_call_of 113 vy; refine (runit_any p vy y b _ hp hp2 (HY.out.ext hy4) ly HB.out).mono ?_; rintro e w5 ⟨rfl, hx5⟩; have hy5 := hy4.trans hx5) | (go_at_call 57; refine (rmul_any _ _ _ _ hp hp2).mono ?_; rintro e w' ⟨rfl, rfl⟩) | (go_at_call 48; refine (radd_any _ _ _ _ hp hp2).mono ?_; rw [S.out]; rintro e w' ⟨rfl, rfl⟩))
        go_roundw
        case rel => exact ⟨k + 1, by omega, by go_num, rfl, hy5⟩
        case measure => simp [intOf]; omega
      · have hbb : (gk == kind) = false := by rw [beq_eq_false_iff_ne]; exact hkk
        have S := Lib.hid (wire_no z x y (l := l) (kind := kind) (n := k) (by rw [HGG.out]; exact hkk))
        clear hkk
        go_wp2_with fail
        go_roundw
        case rel => exact ⟨k + 1, by omega, by go_num, by rw [S.out], hxr⟩
        case measure => simp [intOf]; omega
    · obtain rfl : k = l.length := by omega
      go_wp2_with fail
      go_ret
      exact ⟨rfl, hxr⟩
end Go.Proofs.YthjemncbphdomaaDoor
