/- Words made one, on both sides: contracts. -/
import Derived.Test.YthjemncbphdomaaDoorH3
import Derived.Test.YthjemncbphdomaaDoorQt
import Derived.Test.YthjemncbphdomaaDoorFm
namespace Go.Att
open Go.RowKit
/-- What several words add to the first: the word j by g to the 2j + 1, and once more by g to the 2j + 2 and h. -/
def bs (l : List Int) (g h : Int) : Nat → Int
  | 0 => 0
  | j + 1 => bs l g h j + g ^ (2 * j + 1) * nth l j + g ^ (2 * j + 2) * nth l j * h
def batched (p first g h : Int) (l : List Int) : Int := (first + bs l g h l.length) % p
theorem bat_ref (p g h first : Int) (l : List Int) (j : Nat) :
    fadd p (fadd p ((first + bs l g h j) % p) (fmul p (fpow p g (2 * j + 1)) (nth l j))) (fmul p (fmul p (fpow p g (2 * j + 2)) (nth l j)) (h % p)) = (first + bs l g h (j + 1)) % p := by
  simp only [fpow, fadd, fmul, ea_l, ea_r, em_l, em_r, bs]
  congr 1
  simp only [Int.add_assoc]
theorem bat_pow (p g : Int) (n : Nat) : fmul p (g ^ n % p) g = g ^ (n + 1) % p := by rw [fmul, em_l, Int.pow_succ]
theorem bat_prog (p g h first : Int) (l : List Int) (j : Nat) :
    fadd p (fadd p ((first + bs l g h j) % p) (fmul p (g ^ (2 * j + 1) % p) (nth l j))) (fmul p (g ^ (2 * j + 2) % p) (fmul p (h % p) (nth l j))) = (first + bs l g h (j + 1)) % p := by
  simp only [fadd, fmul, ea_l, ea_r, em_l, em_r, bs]
  congr 1
  rw [Int.mul_comm h, ← Int.mul_assoc]
  simp only [Int.add_assoc]
/-- .. from a first that is as it came. -/
theorem bat_prog0 (p g h first F : Int) (l : List Int) (j : Nat) (hF : F % p = (first + bs l g h j) % p) :
    fadd p (fadd p F (fmul p (g ^ (2 * j + 1) % p) (nth l j))) (fmul p (g ^ (2 * j + 2) % p) (fmul p (h % p) (nth l j))) = (first + bs l g h (j + 1)) % p := by
  rw [← bat_prog, ← hF]
  simp only [fadd, ea_l]
end Go.Att
namespace Go.Proofs.YthjemncbphdomaaDoor
open Go.RowKit Go.Att

set_option maxRecDepth 100000 in
set_option maxHeartbeats 1000000 in
theorem r2new_any (p g n sh : Int) (w : World) (hpr : Pr p) (hp : 3 ≤ p) (hp2 : p ≤ 2147483647) (hg : IsGen p g) (hl : ∀ x : Int, 1 ≤ x → x < g → ¬ IsGen p x) (h1 : 1 ≤ g) (h2 : g < p) (hE : domErr p n sh = 0) :
    Calls Tryd.prog 27 #[.int .i64 p, .int .i64 n, .int .i64 sh] w (Gives w fun v _ => v = .agg #[.int .i64 p, .int .i64 n, .int .i64 (fof p sh), .int .i64 (froot p g n)]) := by
  obtain ⟨h3, h4, -⟩ := domErr_ok hE
  have hbd := twoB_bd h3
  have C := Lib.hid (fun W => rroot_ok p g n W hpr hp hp2 hg hl h1 h2 hbd.1 h4)
  clear hpr hg hl hE h4
  go_enter Tryd.func27, Tryd.ntmps27
  go_wp2_with (first | (go_at_call 94; refine (C.out _).mono ?_; rintro e w2 ⟨rfl, rfl⟩) | (go_at_call 93; refine (rof_any _ _ _ (by omega) hp2).mono ?_; rintro e w' ⟨rfl, rfl⟩))
  (try simp only [Exit.inBlock, Exit.then]); refine bodyPost_ret (results_cell_row rfl _ _ w.heap.size 59 _ _ _ rfl (heap_alloc_new _ _) Tryd.underlying59 rfl (by kernel_rfl)) rfl ?_
  exact .mk _ rfl (Ext.alloc _ _) rfl

set_option maxRecDepth 100000 in
set_option maxHeartbeats 1000000 in
theorem rpoint_any (p n sh r : Int) (i : Nat) (w : World) (hp : 2 ≤ p) (hp2 : p ≤ 2147483647) (hi : i ≤ 9223372036854775807) :
    Calls Tryd.prog 29 #[.agg #[.int .i64 p, .int .i64 n, .int .i64 sh, .int .i64 r], .int .i64 i] w fun e w' => e = .returned (.int .i64 (ptAt p sh r i)) ∧ Ext w w' := by
  go_enter Tryd.func29, Tryd.ntmps29
  go_wp2_with (first | (go_at_call 102; refine (rpow_any _ _ _ _ hp hp2 hi).mono ?_; rintro e w2 ⟨rfl, rfl⟩) | (go_at_call 57; refine (rmul_any _ _ _ _ hp hp2).mono ?_; rintro e w' ⟨rfl, rfl⟩))
  go_ret
  exact ⟨ret_int (ptAt_pow _ _ _ _), Ext.alloc _ _⟩

set_option maxRecDepth 100000 in
set_option maxHeartbeats 2000000 in
theorem rbatched_any (p n pt first g : Int) (v : Value) (l : List Int) (w : World) (hp : 2 ≤ p) (hp2 : p ≤ 2147483647) (hv : Ints w v l) (hs : l.length ≤ 1048576) (h0 : 0 ≤ n) (h1 : n ≤ 65536) :
    Calls Tryd.prog 30 #[.int .i64 p, .int .i64 n, .int .i64 pt, .int .i64 first, v, .int .i64 g] w fun e w' => e = .returned (.int .i64 (batched p first g (pt ^ (3 * n).toNat) l)) ∧ w = w' := by
  have hl := hv.run_len (P := Tryd.prog) slInts
  have HV := Lib.hid hv; clear hv
  go_enter Tryd.func30, Tryd.ntmps30
  go_wp2_with (first | (go_at_call 102; refine (rpow_int _ _ _ _ hp hp2 (by omega) (by omega)).mono ?_; rintro e w2 ⟨rfl, rfl⟩) | (go_at_call 93; refine (rof_any _ _ _ hp hp2).mono ?_; rintro e w' ⟨rfl, rfl⟩))
  go_loop [13, 15, 16] (fun x13 x15 _ => ∃ j : Nat, j ≤ l.length ∧ x15 = .int .i64 j ∧ x13 = .int .i64 ((first + bs l g (pt ^ (3 * n).toNat) j) % p)) (fun _ x15 _ => l.length - (intOf x15).toNat)
  case atStart => exact ⟨0, Nat.zero_le _, rfl, by simp [bs, fof]⟩
  case round =>
    obtain ⟨j, hj, rfl, rfl⟩ := hrel
    by_cases hlt : j < l.length
    · have hix := HV.out.run_index (P := Tryd.prog) slInts j hlt
      have hcell := HV.out.cell j hlt
      have e1 : ((2 * (j : Int) + 1)).toNat = 2 * j + 1 := by omega
      have e2 : ((2 * (j : Int) + 2)).toNat = 2 * j + 2 := by omega
      have E1 := Lib.hid e1; have E2 := Lib.hid e2; clear e1 e2
      go_wp2_with (first | (go_at_call 102; refine (rpow_int _ _ _ _ hp hp2 (by omega) (by omega)).mono ?_; rintro e w2 ⟨rfl, rfl⟩; (first | rw [E1.out] | rw [E2.out])) | (go_at_call 57; refine (rmul_any _ _ _ _ hp hp2).mono ?_; rintro e w' ⟨rfl, rfl⟩) | (go_at_call 48; refine (radd_any _ _ _ _ hp hp2).mono ?_; rintro e w' ⟨rfl, rfl⟩))
      go_round
      case rel => exact ⟨j + 1, by omega, by go_num, by rw [show fpow p pt (3 * n).toNat = pt ^ (3 * n).toNat % p from rfl, bat_ref]⟩
      case measure => simp [intOf]; omega
    · obtain rfl : j = l.length := by omega
      go_wp2_with fail
      go_ret
      exact ⟨rfl, rfl⟩

set_option maxRecDepth 100000 in
set_option maxHeartbeats 2000000 in
theorem mixed_any {w : World} {f : Value} {p g0 : Int} {fs : List Int} (hf : Fld w f p g0 fs) (first g h : Int) (v : Value) (l : List Int) (hv : Ints w v l) (hs : l.length ≤ 9223372036854775806) :
    Calls Tryd.prog 99 #[f, .int .i64 first, v, .int .i64 g, .int .i64 (h % p)] w (Rd w (.int .i64 (batched p first g h l))) := by
  have hl := hv.run_len (P := Tryd.prog) slInts
  have HV := Lib.hid hv; have C := Lib.hid hf; clear hv hf
  go_enter Tryd.func99, Tryd.ntmps99
  go_wp2_with (go_at_call 91; refine (of_any C.out _).mono ?_; rintro e w' ⟨rfl, m, rfl⟩)
  go_loopw [1, 11, 13, 19] (fun x1 x11 _ x19 wr => ∃ (j m : Nat) (F : Int), j ≤ l.length ∧ x19 = .int .i64 j ∧ x1 = .int .i64 F ∧ x11 = .int .i64 (g ^ (2 * j + 1) % p) ∧ Hid (F % p = (first + bs l g h j) % p) ∧ wr = w.drewN m) (fun _ _ _ x19 _ => l.length - (intOf x19).toNat)
  case atStart => exact ⟨0, _, _, Nat.zero_le _, rfl, rfl, by rw [Nat.mul_zero, Nat.zero_add, Int.pow_one]; rfl, Lib.hid (by simp [bs]), rfl⟩
  case round =>
    obtain ⟨j, m1, F, hj, rfl, rfl, rfl, H, rfl⟩ := hrel
    by_cases hlt : j < l.length
    · have hix := HV.out.run_index (P := Tryd.prog) slInts j hlt
      have hcell := HV.out.cell j hlt
      have HN := Lib.hid (bat_prog0 p g h first F l j H.out)
      have E1 := Lib.hid (bat_pow p g (2 * j + 1))
      have E2 := Lib.hid (bat_pow p g (2 * j + 1 + 1))
      generalize hG : g ^ (2 * j + 1) % p = G at *
      generalize hG2 : g ^ (2 * j + 1 + 1) % p = G2 at *
      clear hG hG2
      go_wp2_with (first | (go_at_call 60; refine (mul_any (C.out.drewN _) _ _).mono ?_; rintro e w' ⟨rfl, m2, rfl⟩; (try rw [E1.out]); (try rw [E2.out])) | (go_at_call 62; refine (add_any (C.out.drewN _) _ _).mono ?_; rintro e w' ⟨rfl, m2, rfl⟩))
      go_roundw
      case rel => exact ⟨j + 1, _, _, by omega, by go_num, rfl, rfl, Lib.hid (by rw [HN.out]; exact e_idem _ _), rfl⟩
      case measure => simp [intOf]; omega
    · obtain rfl : j = l.length := by omega
      go_wp2_with (go_at_call 91; refine (of_any (C.out.drewN _) _).mono ?_; rintro e w' ⟨rfl, m2, rfl⟩)
      go_ret
      exact .more _ (ret_int H.out)
end Go.Proofs.YthjemncbphdomaaDoor
