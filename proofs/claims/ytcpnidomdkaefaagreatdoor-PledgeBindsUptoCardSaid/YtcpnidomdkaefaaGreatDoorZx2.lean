/- The document's powers, orders, generators, roots: contracts. Domains on both sides: contracts. -/
import Derived.Test.YtcpnidomdkaefaaGreatDoorZx15
import Derived.Deep.RegionWith
import Derived.Test.YtcpnidomdkaefaaGreatDoorVc
import Derived.StillTailTactics
import Derived.Test.YtcpnidomdkaefaaGreatDoorZx1
section
/-! The document's powers, orders, generators, roots: contracts. -/
namespace Go.Att
end Go.Att
namespace Go.Proofs.YtcpnidomdkaefaaGreatDoor
open Go.RowKit Go.Att

/-- What the document's Order gives, as far as a generator is told by it. -/
def OrdIs (p a : Int) : Ending → World → World → Prop := fun e w w' => ∃ r, e = .returned (.int .i64 r) ∧ w = w' ∧ (r = p - 1 ↔ IsGen p a)
theorem OrdIs.mk {p a r : Int} {e : Ending} {w : World} (h1 : e = .returned (.int .i64 r)) (h2 : r = p - 1 ↔ IsGen p a) : OrdIs p a e w w := ⟨r, h1, rfl, h2⟩

/-- The root of an order that divides p - 1. -/
def froot (p g n : Int) : Int := fpow p g ((p - 1) / n).toNat
end Go.Proofs.YtcpnidomdkaefaaGreatDoor
/-! The document's division: contract. -/
namespace Go.Proofs.YtcpnidomdkaefaaGreatDoor
open Go.RowKit Go.Att

end Go.Proofs.YtcpnidomdkaefaaGreatDoor
/-! The program's inverses, powers, roots: contracts. -/
namespace Go.Proofs.YtcpnidomdkaefaaGreatDoor
open Go.RowKit Go.Att

section
variable {w : World} {f : Value} {p g : Int} {fs : List Int}
theorem p_any (hf : Fld w f p g fs) : Calls Tryz.prog 86 #[f] w (Rd w (.int .i64 p)) := by
  obtain ⟨⟨b', v, rfl, hc, -, -, -⟩, -, -, -⟩ := hf
  go_enter Tryz.func86, Tryz.ntmps86
  go_wp2
  go_ret; exact .same rfl
theorem p_q (hf : Fld w f p g fs) (m : Nat) : Calls Tryz.prog 86 #[f] (w.drewN m) fun e w'' => e = .returned (.int .i64 p) ∧ ∃ m, w'' = w.drewN m := Calls.quiet_of (p_any (hf.drewN m))

theorem inv_any (hf : Fld w f p g fs) (a : Int) : Calls Tryz.prog 98 #[f, .int .i64 a] w (Rd w (.int .i64 (finv p a))) := by
  have C := Lib.hid hf
  obtain ⟨⟨b', v, rfl, hc, -, -, -⟩, -, lo, hi⟩ := hf
  go_enter Tryz.func98, Tryz.ntmps98
  go_wp2_with (go_at_call 97; refine (power_int C.out _ _ (by omega) (by omega)).mono ?_; rintro e w' ⟨rfl, m, rfl⟩)
  go_ret; exact .more _ (ret_int (finv_eq _ _))
theorem inv_q (hf : Fld w f p g fs) (a : Int) (m : Nat) : Calls Tryz.prog 98 #[f, .int .i64 a] (w.drewN m) fun e w'' => e = .returned (.int .i64 (finv p a)) ∧ ∃ m, w'' = w.drewN m := Calls.quiet_of (inv_any (hf.drewN m) a)

theorem pow_any (hf : Fld w f p g fs) (a n : Int) (h0 : 0 ≤ n) (hn : n ≤ 9223372036854775807) : Calls Tryz.prog 42 #[f, .int .i64 a, .int .i64 n] w (Rd w (.int .i64 (fpow p a n.toNat))) := by
  have C := Lib.hid hf; clear hf
  go_enter Tryz.func42, Tryz.ntmps42
  go_wp2_with (go_at_call 97; refine (power_int C.out _ _ h0 hn).mono ?_; rintro e w' ⟨rfl, m, rfl⟩)
  go_ret; exact .more _ rfl
theorem pow_q (hf : Fld w f p g fs) (a n : Int) (h0 : 0 ≤ n) (hn : n ≤ 9223372036854775807) (m : Nat) : Calls Tryz.prog 42 #[f, .int .i64 a, .int .i64 n] (w.drewN m) fun e w'' => e = .returned (.int .i64 (fpow p a n.toNat)) ∧ ∃ m, w'' = w.drewN m := Calls.quiet_of (pow_any (hf.drewN m) a n h0 hn)

theorem root_ok (hf : Fld w f p g fs) (n : Int) (hn : 1 ≤ n) (hd : (p - 1) % n = 0) : Calls Tryz.prog 87 #[f, .int .i64 n] w (Rd w (.int .i64 (froot p g n))) := by
  have C := Lib.hid hf
  obtain ⟨⟨b', v, rfl, hc, -, -, hg⟩, -, lo, hi⟩ := hf
  have hb : ((p - 1) % n != 0) = false := by rw [bne_eq_false_iff_eq]; exact hd
  have hq0 : 0 ≤ (p - 1) / n := Int.ediv_nonneg (by omega) (by omega)
  have hq1 : (p - 1) / n ≤ p - 1 := Int.ediv_le_self _ (by omega)
  clear hd
  go_enter Tryz.func87, Tryz.ntmps87
  go_wp2_with fail
  go_quiet ((go_at_call 97; exact power_int_q C.out _ _ hq0 (by omega) _))
  go_wp2_with fail
  go_ret; exact .more _ rfl
end
end Go.Proofs.YtcpnidomdkaefaaGreatDoor
end
section
/-! Domains on both sides: contracts. -/
namespace Go.Att
open Go.RowKit
theorem land_pred (a : Nat) (ha : 0 < a) : a &&& (a - 1) = 0 ↔ ∃ k : Nat, a = 2 ^ k := by
  induction a using Nat.strongRecOn with
  | _ a ih =>
    have h0 : (a &&& (a - 1)) % 2 = 0 := by
      rw [← Nat.and_one_is_mod, Nat.and_assoc, Nat.and_comm (a - 1), ← Nat.and_assoc]
      rcases Nat.mod_two_eq_zero_or_one a with h | h
      · rw [Nat.and_one_is_mod, h, Nat.zero_and]
      · rw [Nat.and_one_is_mod, h, Nat.and_comm, Nat.and_one_is_mod]; omega
    have h1 : (a &&& (a - 1)) / 2 = a / 2 &&& (a - 1) / 2 := Nat.and_div_two
    have h2 : a &&& (a - 1) = 0 ↔ a / 2 &&& (a - 1) / 2 = 0 := by rw [← h1]; omega
    rw [h2]
    rcases Nat.mod_two_eq_zero_or_one a with h | h
    · obtain ⟨b, rfl⟩ : ∃ b, a = 2 * b := ⟨a / 2, by omega⟩
      rw [show 2 * b / 2 = b by omega, show (2 * b - 1) / 2 = b - 1 by omega, ih b (by omega) (by omega)]
      constructor
      · rintro ⟨k, rfl⟩; exact ⟨k + 1, by rw [Nat.pow_succ]; omega⟩
      · rintro ⟨k, hk⟩
        cases k with
        | zero => rw [Nat.pow_zero] at hk; omega
        | succ k => exact ⟨k, by rw [Nat.pow_succ] at hk; omega⟩
    · rw [show (a - 1) / 2 = a / 2 by omega, Nat.and_self]
      constructor
      · intro h3; exact ⟨0, by rw [Nat.pow_zero]; omega⟩
      · rintro ⟨k, hk⟩
        cases k with
        | zero => rw [Nat.pow_zero] at hk; omega
        | succ k => rw [Nat.pow_succ] at hk; omega
/-- Is a number a power of two up to 65536? -/
def twoUp (k : Nat) (n : Int) : Bool := (List.range k).any fun j => (2 : Int) ^ j == n
def twoB (n : Int) : Bool := twoUp 17 n
theorem twoUp_succ (k : Nat) (n : Int) : twoUp (k + 1) n = (twoUp k n || (2 : Int) ^ k == n) := by simp [twoUp, List.range_succ]
theorem pow17 {k : Nat} (h : k < 17) : (1 : Int) ≤ 2 ^ k ∧ (2 : Int) ^ k ≤ 65536 := by
  have h1 : (2 : Nat) ^ k ≤ 2 ^ 16 := Nat.pow_le_pow_right (by decide) (by omega)
  have h2 : 1 ≤ (2 : Nat) ^ k := Nat.one_le_two_pow
  have : ((2 : Nat) ^ k : Nat) = (2 : Int) ^ k := by simp
  omega
theorem twoB_bd {n : Int} (h : twoB n = true) : 1 ≤ n ∧ n ≤ 65536 := by
  simp only [twoB, twoUp, List.any_eq_true, List.mem_range, beq_iff_eq] at h
  obtain ⟨k, hk, rfl⟩ := h
  exact pow17 hk
theorem twoB_iff {n : Int} (h1 : 1 ≤ n) (h2 : n ≤ 65536) : (bits .and .i64 n (n - 1) != 0) = !twoB n := by
  obtain ⟨a, rfl⟩ := Int.eq_ofNat_of_zero_le (show 0 ≤ n by omega)
  rw [show ((a : Int) - 1) = ((a - 1 : Nat) : Int) by omega, i64_and_nat _ _ (by omega) (by omega)]
  have h3 := land_pred a (by omega)
  by_cases hk : ∃ k : Nat, a = 2 ^ k
  · have : twoB a = true := by
      obtain ⟨k, rfl⟩ := hk
      simp only [twoB, twoUp, List.any_eq_true, List.mem_range, beq_iff_eq]
      refine ⟨k, ?_, by simp⟩
      apply Classical.byContradiction
      intro hc
      have : (2 : Nat) ^ 17 ≤ 2 ^ k := Nat.pow_le_pow_right (by decide) (by omega)
      omega
    rw [this, bne_eq_false_iff_eq.2 (by rw [h3.2 hk]; rfl)]; rfl
  · have : twoB a = false := by
      rw [Bool.eq_false_iff]
      intro hc
      simp only [twoB, twoUp, List.any_eq_true, List.mem_range, beq_iff_eq] at hc
      obtain ⟨k, _, e⟩ := hc
      exact hk ⟨k, by have : ((2 ^ k : Nat) : Int) = (2 : Int) ^ k := by simp
                      omega⟩
    rw [this, bne_iff_ne.2 (fun e => hk (h3.1 (by omega)))]; rfl
/-- A domain's fault; 0: none. -/
def domErr (p n sh : Int) : Int := if twoB n = true ∧ (p - 1) % n = 0 then (if fof p sh = 0 then 3 else 0) else 2
theorem domErr_two {p n sh : Int} (h : ¬ (twoB n = true ∧ (p - 1) % n = 0)) : domErr p n sh = 2 := if_neg h
theorem domErr_three {p n sh : Int} (h : twoB n = true ∧ (p - 1) % n = 0) (h2 : fof p sh = 0) : domErr p n sh = 3 := by unfold domErr; rw [if_pos h, if_pos h2]
theorem domErr_zero {p n sh : Int} (h : twoB n = true ∧ (p - 1) % n = 0) (h2 : fof p sh ≠ 0) : domErr p n sh = 0 := by unfold domErr; rw [if_pos h, if_neg h2]
theorem domErr_ok {p n sh : Int} (h : domErr p n sh = 0) : twoB n = true ∧ (p - 1) % n = 0 ∧ fof p sh ≠ 0 := by
  unfold domErr at h
  split at h
  · rename_i h1
    split at h
    · omega
    · exact ⟨h1.1, h1.2, by assumption⟩
  · omega
/-- The program's domain: a pointer to its field, its size, its first point, its root. -/
structure DomOf (w : World) (d f : Value) (n sh r : Int) : Prop where
  at_ : ∃ b, d = .pointer (some ⟨b, 0, none⟩) ∧ w.cell? ⟨b, 0, none⟩ = some f ∧ w.cell? ⟨b, 1, none⟩ = some (.int .i64 n) ∧ w.cell? ⟨b, 2, none⟩ = some (.int .i64 sh) ∧ w.cell? ⟨b, 3, none⟩ = some (.int .i64 r)
theorem DomOf.ext {w w' : World} {d f : Value} {n sh r : Int} (h : DomOf w d f n sh r) (hx : Ext w w') : DomOf w' d f n sh r := by
  obtain ⟨b, h1, h2, h3, h4, h5⟩ := h
  exact ⟨⟨b, h1, hx.cell h2, hx.cell h3, hx.cell h4, hx.cell h5⟩⟩
theorem DomOf.ptr {w : World} {d f : Value} {n sh r : Int} (h : DomOf w d f n sh r) : ∃ b, d = .pointer (some ⟨b, 0, none⟩) := by
  obtain ⟨b, h1, _⟩ := h; exact ⟨b, h1⟩
theorem DomOf.drewN {w : World} {d f : Value} {n sh r : Int} (h : DomOf w d f n sh r) (m : Nat) : DomOf (w.drewN m) d f n sh r := h.ext (Ext.drewN _ _)
/-- The point at a place. -/
def ptAt (p sh r : Int) (i : Nat) : Int := sh * r ^ i % p
theorem ptAt_pow (p sh r : Int) (i : Nat) : fmul p (fpow p r i) sh = ptAt p sh r i := by
  unfold fmul ptAt fpow
  rw [Int.mul_emod, Int.emod_emod, ← Int.mul_emod, Int.mul_comm]
end Go.Att
namespace Go.Proofs.YtcpnidomdkaefaaGreatDoor
open Go.RowKit Go.Att

set_option maxHeartbeats 1000000 in
theorem rfault_any (p n sh : Int) (w : World) (hp : 3 ≤ p) (hp2 : p ≤ 2147483647) :
    Calls Tryz.prog 28 #[.int .i64 p, .int .i64 n, .int .i64 sh] w fun e w' => e = .returned (.int .i64 (domErr p n sh)) ∧ w = w' := by
  go_enter Tryz.func28, Tryz.ntmps28
  go_wp2
  go_loop [7, 8] (fun x7 x8 => ∃ k : Nat, k ≤ 17 ∧ x7 = .bool (twoUp k n) ∧ x8 = .int .i64 ((2 : Int) ^ k)) (fun _ x8 => (131072 - intOf x8).toNat)
  case atStart => exact ⟨0, by omega, rfl, rfl⟩
  case round =>
    obtain ⟨k, hk, rfl, rfl⟩ := hrel
    by_cases hk2 : k < 17
    · have hb := pow17 hk2
      have hs := twoUp_succ k n
      have hp2 : (2 : Int) ^ (k + 1) = 2 ^ k * 2 := Int.pow_succ _ _
      generalize (2 : Int) ^ k = N at hb hs hp2 ⊢
      generalize twoUp k n = B at hs ⊢
      have HS := Lib.hid hs; have HP := Lib.hid hp2; clear hs hp2
      cases B
      · go_wp2
        go_round
        case rel => exact ⟨k + 1, by omega, by rw [HS.out, Bool.false_or], by rw [HP.out]⟩
        case measure => simp [intOf]; omega
      · go_wp2
        go_round
        case rel => exact ⟨k + 1, by omega, by rw [HS.out, Bool.true_or], by rw [HP.out]⟩
        case measure => simp [intOf]; omega
    · obtain rfl : k = 17 := by omega
      have e : (2 : Int) ^ 17 = 131072 := by decide
      rw [e]
      by_cases h2 : twoUp 17 n = true
      · have hbd := twoB_bd h2
        rw [h2]
        by_cases hd : (p - 1) % n = 0
        · have hdb : ((p - 1) % n != 0) = false := by rw [bne_eq_false_iff_eq]; exact hd
          have HD := Lib.hid (show twoB n = true ∧ (p - 1) % n = 0 from ⟨h2, hd⟩); clear hd h2
          by_cases hz : fof p sh = 0
          · have hzb : (fof p sh == 0) = true := by rw [beq_iff_eq]; exact hz
            have HZ := Lib.hid (domErr_three HD.out hz); clear hz
            go_wp2_with (go_at_call 47; refine (rof_any _ _ _ (by omega) hp2).mono ?_; rintro e w' ⟨rfl, rfl⟩)
            go_ret
            exact ⟨ret_int HZ.out.symm, rfl⟩
          · have hzb : (fof p sh == 0) = false := by rw [beq_eq_false_iff_ne]; exact hz
            have HZ := Lib.hid (domErr_zero HD.out hz); clear hz
            go_wp2_with (go_at_call 47; refine (rof_any _ _ _ (by omega) hp2).mono ?_; rintro e w' ⟨rfl, rfl⟩)
            go_ret
            exact ⟨ret_int HZ.out.symm, rfl⟩
        · have hdb : ((p - 1) % n != 0) = true := by rw [bne_iff_ne]; exact hd
          have HZ := Lib.hid (domErr_two (p := p) (sh := sh) (fun h => hd h.2)); clear hd h2
          go_wp2_with fail
          go_ret
          exact ⟨ret_int HZ.out.symm, rfl⟩
      · have HZ := Lib.hid (domErr_two (p := p) (sh := sh) (fun h => h2 h.1))
        have h3 : twoUp 17 n = false := by simpa using h2
        clear h2
        rw [h3]
        clear h3
        go_wp2_with fail
        go_ret
        exact ⟨ret_int HZ.out.symm, rfl⟩

theorem size_any {w : World} {d f : Value} {n sh r : Int} (h : DomOf w d f n sh r) : Calls Tryz.prog 35 #[d] w (Rd w (.int .i64 n)) := by
  obtain ⟨b, rfl, h1, h2, h3, h4⟩ := h
  go_enter Tryz.func35, Tryz.ntmps35
  go_wp2
  go_ret; exact .same rfl
theorem size_q {w : World} {d f : Value} {n sh r : Int} (h : DomOf w d f n sh r) (m : Nat) : Calls Tryz.prog 35 #[d] (w.drewN m) fun e w'' => e = .returned (.int .i64 n) ∧ ∃ m, w'' = w.drewN m := Calls.quiet_of (size_any (h.drewN m))
theorem dfield_any {w : World} {d : Value} {b : Addr} {n sh r : Int} (h : DomOf w d (.pointer (some b)) n sh r) : Calls Tryz.prog 89 #[d] w (Rd w (.pointer (some b))) := by
  obtain ⟨b, rfl, h1, h2, h3, h4⟩ := h
  go_enter Tryz.func89, Tryz.ntmps89
  go_wp2
  go_ret; exact .same rfl
set_option maxHeartbeats 1000000 in
theorem dnew_bad {w : World} {f : Value} {p g : Int} {fs : List Int} (hf : Fld w f p g fs) (n sh : Int) (hE : domErr p n sh ≠ 0) :
    Calls Tryz.prog 27 #[f, .int .i64 n, .int .i64 sh] w (Rd w (.tuple #[.pointer none, errv (domErr p n sh)])) := by
  have lo := hf.lo; have hi := hf.hi
  have C := Lib.hid hf; clear hf
  by_cases h2 : twoB n = true
  · have hbd := twoB_bd h2
    have hm : (bits BinOp.and IntKind.i64 n (n - 1) != 0) = false := by rw [twoB_iff hbd.1 hbd.2, h2]; rfl
    by_cases hd : (p - 1) % n = 0
    · have hdb : ((p - 1) % n != 0) = false := by rw [bne_eq_false_iff_eq]; exact hd
      have hz : fof p sh = 0 := Classical.byContradiction fun h => hE (domErr_zero ⟨h2, hd⟩ h)
      have hzb : (fof p sh == 0) = true := by rw [beq_iff_eq]; exact hz
      rw [domErr_three ⟨h2, hd⟩ hz, errv_pos (by decide)]
      clear hE h2 hd hz
      go_enter Tryz.func27, Tryz.ntmps27
      go_wp2_with (first | (go_at_call 86; refine (p_any C.out).mono ?_; rintro e w' ⟨rfl, m, rfl⟩) | (go_at_call 83; refine (of_any (C.out.drewN _) _).mono ?_; rintro e w' ⟨rfl, m2, rfl⟩))
      go_ret2
      exact .more _ rfl
    · have hdb : ((p - 1) % n != 0) = true := by rw [bne_iff_ne]; exact hd
      rw [domErr_two (fun h => hd h.2), errv_pos (by decide)]
      clear hE h2 hd
      go_enter Tryz.func27, Tryz.ntmps27
      go_wp2_with (go_at_call 86; refine (p_any C.out).mono ?_; rintro e w' ⟨rfl, m, rfl⟩)
      go_ret2
      exact .more _ rfl
  · rw [domErr_two (fun h => h2 h.1), errv_pos (by decide)]
    by_cases h1 : n < 1
    · clear hE h2
      go_enter Tryz.func27, Tryz.ntmps27
      go_wp2_with fail
      go_ret2
      exact .same rfl
    · by_cases h3 : 65536 < n
      · clear hE h2
        go_enter Tryz.func27, Tryz.ntmps27
        go_wp2_with fail
        go_ret2
        exact .same rfl
      · have hm : (bits BinOp.and IntKind.i64 n (n - 1) != 0) = true := by rw [twoB_iff (by omega) (by omega)]; simp [h2]
        clear hE h2
        go_enter Tryz.func27, Tryz.ntmps27
        go_wp2_with fail
        go_ret2
        exact .same rfl

set_option maxHeartbeats 1000000 in
theorem dnew_ok {w : World} {f : Value} {p g : Int} (hf : FieldOf w f p g) (n sh : Int) (hE : domErr p n sh = 0) :
    Calls Tryz.prog 27 #[f, .int .i64 n, .int .i64 sh] w (Gives w fun v w' => ∃ d, v = .tuple #[d, .nilIface] ∧ DomOf w' d f n (fof p sh) (froot p g n)) := by
  obtain ⟨fs, hf1⟩ := hf.fld
  have lo := hf1.lo; have hi := hf1.hi
  obtain ⟨bf, rfl⟩ := hf.ptr
  obtain ⟨h2, hd, hz⟩ := domErr_ok hE
  have C := Lib.hid hf1; have HF := Lib.hid hf; clear hf hf1
  have hbd := twoB_bd h2
  have hm : (bits BinOp.and IntKind.i64 n (n - 1) != 0) = false := by rw [twoB_iff hbd.1 hbd.2, h2]; rfl
  have hdb : ((p - 1) % n != 0) = false := by rw [bne_eq_false_iff_eq]; exact hd
  have hzb : (fof p sh == 0) = false := by rw [beq_eq_false_iff_ne]; exact hz
  have HD := Lib.hid hd
  clear hE h2 hd hz
  go_enter Tryz.func27, Tryz.ntmps27
  go_wp2_with (first | (go_at_call 86; refine (p_any C.out).mono ?_; rintro e w' ⟨rfl, m, rfl⟩) | (go_at_call 83; refine (of_any (C.out.drewN _) _).mono ?_; rintro e w' ⟨rfl, m2, rfl⟩) | (go_at_call 87; refine (root_ok (C.out.drewN _) _ hbd.1 HD.out).mono ?_; rintro e w' ⟨rfl, m2, rfl⟩))
  go_ret2
  refine .mk _ rfl ((Ext.drewN _ _).trans (Ext.alloc _ _)) ⟨.pointer (some ⟨w.heap.size, 0, none⟩), rfl, ⟨⟨w.heap.size, rfl, ?_, ?_, ?_, ?_⟩⟩⟩
  all_goals (rw [cell_newN]; rfl)

end Go.Proofs.YtcpnidomdkaefaaGreatDoor
/-! Words made one, on both sides: contracts. -/
namespace Go.Att
open Go.RowKit
/-- What several words add to the first: the word j by g to the 2j + 1, and once more by g to the 2j + 2 and h. -/
def bs (l : List Int) (g h : Int) : Nat → Int
  | 0 => 0
  | j + 1 => bs l g h j + g ^ (2 * j + 1) * nth l j + g ^ (2 * j + 2) * nth l j * h
end Go.Att
namespace Go.Proofs.YtcpnidomdkaefaaGreatDoor
open Go.RowKit Go.Att

end Go.Proofs.YtcpnidomdkaefaaGreatDoor
end
