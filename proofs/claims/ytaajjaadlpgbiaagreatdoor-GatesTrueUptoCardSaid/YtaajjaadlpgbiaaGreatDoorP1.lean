/- Tables, the program's side: how many variables they have; one of them fixed. -/
import Derived.Test.YtaajjaadlpgbiaaGreatDoorVc
import Derived.Test.YtaajjaadlpgbiaaGreatDoorLa
import Derived.Test.YtaajjaadlpgbiaaGreatDoorHb
import Derived.Test.YtaajjaadlpgbiaaGreatDoorZx12
namespace Go.Att
open Go.RowKit
/-- How many times 2 a number is, up to 12; -1: it is none. -/
def varUp : Nat → Int → Int
  | 0, _ => -1
  | k + 1, n => if n = 2 ^ k then k else varUp k n
def varOf (n : Int) : Int := varUp 13 n
theorem varUp_bd (k : Nat) (n : Int) : -1 ≤ varUp k n ∧ varUp k n < k := by
  induction k with
  | zero => simp [varUp]
  | succ k ih => simp only [varUp]; split <;> omega
theorem varOf_bd (n : Int) : -1 ≤ varOf n ∧ varOf n ≤ 12 := by have := varUp_bd 13 n; unfold varOf; omega
theorem varUp_pow {k : Nat} {n : Int} (h : 0 ≤ varUp k n) : n = 2 ^ (varUp k n).toNat := by
  induction k with
  | zero => simp [varUp] at h
  | succ k ih =>
    simp only [varUp] at *
    by_cases e : n = 2 ^ k
    · rw [if_pos e, Int.toNat_natCast]; exact e
    · rw [if_neg e] at h ⊢; exact ih h
theorem varOf_pow {n : Int} (h : 0 ≤ varOf n) : n = 2 ^ (varOf n).toNat := varUp_pow h
theorem le12 {k : Nat} (h : k ≤ 12) : k = 0 ∨ k = 1 ∨ k = 2 ∨ k = 3 ∨ k = 4 ∨ k = 5 ∨ k = 6 ∨ k = 7 ∨ k = 8 ∨ k = 9 ∨ k = 10 ∨ k = 11 ∨ k = 12 := by omega
theorem varOf_of (k : Nat) (h : k ≤ 12) : varOf (2 ^ k) = k := by
  rcases le12 h with rfl | rfl | rfl | rfl | rfl | rfl | rfl | rfl | rfl | rfl | rfl | rfl | rfl <;> rfl
theorem varOf_le {n : Int} (h : 0 ≤ varOf n) : 1 ≤ n ∧ n ≤ 4096 := by
  have h1 := varOf_pow h
  have h2 := varOf_bd n
  have h3 : (2 : Nat) ^ (varOf n).toNat ≤ 2 ^ 12 := Nat.pow_le_pow_right (by decide) (by omega)
  have h4 : 1 ≤ (2 : Nat) ^ (varOf n).toNat := Nat.one_le_two_pow
  have h5 : ((2 ^ (varOf n).toNat : Nat) : Int) = (2 : Int) ^ (varOf n).toNat := by simp
  omega
theorem varOf_no {n : Int} (h : ∀ k : Nat, k ≤ 12 → (2 : Int) ^ k ≠ n) : varOf n = -1 := by
  apply Classical.byContradiction
  intro hc
  have h1 := varOf_bd n
  have h2 := varOf_pow (n := n) (by omega)
  exact h (varOf n).toNat (by omega) h2.symm
theorem varOf_out {n : Int} (h : n < 1 ∨ 4096 < n) : varOf n = -1 := by
  have h1 := varOf_bd n
  apply Classical.byContradiction
  intro hc
  have := varOf_le (n := n) (by omega)
  omega
theorem var_two {n : Int} (h1 : 1 ≤ n) (h2 : n ≤ 4096) : twoB n = decide (0 ≤ varOf n) := by
  by_cases h : 0 ≤ varOf n
  · rw [decide_eq_true h]
    have hp := varOf_pow h
    have hb := varOf_bd n
    simp only [twoB, twoUp, List.any_eq_true, List.mem_range, beq_iff_eq]
    exact ⟨(varOf n).toNat, by omega, hp.symm⟩
  · rw [decide_eq_false h, Bool.eq_false_iff]
    intro hc
    simp only [twoB, twoUp, List.any_eq_true, List.mem_range, beq_iff_eq] at hc
    obtain ⟨k, hk, rfl⟩ := hc
    have hk6 : k ≤ 12 := by
      apply Classical.byContradiction
      intro hc2
      have h3 : (2 : Nat) ^ 13 ≤ 2 ^ k := Nat.pow_le_pow_right (by decide) (by omega)
      have h4 : ((2 ^ k : Nat) : Int) = (2 : Int) ^ k := by simp
      omega
    rw [varOf_of k hk6] at h; omega
theorem fixL_step (p : Int) (t : List Int) (r : Int) {i : Nat} (h : i < t.length / 2) : (((fixL p t r).take (i + 1)).map (Value.int .i64)) = ((fixL p t r).take i).map (Value.int .i64) ++ [.int .i64 (fadd p (fmul p (nth t i) (fsub p 1 r)) (fmul p (nth t (i + t.length / 2)) r))] := by
  have hl : i < (fixL p t r).length := by rw [fixL_length]; exact h
  rw [List.take_succ_eq_append_getElem hl]
  simp [fixL]
end Go.Att
namespace Go.Proofs.YtaajjaadlpgbiaaGreatDoor
open Go.RowKit Go.Att

set_option maxRecDepth 100000 in
set_option maxHeartbeats 2000000 in
theorem svars_any (v : Value) (l : List Int) (w : World) (hv : Ints w v l) : Calls Tryz.prog 64 #[v] w fun e w' => e = .returned (.int .i64 (varOf l.length)) ∧ w = w' := by
  have hll := hv.run_len (P := Tryz.prog) slInts
  have hlen := hv.len
  clear hv
  generalize hn : (l.length : Int) = n at *
  have h0 : 0 ≤ n := by omega
  have hn9 : n ≤ 9223372036854775807 := by omega
  clear hn hlen
  by_cases h1 : n < 1
  · obtain rfl : n = 0 := by omega
    rw [varOf_out (.inl h1)]
    go_enter Tryz.func64, Tryz.ntmps64
    go_wp2_with fail
    go_ret
    exact ⟨rfl, rfl⟩
  · have hz : (n == 0) = false := by rw [beq_eq_false_iff_ne]; omega
    by_cases h2 : 4096 < n
    · rw [varOf_out (.inr h2)]
      cases hm : (bits BinOp.and IntKind.i64 n (n - 1) != 0)
      all_goals
        go_enter Tryz.func64, Tryz.ntmps64
        go_wp2_with fail
        go_ret
        exact ⟨rfl, rfl⟩
    · by_cases h : 0 ≤ varOf n
      · have hb := varOf_bd n
        have hp := varOf_pow h
        obtain ⟨k, hk⟩ := Int.eq_ofNat_of_zero_le h
        rw [hk, Int.toNat_natCast] at hp
        have hk6 : k ≤ 12 := by omega
        clear h hb hk h0 hz
        subst hp
        rw [varOf_of k hk6]
        have := le12 hk6
        clear h1 h2 hk6 hn9
        rcases this with rfl | rfl | rfl | rfl | rfl | rfl | rfl | rfl | rfl | rfl | rfl | rfl | rfl
        all_goals
          go_enter Tryz.func64, Tryz.ntmps64
          go_wp2
          go_ret
          exact ⟨by kernel_rfl, rfl⟩
      · have hm : (bits BinOp.and IntKind.i64 n (n - 1) != 0) = true := by rw [twoB_iff (by omega) (by omega), var_two (by omega) (by omega), decide_eq_false h]; rfl
        have hw : varOf n = -1 := by have := varOf_bd n; omega
        rw [hw]
        clear h hw
        go_enter Tryz.func64, Tryz.ntmps64
        go_wp2_with fail
        go_ret
        exact ⟨rfl, rfl⟩

section
variable {w : World} {f : Value} {p g : Int} {fs : List Int}
set_option maxRecDepth 100000 in
set_option maxHeartbeats 4000000 in
theorem sfixed_any (hf : Fld w f p g fs) (v : Value) (t : List Int) (r : Int) (hv : Ints w v t) (hl : t.length ≤ 1048576) :
    Calls Tryz.prog 65 #[f, v, .int .i64 r] w (Gives w fun u w' => Ints w' u (fixL p t r)) := by
  have hlv := hv.run_len (P := Tryz.prog) slInts
  have HV := Lib.hid hv; have C := Lib.hid hf; clear hv hf
  go_enter Tryz.func65, Tryz.ntmps65
  go_wp2_with (refine wpList_mk0 rfl _ _ 23 rfl slInts (Ext.refl w) rfl rfl (by omega) (by omega) (by omega) ?_; intro v4 w5 HO HX _)
  rw [show ((t.length : Int) / 2) = ((t.length / 2 : Nat) : Int) by omega]
  go_loopw [8, 9, 16] (fun x8 _ x16 wr => ∃ i : Nat, i ≤ t.length / 2 ∧ x16 = .int .i64 i ∧ wr.ownsRow w.heap.size 3 1 x8 i (((fixL p t r).take i).map (Value.int .i64)) ∧ Ext w wr) (fun _ _ x16 _ => t.length / 2 - (intOf x16).toNat)
  case atStart => exact ⟨0, Nat.zero_le _, rfl, HO, HX⟩
  case round =>
    obtain ⟨i, hi, rfl, HO1, HX1⟩ := hrel
    by_cases hlt : i < t.length / 2
    · have hix := HV.out.run_index (P := Tryz.prog) slInts i (by omega)
      have hc := (HV.out.ext HX1).cell i (by omega)
      have hix2 := HV.out.run_index (P := Tryz.prog) slInts (i + t.length / 2) (by omega)
      have hc2 := (HV.out.ext HX1).cell (i + t.length / 2) (by omega)
      have S := Lib.hid (fixL_step p t r hlt)
      have HF := Lib.hid (C.out.ext HX1)
      rw [show ((i + t.length / 2 : Nat) : Int) = (i : Int) + (t.length / 2 : Nat) by omega] at hix2
      generalize hN : t.length / 2 = N at *
      go_wp2_with fail
      refine wp_region_move_quiet_tail 21 _ (by kernel_rfl) rfl rfl (by kernel_rfl) ?_
      simp only [List.take_succ_cons, List.take_zero, List.drop_succ_cons, List.drop_zero]
      repeat (go_big_quiet_step (first | (go_at_call 71; exact mul_q HF.out _ _ _) | (go_at_call 70; exact add_q HF.out _ _ _) | (go_at_call 116; exact sub_q HF.out _ _ _)))
      refine wpQuiet_nil ?_
      rintro _ ⟨nq, rfl⟩
      have HO4 := own_ext HO1 (Ext.drewN wr nq)
      have HX4 := HX1.trans (Ext.drewN wr nq)
      clear hix hc hix2 hc2
      go_wp2_with (at_builtin; refine wpList_appNw rfl _ _ 23 rfl slInts rfl HX4.size HO4 rfl _ rfl (by intro u hu; simp at hu; subst hu; rfl) rfl (by omega) (by omega) ?_; intro v' w7 HO7 HG7 HW7)
      refine NoPan.normal ?_
      go_wp2_with fail
      go_roundw
      case rel => exact ⟨i + 1, by omega, by go_num, by rw [S.out]; exact HO7, Ext.own_grown HX4 HO4 HG7⟩
      case measure => simp [intOf]; omega
    · obtain rfl : i = t.length / 2 := by omega
      have HE := Lib.hid (Ints.of_own HO1)
      have S := Lib.hid (show (fixL p t r).take (t.length / 2) = fixL p t r from List.take_of_length_le (by rw [fixL_length]; omega))
      go_wp2_with fail
      go_ret
      exact .mk _ rfl HX1 (by rw [← S.out]; exact HE.out)

set_option maxRecDepth 100000 in
theorem sFix_ok (hf : Fld w f p g fs) (v : Value) (t : List Int) (r : Int) (hv : Ints w v t) (k : Nat) (hk : 1 ≤ k) (hk2 : k ≤ 12) (hl : t.length = 2 ^ k) :
    Calls Tryz.prog 163 #[f, v, .int .i64 r] w (Gives w fun u w' => ∃ x, u = .tuple #[x, .nilIface] ∧ Ints w' x (fixL p t r)) := by
  have e : varOf t.length = k := by rw [hl, Int.natCast_pow]; exact varOf_of k hk2
  have hlen : t.length ≤ 1048576 := by rw [hl]; exact Nat.le_trans (Nat.pow_le_pow_right (by decide) hk2) (by decide)
  have HV := Lib.hid hv; have C := Lib.hid hf; have E := Lib.hid e; clear hv hf hl e
  go_enter Tryz.func163, Tryz.ntmps163
  go_wp2_with (first | (go_at_call 64; refine (svars_any _ _ _ HV.out).mono ?_; rw [E.out]; rintro e w' ⟨rfl, rfl⟩) | (go_at_call 65; refine (sfixed_any C.out _ _ _ HV.out hlen).mono ?_; rintro e w2 ⟨v2, rfl, hx2, hu⟩; have HU := Lib.hid hu; clear hu))
  go_ret2
  exact .mk _ rfl hx2 ⟨_, rfl, HU.out⟩
end
end Go.Proofs.YtaajjaadlpgbiaaGreatDoor
