/- The document's polynomials: contracts. Tables, the program's side: how many variables they have; one of them fixed. The document's polynomials through points; points of a line; how many variables a table has: contracts. A layer's sum, the program's side: one side of a wire. A layer's sum, the program's side: the sum over the wires. A layer's sum, the program's side: Part with its faults. What a table is at a point, the program's side: Extend. A circuit of one gate, built in place. -/
import Derived.Test.YtfepefbehgbjpaaGreatDoorZx2
import Derived.Test.YtfepefbehgbjpaaGreatDoorZx8
import Derived.Test.YtfepefbehgbjpaaGreatDoorZx1
import Derived.Test.YtfepefbehgbjpaaGreatDoorZx3
import Derived.Test.YtfepefbehgbjpaaGreatDoorZx5
import Derived.Deep.RegionWith
section
namespace Go.Att
open Go.RowKit
theorem zeros_made (n : Nat) : (madeCells (Value.cells (.int .i64 0)) (n * 1)).toList = (List.replicate n (0 : Int) ++ ([] : List Int)).map (Value.int .i64) := by
  simp [madeCells, Value.cells, Nat.mod_one, List.map_const']
theorem ev_stepN (p : Int) (a : List Int) (x : Int) (i : Nat) : (sumN (fun i => nth a i * x ^ i) i % p + fmul p (nth a i) (x ^ i % p)) % p = sumN (fun i => nth a i * x ^ i) (i + 1) % p := by
  simp only [sumN, fmul, ea_l, ea_r, em_r]
theorem pow_stepN (p x : Int) (i : Nat) : fmul p (x ^ i % p) x = x ^ (i + 1) % p := by
  simp only [fmul, em_l, Int.pow_succ]
end Go.Att
namespace Go.Proofs.YtfepefbehgbjpaaGreatDoor
open Go.RowKit Go.Att

set_option maxRecDepth 100000 in
set_option maxHeartbeats 1000000 in
theorem reval_any (p x : Int) (va : Value) (a : List Int) (w : World) (hp : 2 ≤ p) (hp2 : p ≤ 2147483647) (ha : Ints w va a) : Calls Tryz.prog 140 #[.int .i64 p, va, .int .i64 x] w fun e w' => e = .returned (.int .i64 (ev a x % p)) ∧ w = w' := by
  have hla := ha.run_len (P := Tryz.prog) slInts
  have hlen := ha.len
  have h1p : (1 : Int) % p = 1 := one_mod hp
  have HA := Lib.hid ha; have EV := Lib.hid (ev_sumN a x a.length (Nat.le_refl _)); have H1P := Lib.hid h1p; clear ha h1p
  go_enter Tryz.func140, Tryz.ntmps140
  go_wp2_with fail
  go_loop [7, 8, 9, 10] (fun x7 x8 x9 _ => ∃ i : Nat, i ≤ a.length ∧ x9 = .int .i64 i ∧ x8 = .int .i64 (x ^ i % p) ∧ x7 = .int .i64 (sumN (fun i => nth a i * x ^ i) i % p)) (fun _ _ x9 _ => a.length - (intOf x9).toNat)
  case atStart => exact ⟨0, Nat.zero_le _, rfl, by rw [Int.pow_zero, H1P.out], by simp [sumN]⟩
  case round =>
    obtain ⟨i, hi, rfl, rfl, rfl⟩ := hrel
    by_cases hlt : i < a.length
    · have hix := HA.out.run_index (P := Tryz.prog) slInts i hlt
      have hc := HA.out.cell i hlt
      have S1 := Lib.hid (ev_stepN p a x i)
      have S2 := Lib.hid (pow_stepN p x i)
      have hb1 := mod_bd hp (sumN (fun i => nth a i * x ^ i) i)
      have hb2 := fmul_bd hp (nth a i) (x ^ i % p)
      generalize sumN (fun i => nth a i * x ^ i) i % p = A at *
      generalize x ^ i % p = W at *
      generalize nth a i = c at *
      generalize hF : fmul p c W = F at *
      have HF := Lib.hid hF; clear hF
      obtain ⟨Z, hZ⟩ : ∃ Z, sumN (fun i => nth a i * x ^ i) (i + 1) % p = Z := ⟨_, rfl⟩
      rw [hZ] at S1
      obtain ⟨Y, hY⟩ : ∃ Y, x ^ (i + 1) % p = Y := ⟨_, rfl⟩
      rw [hY] at S2
      have HZ := Lib.hid hZ; have HY := Lib.hid hY; clear hZ hY
      go_wp2_with (first | (go_at_call_of 102 c; refine (rmul_any _ c _ _ hp hp2).mono ?_; rw [HF.out]; rintro e w' ⟨rfl, rfl⟩) | (go_at_call 102; refine (rmul_any _ W _ _ hp hp2).mono ?_; rw [S2.out]; rintro e w' ⟨rfl, rfl⟩))
      go_round
      case rel => exact ⟨i + 1, by omega, by go_num, by rw [HY.out], by rw [HZ.out, S1.out]⟩
      case measure => simp [intOf]; omega
    · obtain rfl : i = a.length := by omega
      go_wp2_with fail
      go_ret
      exact ⟨ret_int (by rw [EV.out]), rfl⟩
end Go.Proofs.YtfepefbehgbjpaaGreatDoor
end
section
namespace Go.Att
open Go.RowKit
def varUp : Nat → Int → Int
  | 0, _ => -1
  | k + 1, n => if n = 2 ^ k then k else varUp k n
def varOf (n : Int) : Int := varUp 13 n
theorem varUp_bd (k : Nat) (n : Int) : -1 ≤ varUp k n ∧ varUp k n < k := by
  induction k with
  | zero => simp [varUp]
  | succ k ih => simp only [varUp]; split <;> omega
theorem varOf_bd (n : Int) : -1 ≤ varOf n ∧ varOf n ≤ 12 := by have := varUp_bd 13 n; unfold varOf; omega
theorem varUp_pow {k : Nat} {n : Int} (h : 0 ≤ varUp k n) : n = 2 ^ (varUp k n).toNat := by
  induction k with
  | zero => simp [varUp] at h
  | succ k ih =>
    simp only [varUp] at *
    by_cases e : n = 2 ^ k
    · rw [if_pos e, Int.toNat_natCast]; exact e
    · rw [if_neg e] at h ⊢; exact ih h
theorem varOf_pow {n : Int} (h : 0 ≤ varOf n) : n = 2 ^ (varOf n).toNat := varUp_pow h
theorem le12 {k : Nat} (h : k ≤ 12) : k = 0 ∨ k = 1 ∨ k = 2 ∨ k = 3 ∨ k = 4 ∨ k = 5 ∨ k = 6 ∨ k = 7 ∨ k = 8 ∨ k = 9 ∨ k = 10 ∨ k = 11 ∨ k = 12 := by omega
theorem varOf_of (k : Nat) (h : k ≤ 12) : varOf (2 ^ k) = k := by
  rcases le12 h with rfl | rfl | rfl | rfl | rfl | rfl | rfl | rfl | rfl | rfl | rfl | rfl | rfl <;> rfl
theorem varOf_le {n : Int} (h : 0 ≤ varOf n) : 1 ≤ n ∧ n ≤ 4096 := by
  have h1 := varOf_pow h
  have h2 := varOf_bd n
  have h3 : (2 : Nat) ^ (varOf n).toNat ≤ 2 ^ 12 := Nat.pow_le_pow_right (by decide) (by omega)
  have h4 : 1 ≤ (2 : Nat) ^ (varOf n).toNat := Nat.one_le_two_pow
  have h5 : ((2 ^ (varOf n).toNat : Nat) : Int) = (2 : Int) ^ (varOf n).toNat := by simp
  omega
theorem varOf_no {n : Int} (h : ∀ k : Nat, k ≤ 12 → (2 : Int) ^ k ≠ n) : varOf n = -1 := by
  apply Classical.byContradiction
  intro hc
  have h1 := varOf_bd n
  have h2 := varOf_pow (n := n) (by omega)
  exact h (varOf n).toNat (by omega) h2.symm
theorem varOf_out {n : Int} (h : n < 1 ∨ 4096 < n) : varOf n = -1 := by
  have h1 := varOf_bd n
  apply Classical.byContradiction
  intro hc
  have := varOf_le (n := n) (by omega)
  omega
theorem var_two {n : Int} (h1 : 1 ≤ n) (h2 : n ≤ 4096) : twoB n = decide (0 ≤ varOf n) := by
  by_cases h : 0 ≤ varOf n
  · rw [decide_eq_true h]
    have hp := varOf_pow h
    have hb := varOf_bd n
    simp only [twoB, twoUp, List.any_eq_true, List.mem_range, beq_iff_eq]
    exact ⟨(varOf n).toNat, by omega, hp.symm⟩
  · rw [decide_eq_false h, Bool.eq_false_iff]
    intro hc
    simp only [twoB, twoUp, List.any_eq_true, List.mem_range, beq_iff_eq] at hc
    obtain ⟨k, hk, rfl⟩ := hc
    have hk6 : k ≤ 12 := by
      apply Classical.byContradiction
      intro hc2
      have h3 : (2 : Nat) ^ 13 ≤ 2 ^ k := Nat.pow_le_pow_right (by decide) (by omega)
      have h4 : ((2 ^ k : Nat) : Int) = (2 : Int) ^ k := by simp
      omega
    rw [varOf_of k hk6] at h; omega
theorem fixL_step (p : Int) (t : List Int) (r : Int) {i : Nat} (h : i < t.length / 2) : (((fixL p t r).take (i + 1)).map (Value.int .i64)) = ((fixL p t r).take i).map (Value.int .i64) ++ [.int .i64 (fadd p (fmul p (nth t i) (fsub p 1 r)) (fmul p (nth t (i + t.length / 2)) r))] := by
  have hl : i < (fixL p t r).length := by rw [fixL_length]; exact h
  rw [List.take_succ_eq_append_getElem hl]
  simp [fixL]
end Go.Att
namespace Go.Proofs.YtfepefbehgbjpaaGreatDoor
open Go.RowKit Go.Att

set_option maxRecDepth 100000 in
set_option maxHeartbeats 2000000 in
theorem svars_any (v : Value) (l : List Int) (w : World) (hv : Ints w v l) : Calls Tryz.prog 64 #[v] w fun e w' => e = .returned (.int .i64 (varOf l.length)) ∧ w = w' := by
  have hll := hv.run_len (P := Tryz.prog) slInts
  have hlen := hv.len
  clear hv
  generalize hn : (l.length : Int) = n at *
  have h0 : 0 ≤ n := by omega
  have hn9 : n ≤ 9223372036854775807 := by omega
  clear hn hlen
  by_cases h1 : n < 1
  · obtain rfl : n = 0 := by omega
    rw [varOf_out (.inl h1)]
    go_enter Tryz.func64, Tryz.ntmps64
    go_wp2_with fail
    go_ret
    exact ⟨rfl, rfl⟩
  · have hz : (n == 0) = false := by rw [beq_eq_false_iff_ne]; omega
    by_cases h2 : 4096 < n
    · rw [varOf_out (.inr h2)]
      cases hm : (bits BinOp.and IntKind.i64 n (n - 1) != 0)
      all_goals
        go_enter Tryz.func64, Tryz.ntmps64
        go_wp2_with fail
        go_ret
        exact ⟨rfl, rfl⟩
    · by_cases h : 0 ≤ varOf n
      · have hb := varOf_bd n
        have hp := varOf_pow h
        obtain ⟨k, hk⟩ := Int.eq_ofNat_of_zero_le h
        rw [hk, Int.toNat_natCast] at hp
        have hk6 : k ≤ 12 := by omega
        clear h hb hk h0 hz
        subst hp
        rw [varOf_of k hk6]
        have := le12 hk6
        clear h1 h2 hk6 hn9
        rcases this with rfl | rfl | rfl | rfl | rfl | rfl | rfl | rfl | rfl | rfl | rfl | rfl | rfl
        all_goals
          go_enter Tryz.func64, Tryz.ntmps64
          go_wp2
          go_ret
          exact ⟨by kernel_rfl, rfl⟩
      · have hm : (bits BinOp.and IntKind.i64 n (n - 1) != 0) = true := by rw [twoB_iff (by omega) (by omega), var_two (by omega) (by omega), decide_eq_false h]; rfl
        have hw : varOf n = -1 := by have := varOf_bd n; omega
        rw [hw]
        clear h hw
        go_enter Tryz.func64, Tryz.ntmps64
        go_wp2_with fail
        go_ret
        exact ⟨rfl, rfl⟩

section
variable {w : World} {f : Value} {p g : Int} {fs : List Int}
set_option maxRecDepth 100000 in
set_option maxHeartbeats 4000000 in
theorem sfixed_any (hf : Fld w f p g fs) (v : Value) (t : List Int) (r : Int) (hv : Ints w v t) (hl : t.length ≤ 1048576) :
    Calls Tryz.prog 65 #[f, v, .int .i64 r] w (Gives w fun u w' => Ints w' u (fixL p t r)) := by
  have hlv := hv.run_len (P := Tryz.prog) slInts
  have HV := Lib.hid hv; have C := Lib.hid hf; clear hv hf
  go_enter Tryz.func65, Tryz.ntmps65
  go_wp2_with (refine wpList_mk0 rfl _ _ 22 rfl slInts (Ext.refl w) rfl rfl (by omega) (by omega) (by omega) ?_; intro v4 w5 HO HX _)
  rw [show ((t.length : Int) / 2) = ((t.length / 2 : Nat) : Int) by omega]
  go_loopw [8, 9, 16] (fun x8 _ x16 wr => ∃ i : Nat, i ≤ t.length / 2 ∧ x16 = .int .i64 i ∧ wr.ownsRow w.heap.size 3 1 x8 i (((fixL p t r).take i).map (Value.int .i64)) ∧ Ext w wr) (fun _ _ x16 _ => t.length / 2 - (intOf x16).toNat)
  case atStart => exact ⟨0, Nat.zero_le _, rfl, HO, HX⟩
  case round =>
    obtain ⟨i, hi, rfl, HO1, HX1⟩ := hrel
    by_cases hlt : i < t.length / 2
    · have hix := HV.out.run_index (P := Tryz.prog) slInts i (by omega)
      have hc := (HV.out.ext HX1).cell i (by omega)
      have hix2 := HV.out.run_index (P := Tryz.prog) slInts (i + t.length / 2) (by omega)
      have hc2 := (HV.out.ext HX1).cell (i + t.length / 2) (by omega)
      have S := Lib.hid (fixL_step p t r hlt)
      have HF := Lib.hid (C.out.ext HX1)
      rw [show ((i + t.length / 2 : Nat) : Int) = (i : Int) + (t.length / 2 : Nat) by omega] at hix2
      generalize hN : t.length / 2 = N at *
      go_wp2_with fail
      refine wp_region_move_quiet_tail 21 _ (by kernel_rfl) rfl rfl (by kernel_rfl) ?_
      simp only [List.take_succ_cons, List.take_zero, List.drop_succ_cons, List.drop_zero]
      repeat (go_big_quiet_step (first | (go_at_call 79; exact mul_q HF.out _ _ _) | (go_at_call 78; exact add_q HF.out _ _ _) | (go_at_call 82; exact sub_q HF.out _ _ _)))
      refine wpQuiet_nil ?_
      rintro _ ⟨nq, rfl⟩
      have HO4 := own_ext HO1 (Ext.drewN wr nq)
      have HX4 := HX1.trans (Ext.drewN wr nq)
      clear hix hc hix2 hc2
      go_wp2_with (at_builtin; refine wpList_appNw rfl _ _ 22 rfl slInts rfl HX4.size HO4 rfl _ rfl (by intro u hu; simp at hu; subst hu; rfl) rfl (by omega) (by omega) ?_; intro v' w7 HO7 HG7 HW7)
      refine NoPan.normal ?_
      go_wp2_with fail
      go_roundw
      case rel => exact ⟨i + 1, by omega, by go_num, by rw [S.out]; exact HO7, Ext.own_grown HX4 HO4 HG7⟩
      case measure => simp [intOf]; omega
    · obtain rfl : i = t.length / 2 := by omega
      have HE := Lib.hid (Ints.of_own HO1)
      have S := Lib.hid (show (fixL p t r).take (t.length / 2) = fixL p t r from List.take_of_length_le (by rw [fixL_length]; omega))
      go_wp2_with fail
      go_ret
      exact .mk _ rfl HX1 (by rw [← S.out]; exact HE.out)

end
end Go.Proofs.YtfepefbehgbjpaaGreatDoor
end
section
namespace Go.Att
open Go.RowKit
end Go.Att
namespace Go.Proofs.YtfepefbehgbjpaaGreatDoor
open Go.RowKit Go.Att

set_option maxHeartbeats 1000000 in
theorem rvars_any (v : Value) (l : List Int) (w : World) (hv : Ints w v l) : Calls Tryz.prog 8 #[v] w fun e w' => e = .returned (.int .i64 (varOf l.length)) ∧ w = w' := by
  have hll := hv.run_len (P := Tryz.prog) slInts
  clear hv
  generalize (l.length : Int) = n at *
  go_enter Tryz.func8, Tryz.ntmps8
  go_wp2
  go_loop [3, 4] (fun x3 x4 => ∃ k : Nat, k ≤ 13 ∧ x3 = .int .i64 ((2 : Int) ^ k) ∧ x4 = .int .i64 k ∧ Hid (∀ j : Nat, j < k → (2 : Int) ^ j ≠ n)) (fun _ x4 => 13 - (intOf x4).toNat)
  case atStart => exact ⟨0, by omega, rfl, rfl, Lib.hid (fun j hj => by omega)⟩
  case round =>
    obtain ⟨k, hk, rfl, rfl, H⟩ := hrel
    by_cases hk7 : k ≤ 12
    · have hp : (2 : Int) ^ (k + 1) = 2 ^ k * 2 := Int.pow_succ _ _
      have hb : (1 : Int) ≤ 2 ^ k ∧ (2 : Int) ^ k ≤ 4096 := by
        rcases le12 hk7 with rfl | rfl | rfl | rfl | rfl | rfl | rfl | rfl | rfl | rfl | rfl | rfl | rfl <;> decide
      have hw := varOf_of k hk7
      have HW := Lib.hid hw; have HP := Lib.hid hp; clear hw hp
      by_cases he : (2 : Int) ^ k = n
      · have HE := Lib.hid he
        have hbb : (n == (2 : Int) ^ k) = true := by rw [beq_iff_eq]; exact he.symm
        clear he
        go_wp2
        go_ret
        exact ⟨ret_int (by rw [← HE.out, HW.out]), rfl⟩
      · have HE := Lib.hid he
        have hbb : (n == (2 : Int) ^ k) = false := by rw [beq_eq_false_iff_ne]; exact fun h => he h.symm
        clear he
        generalize hN : (2 : Int) ^ k = N at hb hbb
        go_wp2
        go_round
        case rel => exact ⟨k + 1, by omega, by rw [HP.out, hN], by go_num, Lib.hid (fun j hj => by
          rcases Nat.lt_or_eq_of_le (show j ≤ k by omega) with h | rfl
          · exact H.out j h
          · exact HE.out)⟩
        case measure => simp [intOf]; omega
    · obtain rfl : k = 13 := by omega
      have HW := Lib.hid (varOf_no (n := n) (fun k hk => H.out k (by omega)))
      go_wp2
      go_ret
      exact ⟨ret_int HW.out.symm, rfl⟩
end Go.Proofs.YtfepefbehgbjpaaGreatDoor
end
section
namespace Go.Att
open Go.RowKit
theorem fixAll_step (p : Int) (T s : List Int) {k : Nat} (h : k < s.length) : fixAll p T (s.take (k + 1)) = fixL p (fixAll p T (s.take k)) (nth s k) := by
  rw [List.take_succ_eq_append_getElem h, fixAll_snoc]
  congr 1
  simp [nth, h]
end Go.Att
namespace Go.Proofs.YtfepefbehgbjpaaGreatDoor
open Go.RowKit Go.Att

end Go.Proofs.YtfepefbehgbjpaaGreatDoor
end
section
namespace Go.Att
open Go.RowKit
end Go.Att
namespace Go.Proofs.YtfepefbehgbjpaaGreatDoor
open Go.RowKit Go.Att

end Go.Proofs.YtfepefbehgbjpaaGreatDoor
end
section
namespace Go.Att
open Go.RowKit
end Go.Att
namespace Go.Proofs.YtfepefbehgbjpaaGreatDoor
open Go.RowKit Go.Att

end Go.Proofs.YtfepefbehgbjpaaGreatDoor
end
section
namespace Go.Att
open Go.RowKit
theorem ext_end (p : Int) (t at_ : List Int) (k : Nat) (hl : t.length = 2 ^ k) (hla : at_.length = k) : fof p (nth (fixAll p t at_) 0) = ext t at_ % p := by
  have := half_is p t at_ k 0 (by omega) hl
  rw [hla, Nat.sub_self] at this
  simpa [bitsL, fof] using this
theorem own_grown {w w' : World} {B e sz n : Nat} {v : Value} {xs : List Value} {r : Option Nat} (h : w.ownsRow B e sz v n xs) (hg : w.grownBy w' r) (hne : ∀ k, v.ownBlock = some k → some k ≠ r) : w'.ownsRow B e sz v n xs := by
  refine ⟨h.1, ?_⟩
  rcases h.2 with h2 | ⟨g, cap, cur, hv, hb, hgt, hr⟩
  · exact .inl h2
  · exact .inr ⟨g, cap, cur, hv, hb, by rw [hg.block g (Array.getElem?_eq_some_iff.1 hgt).1 (hne g (by rw [hv]; rfl))]; exact hgt, hr⟩
end Go.Att
namespace Go.Att
open Go.RowKit
end Go.Att
namespace Go.Proofs.YtfepefbehgbjpaaGreatDoor
open Go.RowKit Go.Att
section
variable {w : World} {f : Value} {p g : Int} {fs : List Int}
set_option maxRecDepth 100000 in
set_option maxHeartbeats 1000000 in
theorem sExtend_ok (hf : Fld w f p g fs) (vt va : Value) (t at_ : List Int) (ht : Ints w vt t) (ha : Ints w va at_) (k : Nat) (hk : k ≤ 12) (hl : t.length = 2 ^ k) (hla : at_.length = k) :
    Calls Tryz.prog 17 #[f, vt, va] w fun e w' => e = .returned (.tuple #[.int .i64 (ext t at_ % p), .nilIface]) ∧ Ext w w' := by
  have e : varOf t.length = k := by rw [hl, Int.natCast_pow]; exact varOf_of k hk
  have hlen : (2 : Nat) ^ k ≤ 2 ^ 12 := Nat.pow_le_pow_right (by decide) hk
  have h12 : (2 : Nat) ^ 12 = 4096 := by decide
  have HP2 := Lib.hid (show (2 : Nat) ^ k ≤ 1048576 by omega)
  have hlv := ha.run_len (P := Tryz.prog) slInts
  have HT := Lib.hid ht; have HA := Lib.hid ha; have C := Lib.hid hf; have E := Lib.hid e; have HL := Lib.hid hl; have EE := Lib.hid (ext_end p t at_ k hl hla)
  have b1 : ((at_.length : Int) != (k : Int)) = false := by rw [bne_eq_false_iff_eq]; omega
  clear ht ha hf hl e hlen h12
  go_enter Tryz.func17, Tryz.ntmps17
  go_wp2_with (go_at_call 64; refine (svars_any _ _ _ HT.out).mono ?_; rw [E.out]; rintro e w' ⟨rfl, rfl⟩)
  go_loopw [1, 10, 24] (fun x1 _ x24 wr => ∃ j : Nat, j ≤ at_.length ∧ x24 = .int .i64 j ∧ Ints wr x1 (fixAll p t (at_.take j)) ∧ Ext w wr) (fun _ _ x24 _ => at_.length - (intOf x24).toNat)
  case atStart => exact ⟨0, Nat.zero_le _, rfl, HT.out, Ext.refl _⟩
  case round =>
    obtain ⟨j, hj, rfl, hT, hx⟩ := hrel
    have HTJ := Lib.hid hT; clear hT
    by_cases hjl : j < at_.length
    · have hix := HA.out.run_index (P := Tryz.prog) slInts j hjl
      have hc := (HA.out.ext hx).cell j hjl
      have ST := Lib.hid (fixAll_step p t at_ hjl)
      have HLN := Lib.hid (show (fixAll p t (at_.take j)).length ≤ 1048576 by
        rw [fixAll_length p t (at_.take j) (k - j) (by rw [HL.out, List.length_take]; congr 1; omega)]
        exact Nat.le_trans (Nat.pow_le_pow_right (by decide) (Nat.sub_le k j)) HP2.out)
      go_wp2_with (go_at_call 65; refine (sfixed_any (C.out.ext hx) _ _ _ HTJ.out HLN.out).mono ?_; rintro e w3 ⟨v, rfl, hx3, hu⟩; have HU := Lib.hid hu; clear hu)
      go_roundw
      case rel => exact ⟨j + 1, by omega, by go_num, by rw [ST.out]; exact HU.out, hx.trans hx3⟩
      case measure => simp [intOf]; omega
    · obtain rfl : j = at_.length := by omega
      rw [List.take_length] at HTJ
      have h1 : 0 < (fixAll p t at_).length := by rw [fixAll_length p t at_ 0 (by rw [HL.out, hla]; rfl)]; decide
      have hix := HTJ.out.run_index (P := Tryz.prog) slInts 0 h1
      have hc := HTJ.out.cell 0 h1
      rw [show ((0 : Nat) : Int) = 0 from rfl] at hix
      clear h1
      go_wp2_with (go_at_call 66; refine (of_any (C.out.ext hx) _).mono ?_; rw [EE.out]; rintro e w4 hrd; obtain ⟨rfl, hx4⟩ := hrd.ext; clear hrd)
      go_ret2
      exact ⟨rfl, hx.trans hx4⟩
end
end Go.Proofs.YtfepefbehgbjpaaGreatDoor
end
