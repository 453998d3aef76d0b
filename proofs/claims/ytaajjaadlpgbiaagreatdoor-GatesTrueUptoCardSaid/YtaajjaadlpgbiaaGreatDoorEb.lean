/- What a table is at a point, the document's side: contracts. -/
import Derived.Test.YtaajjaadlpgbiaaGreatDoorLa
import Derived.Test.YtaajjaadlpgbiaaGreatDoorZx1
import Derived.Test.YtaajjaadlpgbiaaGreatDoorVc
/-! What a table is at a point, the document's side: contracts. -/
namespace Go.Att
open Go.RowKit
theorem wD_step1 (p : Int) (l : List Int) (i m j : Nat) (h : j + m + 1 = l.length) (hb : i / 2 ^ m % 2 = 1) : fmul p (wD l i m % p) (fof p (nth l j)) = wD l i (m + 1) % p := by
  have e : l.length - 1 - m = j := by omega
  have d : dig l.length i j = 1 := by unfold dig; rw [show l.length - 1 - j = m by omega]; exact hb
  simp only [wD, e, wf, d, if_true, fmul, fof, em_l, em_r]
theorem wD_step0 (p : Int) (l : List Int) (i m j : Nat) (h : j + m + 1 = l.length) (hb : i / 2 ^ m % 2 = 0) : fmul p (wD l i m % p) (fsub p 1 (fof p (nth l j))) = wD l i (m + 1) % p := by
  have e : l.length - 1 - m = j := by omega
  have d : dig l.length i j ≠ 1 := by unfold dig; rw [show l.length - 1 - j = m by omega]; omega
  simp only [wD, e, wf, if_neg d, fmul, fsub, fof, es_r, em_l, em_r]
theorem exS_step (p : Int) (t l : List Int) (i : Nat) : (exS t l i % p + fmul p (nth t i) (wgt l i % p)) % p = exS t l (i + 1) % p := by
  simp only [exS, fmul, ea_l, ea_r, em_r]
theorem unit_cells (n i : Nat) (hi : i < n) : (madeCells (Value.cells (.int .i64 0)) (n * 1)).toList.take (i * 1) ++ (Value.cells (.int .i64 1)).toList ++ (madeCells (Value.cells (.int .i64 0)) (n * 1)).toList.drop (i * 1 + 1) = (unitT n i).map (Value.int .i64) := by
  have e : (madeCells (Value.cells (.int .i64 0)) (n * 1)).toList = List.replicate n (Value.int .i64 0) := by
    simp [madeCells, Value.cells, Nat.mod_one, List.map_const']
  rw [e]
  apply List.ext_getElem?
  intro j
  simp only [unitT, List.map_set, List.map_replicate, Nat.mul_one, Value.cells]
  rw [List.getElem?_set]
  by_cases h1 : j < i
  · rw [List.append_assoc, List.getElem?_append_left (by simp; omega), List.getElem?_take, if_pos h1]
    simp [show ¬ i = j by omega]
  · by_cases h2 : j = i
    · subst h2
      rw [List.append_assoc, List.getElem?_append_right (by simp; omega)]
      simp [hi, show min j n = j by omega]
    · rw [List.getElem?_append_right (by simp; omega)]
      simp only [List.length_append, List.length_take, List.length_replicate, List.getElem?_drop]
      rw [if_neg (show ¬ i = j by omega)]
      congr 1
      simp; omega
end Go.Att
namespace Go.Proofs.YtaajjaadlpgbiaaGreatDoor
open Go.RowKit Go.Att

set_option maxRecDepth 100000 in
set_option maxHeartbeats 1000000 in
theorem rweight_any (p : Int) (v : Value) (l : List Int) (i : Nat) (w : World) (hp : 2 ≤ p) (hp2 : p ≤ 2147483647) (hv : Ints w v l) (hl : l.length ≤ 60) (hi : i ≤ 9223372036854775807) :
    Calls Tryz.prog 107 #[.int .i64 p, .int .i64 l.length, .int .i64 i, v] w fun e w' => e = .returned (.int .i64 (wgt l i % p)) ∧ w = w' := by
  have HV := Lib.hid hv; clear hv
  have h1p : (1 : Int) % p = 1 := Int.emod_eq_of_lt (by omega) (by omega)
  go_enter Tryz.func107, Tryz.ntmps107
  go_wp2_with fail
  go_loop [9, 10, 11, 12] (fun x9 x10 x11 _ => ∃ (m : Nat) (j : Int), m ≤ l.length ∧ j + m + 1 = l.length ∧ x11 = .int .i64 j ∧ x10 = .int .i64 ((2 : Int) ^ m) ∧ x9 = .int .i64 (wD l i m % p)) (fun _ _ x11 _ => (intOf x11 + 1).toNat)
  case atStart => exact ⟨0, (l.length : Int) - 1, by omega, by omega, rfl, rfl, by rw [wD, h1p]⟩
  case round =>
    obtain ⟨m, j, hm, hj, rfl, rfl, rfl⟩ := hrel
    by_cases hj0 : 0 ≤ j
    · obtain ⟨q, rfl⟩ := Int.eq_ofNat_of_zero_le hj0
      have hq : q < l.length := by omega
      have hix := HV.out.run_index (P := Tryz.prog) slInts q hq
      have hcell := HV.out.cell q hq
      have hpw : (2 : Int) ^ (m + 1) = 2 ^ m * 2 := Int.pow_succ _ _
      have hpc : ((2 ^ m : Nat) : Int) = (2 : Int) ^ m := by simp
      have hpb : (2 : Nat) ^ m ≤ 2 ^ 60 := Nat.pow_le_pow_right (by decide) (by omega)
      have hp1 : 1 ≤ (2 : Nat) ^ m := Nat.one_le_two_pow
      have hdv : ((i : Int) / ((2 ^ m : Nat) : Int)) % 2 = ((i / 2 ^ m % 2 : Nat) : Int) := by simp
      have hB : (1 : Int) ≤ (2 : Int) ^ m ∧ (2 : Int) ^ m ≤ 1152921504606846976 := by omega
      rw [hpc] at hdv
      have HPW := Lib.hid hpw; clear hpw hpc hpb hp1
      rcases Nat.mod_two_eq_zero_or_one (i / 2 ^ m) with hb | hb
      · have S := Lib.hid (wD_step0 p l i m q (by omega) hb)
        rw [hb] at hdv
        have hbb : ((i : Int) / (2 : Int) ^ m % 2 == 0) = true := by rw [beq_iff_eq]; exact hdv
        clear hb hdv
        generalize hN : (2 : Int) ^ m = N at hB hbb
        have HN := Lib.hid hN; clear hN
        have hd0 : 0 ≤ (i : Int) / N := Int.ediv_nonneg (by omega) (by omega)
        have hd1 : (i : Int) / N ≤ i := Int.ediv_le_self _ (by omega)
        go_wp2_with (first | (go_at_call 36; refine (rof_any _ _ _ hp hp2).mono ?_; rintro e w' ⟨rfl, rfl⟩) | (go_at_call 112; refine (rsub_any _ _ _ _ hp hp2).mono ?_; rintro e w' ⟨rfl, rfl⟩) | (go_at_call 33; refine (rmul_any _ _ _ _ hp hp2).mono ?_; rw [S.out]; rintro e w' ⟨rfl, rfl⟩))
        go_round
        case rel => exact ⟨m + 1, (q : Int) - 1, by omega, by omega, rfl, by rw [HPW.out, HN.out], rfl⟩
        case measure => simp [intOf]
      · have S := Lib.hid (wD_step1 p l i m q (by omega) hb)
        rw [hb] at hdv
        have hbb : ((i : Int) / (2 : Int) ^ m % 2 == 0) = false := by rw [beq_eq_false_iff_ne]; omega
        clear hb hdv
        generalize hN : (2 : Int) ^ m = N at hB hbb
        have HN := Lib.hid hN; clear hN
        have hd0 : 0 ≤ (i : Int) / N := Int.ediv_nonneg (by omega) (by omega)
        have hd1 : (i : Int) / N ≤ i := Int.ediv_le_self _ (by omega)
        go_wp2_with (first | (go_at_call 36; refine (rof_any _ _ _ hp hp2).mono ?_; rintro e w' ⟨rfl, rfl⟩) | (go_at_call 33; refine (rmul_any _ _ _ _ hp hp2).mono ?_; rw [S.out]; rintro e w' ⟨rfl, rfl⟩))
        go_round
        case rel => exact ⟨m + 1, (q : Int) - 1, by omega, by omega, rfl, by rw [HPW.out, HN.out], rfl⟩
        case measure => simp [intOf]
    · obtain rfl : m = l.length := by omega
      go_wp2_with fail
      go_ret
      exact ⟨ret_int (by rw [wD_all]), rfl⟩

set_option maxRecDepth 100000 in
set_option maxHeartbeats 1000000 in
theorem rextend_any (p : Int) (vt v : Value) (t l : List Int) (w : World) (hp : 2 ≤ p) (hp2 : p ≤ 2147483647) (ht : Ints w vt t) (hv : Ints w v l) (hl : l.length ≤ 60) :
    Calls Tryz.prog 52 #[.int .i64 p, vt, v] w fun e w' => e = .returned (.int .i64 (ext t l % p)) ∧ w = w' := by
  have hlt := ht.run_len (P := Tryz.prog) slInts
  have hlv := hv.run_len (P := Tryz.prog) slInts
  have hlen := ht.len
  have HT := Lib.hid ht; have HV := Lib.hid hv; clear ht hv
  go_enter Tryz.func52, Tryz.ntmps52
  go_wp2_with fail
  go_loop [7, 8, 9, 10] (fun x7 x8 _ _ => ∃ i : Nat, i ≤ t.length ∧ x8 = .int .i64 i ∧ x7 = .int .i64 (exS t l i % p)) (fun _ x8 _ _ => t.length - (intOf x8).toNat)
  case atStart => exact ⟨0, Nat.zero_le _, rfl, by simp [exS]⟩
  case round =>
    obtain ⟨i, hi, rfl, rfl⟩ := hrel
    by_cases hit : i < t.length
    · have hix := HT.out.run_index (P := Tryz.prog) slInts i hit
      have hcell := HT.out.cell i hit
      have S := Lib.hid (exS_step p t l i)
      have b1 := mod_bd hp (exS t l i)
      have b2 := fmul_bd hp (nth t i) (wgt l i % p)
      go_wp2_with (first | (go_at_call 107; refine (rweight_any p _ l i _ hp hp2 HV.out hl (by omega)).mono ?_; rintro e w' ⟨rfl, rfl⟩) | (go_at_call 33; refine (rmul_any _ _ _ _ hp hp2).mono ?_; rintro e w' ⟨rfl, rfl⟩))
      go_round
      case rel => exact ⟨i + 1, by omega, by go_num, by rw [S.out]⟩
      case measure => simp [intOf]; omega
    · obtain rfl : i = t.length := by omega
      go_wp2_with fail
      go_ret
      exact ⟨rfl, rfl⟩
end Go.Proofs.YtaajjaadlpgbiaaGreatDoor
/-! What a table that is 1 at a place is at a point, both sides: contracts. -/
namespace Go.Att
theorem wU_step1 (p : Int) (l : List Int) (i k : Nat) (h : i / 2 ^ (l.length - 1 - k) % 2 = 1) : fmul p (wU l i k % p) (nth l k) = wU l i (k + 1) % p := by
  have d : dig l.length i k = 1 := h
  simp only [wU, wf, d, if_true, fmul, em_l]
theorem wU_step0 (p : Int) (l : List Int) (i k : Nat) (h : i / 2 ^ (l.length - 1 - k) % 2 = 0) : fmul p (wU l i k % p) (fsub p 1 (nth l k)) = wU l i (k + 1) % p := by
  have d : dig l.length i k ≠ 1 := by unfold dig; omega
  simp only [wU, wf, if_neg d, fmul, fsub, em_l, em_r]
end Go.Att
namespace Go.Proofs.YtaajjaadlpgbiaaGreatDoor
open Go.RowKit Go.Att

set_option maxHeartbeats 1000000 in
theorem rtwo_any (n : Nat) (w : World) (hn : n ≤ 60) : Calls Tryz.prog 41 #[.int .i64 n] w fun e w' => e = .returned (.int .i64 ((2 : Int) ^ n)) ∧ w = w' := by
  go_enter Tryz.func41, Tryz.ntmps41
  go_wp2
  go_loop [3, 4] (fun x3 x4 => ∃ k : Nat, k ≤ n ∧ x4 = .int .i64 k ∧ x3 = .int .i64 ((2 : Int) ^ k)) (fun _ x4 => n - (intOf x4).toNat)
  case atStart => exact ⟨0, Nat.zero_le _, rfl, rfl⟩
  case round =>
    obtain ⟨k, hk, rfl, rfl⟩ := hrel
    by_cases hkn : k < n
    · have hpw : (2 : Int) ^ (k + 1) = 2 ^ k * 2 := Int.pow_succ _ _
      have hpc : ((2 ^ k : Nat) : Int) = (2 : Int) ^ k := by simp
      have hpb : (2 : Nat) ^ k ≤ 2 ^ 60 := Nat.pow_le_pow_right (by decide) (by omega)
      have hp1 : 1 ≤ (2 : Nat) ^ k := Nat.one_le_two_pow
      have hB : (1 : Int) ≤ (2 : Int) ^ k ∧ (2 : Int) ^ k ≤ 1152921504606846976 := by omega
      have HPW := Lib.hid hpw; clear hpw hpc hpb hp1
      generalize hN : (2 : Int) ^ k = N at hB
      have HN := Lib.hid hN; clear hN
      go_wp2
      go_round
      case rel => exact ⟨k + 1, by omega, by go_num, by rw [HPW.out, HN.out]⟩
      case measure => simp [intOf]; omega
    · obtain rfl : k = n := by omega
      go_wp2
      go_ret
      exact ⟨rfl, rfl⟩

set_option maxRecDepth 100000 in
set_option maxHeartbeats 1000000 in
theorem runit_any (p : Int) (v : Value) (l : List Int) (i : Nat) (w : World) (hp : 2 ≤ p) (hp2 : p ≤ 2147483647) (hv : Ints w v l) (hl : l.length ≤ 30) (hi : i < 2 ^ l.length) :
    Calls Tryz.prog 111 #[.int .i64 p, .int .i64 i, v] w fun e w' => e = .returned (.int .i64 (wgt l i % p)) ∧ Ext w w' := by
  have hlv := hv.run_len (P := Tryz.prog) slInts
  have HV := Lib.hid hv; clear hv
  have hpc : (2 : Int) ^ l.length = ((2 ^ l.length : Nat) : Int) := by simp
  have hpb : (2 : Nat) ^ l.length ≤ 2 ^ 30 := Nat.pow_le_pow_right (by decide) hl
  have EU := Lib.hid (ext_unit (2 ^ l.length) i l hi)
  have hpd : 2 ^ l.length ≤ 4294967296 := by omega
  generalize (2 : Nat) ^ l.length = N at *
  have HPC := Lib.hid hpc; clear hpc
  go_enter Tryz.func111, Tryz.ntmps111
  go_wp2_with (first | (go_at_call 41; refine (rtwo_any _ _ (by omega)).mono ?_; rw [HPC.out]; rintro e w' ⟨rfl, rfl⟩) | (refine wpList_mkn rfl _ _ 23 rfl slInts (Ext.refl w) rfl rfl (by omega) (by omega) (by omega) ?_; intro v1 w1 HO HX _; rw [Int.toNat_natCast] at HO; have hix := (Sl.of_own HO (by omega)).run_index (P := Tryz.prog) slInts i (by omega) (by omega); rw [Int.toNat_natCast] at hix) | (refine wpList_set rfl rfl _ _ 3 rfl slInts HO i hi rfl (.int .i64 1) rfl rfl (by intro u hu; simp [Value.cells] at hu; subst hu; rfl) ?_; intro w2 HO2 HG2; rw [unit_cells _ _ hi] at HO2; replace HX := Ext.own_grown HX HO HG2; clear HG2 hix) | (go_at_call 52; refine (rextend_any p _ _ (unitT N i) l _ hp hp2 (Ints.of_own HO2) (HV.out.ext HX) (by omega)).mono ?_; rw [EU.out]; rintro e w' ⟨rfl, rfl⟩))
  go_ret
  exact ⟨rfl, HX⟩

section
variable {w : World} {f : Value} {p g : Int} {fs : List Int}
set_option maxRecDepth 100000 in
set_option maxHeartbeats 1000000 in
theorem unit_any (hf : Fld w f p g fs) (v : Value) (l : List Int) (i : Nat) (hv : Ints w v l) (hl : l.length ≤ 30) (hi : i ≤ 9223372036854775807) :
    Calls Tryz.prog 138 #[f, .int .i64 i, v] w (Rd w (.int .i64 (wgt l i % p))) := by
  have hlv := hv.run_len (P := Tryz.prog) slInts
  have lo := hf.lo
  have h1p : (1 : Int) % p = 1 := Int.emod_eq_of_lt (by omega) (by omega)
  have HV := Lib.hid hv; have C := Lib.hid hf; clear hv hf
  go_enter Tryz.func138, Tryz.ntmps138
  go_wp2_with fail
  go_loopw [7, 8, 9, 12] (fun x7 _ _ x12 wr => ∃ k m : Nat, k ≤ l.length ∧ x12 = .int .i64 k ∧ x7 = .int .i64 (wU l i k % p) ∧ wr = w.drewN m) (fun _ _ _ x12 _ => l.length - (intOf x12).toNat)
  case atStart => exact ⟨0, 0, Nat.zero_le _, rfl, by rw [wU, h1p], rfl⟩
  case round =>
    obtain ⟨k, m, hk, rfl, rfl, rfl⟩ := hrel
    by_cases hkl : k < l.length
    · have hix := HV.out.run_index (P := Tryz.prog) slInts k hkl
      have hcell := HV.out.cell k hkl
      have hcs : ((i : Int) / 2 ^ (l.length - 1 - k)) = ((i / 2 ^ (l.length - 1 - k) : Nat) : Int) := by simp
      have hle : i / 2 ^ (l.length - 1 - k) ≤ i := Nat.div_le_self _ _
      have hand := i64_and_one (i / 2 ^ (l.length - 1 - k)) (by omega)
      rw [← hcs] at hand
      rcases Nat.mod_two_eq_zero_or_one (i / 2 ^ (l.length - 1 - k)) with hb | hb
      · have S := Lib.hid (wU_step0 p l i k hb)
        have hbb : (bits BinOp.and IntKind.i64 ((i : Int) / 2 ^ (l.length - 1 - k)) 1 == 1) = false := by rw [hand, hb]; rfl
        clear hcs hle hand hb
        go_wp2_with (first | (go_at_call 116; refine (sub_any (C.out.drewN _) _ _).mono ?_; rintro e w' ⟨rfl, m2, rfl⟩) | (go_at_call 71; refine (mul_any (C.out.drewN _) _ _).mono ?_; rw [S.out]; rintro e w' ⟨rfl, m3, rfl⟩))
        go_roundw
        case rel => exact ⟨k + 1, _, by omega, by go_num, rfl, rfl⟩
        case measure => simp [intOf]; omega
      · have S := Lib.hid (wU_step1 p l i k hb)
        have hbb : (bits BinOp.and IntKind.i64 ((i : Int) / 2 ^ (l.length - 1 - k)) 1 == 1) = true := by rw [hand, hb]; rfl
        clear hcs hle hand hb
        go_wp2_with (go_at_call 71; refine (mul_any (C.out.drewN _) _ _).mono ?_; rw [S.out]; rintro e w' ⟨rfl, m3, rfl⟩)
        go_roundw
        case rel => exact ⟨k + 1, _, by omega, by go_num, rfl, rfl⟩
        case measure => simp [intOf]; omega
    · obtain rfl : k = l.length := by omega
      go_wp2_with fail
      go_ret
      exact .more _ rfl
end
end Go.Proofs.YtaajjaadlpgbiaaGreatDoor
