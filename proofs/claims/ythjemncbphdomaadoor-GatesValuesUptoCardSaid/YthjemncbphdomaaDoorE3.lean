/- What a table that is 1 at a place is at a point, both sides: contracts. -/
import Derived.Test.YthjemncbphdomaaDoorE2
namespace Go.Att
theorem wU_step1 (p : Int) (l : List Int) (i k : Nat) (h : i / 2 ^ (l.length - 1 - k) % 2 = 1) : fmul p (wU l i k % p) (nth l k) = wU l i (k + 1) % p := by
  have d : dig l.length i k = 1 := h
  simp only [wU, wf, d, if_true, fmul, em_l]
theorem wU_step0 (p : Int) (l : List Int) (i k : Nat) (h : i / 2 ^ (l.length - 1 - k) % 2 = 0) : fmul p (wU l i k % p) (fsub p 1 (nth l k)) = wU l i (k + 1) % p := by
  have d : dig l.length i k ≠ 1 := by unfold dig; omega
  simp only [wU, wf, if_neg d, fmul, fsub, em_l, em_r]
end Go.Att
namespace Go.Proofs.YthjemncbphdomaaDoor
open Go.RowKit Go.Att

set_option maxHeartbeats 1000000 in
theorem rtwo_any (n : Nat) (w : World) (hn : n ≤ 60) : Calls Tryd.prog 159 #[.int .i64 n] w fun e w' => e = .returned (.int .i64 ((2 : Int) ^ n)) ∧ w = w' := by
  go_enter Tryd.func159, Tryd.ntmps159
  go_wp2
  go_loop [3, 4] (fun x3 x4 => ∃ k : Nat, k ≤ n ∧ x4 = .int .i64 k ∧ x3 = .int .i64 ((2 : Int) ^ k)) (fun _ x4 => n - (intOf x4).toNat)
  case atStart => exact ⟨0, Nat.zero_le _, rfl, rfl⟩
  case round =>
    obtain ⟨k, hk, rfl, rfl⟩ := hrel
    by_cases hkn : k < n
    · have hpw : (2 : Int) ^ (k + 1) = 2 ^ k * 2 := Int.pow_succ _ _
      have hpc : ((2 ^ k : Nat) : Int) = (2 : Int) ^ k := by simp
      have hpb : (2 : Nat) ^ k ≤ 2 ^ 60 := Nat.pow_le_pow_right (by decide) (by omega)
      have hp1 : 1 ≤ (2 : Nat) ^ k := Nat.one_le_two_pow
      have hB : (1 : Int) ≤ (2 : Int) ^ k ∧ (2 : Int) ^ k ≤ 1152921504606846976 := by omega
      have HPW := Lib.hid hpw; clear hpw hpc hpb hp1
      generalize hN : (2 : Int) ^ k = N at hB
      have HN := Lib.hid hN; clear hN
      go_wp2
      go_round
      case rel => exact ⟨k + 1, by omega, by go_num, by rw [HPW.out, HN.out]⟩
      case measure => simp [intOf]; omega
    · obtain rfl : k = n := by omega
      go_wp2
      go_ret
      exact ⟨rfl, rfl⟩

set_option maxRecDepth 100000 in
set_option maxHeartbeats 1000000 in
theorem runit_any (p : Int) (v : Value) (l : List Int) (i : Nat) (w : World) (hp : 2 ≤ p) (hp2 : p ≤ 2147483647) (hv : Ints w v l) (hl : l.length ≤ 30) (hi : i < 2 ^ l.length) :
    Calls Tryd.prog 113 #[.int .i64 p, .int .i64 i, v] w fun e w' => e = .returned (.int .i64 (wgt l i % p)) ∧ Ext w w' := by
  have hlv := hv.run_len (P := Tryd.prog) slInts
  have HV := Lib.hid hv; clear hv
  have hpc : (2 : Int) ^ l.length = ((2 ^ l.length : Nat) : Int) := by simp
  have hpb : (2 : Nat) ^ l.length ≤ 2 ^ 30 := Nat.pow_le_pow_right (by decide) hl
  have EU := Lib.hid (ext_unit (2 ^ l.length) i l hi)
  have hpd : 2 ^ l.length ≤ 4294967296 := by omega
  generalize (2 : Nat) ^ l.length = N at *
  have HPC := Lib.hid hpc; clear hpc
  go_enter Tryd.func113, Tryd.ntmps113
  go_wp2_with (first | (go_at_call 159; refine (rtwo_any _ _ (by omega)).mono ?_; rw [HPC.out]; rintro e w' ⟨rfl, rfl⟩) | (refine wpList_mkn rfl _ _ 23 rfl slInts (Ext.refl w) rfl rfl (by omega) (by omega) (by omega) ?_; intro v1 w1 HO HX _; rw [Int.toNat_natCast] at HO; have hix := (Sl.of_own HO (by omega)).run_index (P := Tryd.prog) slInts i (by omega) (by omega); rw [Int.toNat_natCast] at hix) | (refine wpList_set rfl rfl _ _ 3 rfl slInts HO i hi rfl (.int .i64 1) rfl rfl (by intro u hu; simp [Value.cells] at hu; subst hu; rfl) ?_; intro w2 HO2 HG2; rw [unit_cells _ _ hi] at HO2; replace HX := Ext.own_grown HX HO HG2; clear HG2 hix) | (go_at_call 116; refine (rextend_any p _ _ (unitT N i) l _ hp hp2 (Ints.of_own HO2) (HV.out.ext HX) (by omega)).mono ?_; rw [EU.out]; rintro e w' ⟨rfl, rfl⟩))
  go_ret
  exact ⟨rfl, HX⟩

section
variable {w : World} {f : Value} {p g : Int} {fs : List Int}
set_option maxRecDepth 100000 in
set_option maxHeartbeats 1000000 in
theorem unit_any (hf : Fld w f p g fs) (v : Value) (l : List Int) (i : Nat) (hv : Ints w v l) (hl : l.length ≤ 30) (hi : i ≤ 9223372036854775807) :
    Calls Tryd.prog 158 #[f, .int .i64 i, v] w (Rd w (.int .i64 (wgt l i % p))) := by
  have hlv := hv.run_len (P := Tryd.prog) slInts
  have lo := hf.lo
  have h1p : (1 : Int) % p = 1 := Int.emod_eq_of_lt (by omega) (by omega)
  have HV := Lib.hid hv; have C := Lib.hid hf; clear hv hf
  go_enter Tryd.func158, Tryd.ntmps158
  go_wp2_with fail
  go_loopw [7, 8, 9, 12] (fun x7 _ _ x12 wr => ∃ k m : Nat, k ≤ l.length ∧ x12 = .int .i64 k ∧ x7 = .int .i64 (wU l i k % p) ∧ wr = w.drewN m) (fun _ _ _ x12 _ => l.length - (intOf x12).toNat)
  case atStart => exact ⟨0, 0, Nat.zero_le _, rfl, by rw [wU, h1p], rfl⟩
  case round =>
    obtain ⟨k, m, hk, rfl, rfl, rfl⟩ := hrel
    by_cases hkl : k < l.length
    · have hix := HV.out.run_index (P := Tryd.prog) slInts k hkl
      have hcell := HV.out.cell k hkl
      have hcs : ((i : Int) / 2 ^ (l.length - 1 - k)) = ((i / 2 ^ (l.length - 1 - k) : Nat) : Int) := by simp
      have hle : i / 2 ^ (l.length - 1 - k) ≤ i := Nat.div_le_self _ _
      have hand := i64_and_one (i / 2 ^ (l.length - 1 - k)) (by omega)
      rw [← hcs] at hand
      rcases Nat.mod_two_eq_zero_or_one (i / 2 ^ (l.length - 1 - k)) with hb | hb
      · have S := Lib.hid (wU_step0 p l i k hb)
        have hbb : (bits BinOp.and IntKind.i64 ((i : Int) / 2 ^ (l.length - 1 - k)) 1 == 1) = false := by rw [hand, hb]; rfl
        clear hcs hle hand hb
        go_wp2_with (first | (go_at_call 61; refine (sub_any (C.out.drewN _) _ _).mono ?_; rintro e w' ⟨rfl, m2, rfl⟩) | (go_at_call 60; refine (mul_any (C.out.drewN _) _ _).mono ?_; rw [S.out]; rintro e w' ⟨rfl, m3, rfl⟩))
        go_roundw
        case rel => exact ⟨k + 1, _, by omega, by go_num, rfl, rfl⟩
        case measure => simp [intOf]; omega
      · have S := Lib.hid (wU_step1 p l i k hb)
        have hbb : (bits BinOp.and IntKind.i64 ((i : Int) / 2 ^ (l.length - 1 - k)) 1 == 1) = true := by rw [hand, hb]; rfl
        clear hcs hle hand hb
        go_wp2_with (go_at_call 60; refine (mul_any (C.out.drewN _) _ _).mono ?_; rw [S.out]; rintro e w' ⟨rfl, m3, rfl⟩)
        go_roundw
        case rel => exact ⟨k + 1, _, by omega, by go_num, rfl, rfl⟩
        case measure => simp [intOf]; omega
    · obtain rfl : k = l.length := by omega
      go_wp2_with fail
      go_ret
      exact .more _ rfl
end
end Go.Proofs.YthjemncbphdomaaDoor
