/- A layer's sum, the document's side. -/
import Derived.Test.YtnhbabiccfdhmaaGreatDoorZx13
namespace Go.Att
theorem ints_one (l : List Int) : ∀ u ∈ l.map (Value.int .i64), u.oneCell' = true := by
  intro u hu; obtain ⟨x, -, rfl⟩ := List.mem_map.1 hu; rfl
theorem nth_mix (xs at0 : List Int) (k : Nat) (h : k < xs.length) : nth (xs.take k ++ at0.drop k) k = nth at0 k := by
  have hl : (xs.take k).length = k := by simp; omega
  have := nth_app_r (xs.take k) (at0.drop k) 0
  rw [hl, Nat.add_zero, nth_drop, Nat.add_zero] at this
  exact this
theorem mix_length (xs at0 : List Int) (k : Nat) (h : k ≤ xs.length) (h2 : k ≤ at0.length) : (xs.take k ++ at0.drop k).length = at0.length := by
  simp; omega
end Go.Att
namespace Go.Proofs.YtnhbabiccfdhmaaGreatDoor
open Go.RowKit Go.Att

set_option maxRecDepth 100000 in
set_option maxHeartbeats 1000000 in
theorem rpart_any (p : Int) (vl vt vz vx : Value) (l : List Tri) (t z xs : List Int) (n : Nat) (w : World) (hp : 2 ≤ p) (hp2 : p ≤ 2147483647) (hl : Trs w vl l) (ht : Ints w vt t) (hz : Ints w vz z) (hx : Ints w vx xs)
    (hn : n ≤ 30) (lz : z.length ≤ 30) (hlz : l.length ≤ 2 ^ z.length) (hle : xs.length ≤ 2 * n) (hok : ∀ k, k < l.length → gateOk (2 ^ n) (nthT l k)) :
    Calls Tryz.prog 75 #[.int .i64 p, vl, vt, .int .i64 n, vz, vx] w fun e w' => e = .returned (.int .i64 (partS l n t z xs l.length % p)) ∧ Ext w w' := by
  have hll := hl.run_len (P := Tryz.prog) slGates
  have hlx := hx.run_len (P := Tryz.prog) slInts
  have hlen := hl.len
  have HLL := Lib.hid hl; have HTT := Lib.hid ht; have HZ := Lib.hid hz; have HX := Lib.hid hx; have HOK := Lib.hid hok
  clear hl ht hz hx hok
  go_enter Tryz.func75, Tryz.ntmps75
  go_wp2_with fail
  go_loopw [13, 14, 15, 16, 17, 18, 19, 20, 21, 22, 23] (fun x13 x14 _ _ _ _ _ _ _ _ _ wr => ∃ k : Nat, k ≤ l.length ∧ x14 = .int .i64 k ∧ x13 = .int .i64 (partS l n t z xs k % p) ∧ Ext w wr) (fun _ x14 _ _ _ _ _ _ _ _ _ _ => l.length - (intOf x14).toNat)
  case atStart => exact ⟨0, Nat.zero_le _, rfl, by simp [partS, sumN], Ext.refl _⟩
  case round =>
    obtain ⟨k, hk, rfl, rfl, hxr⟩ := hrel
    by_cases hkl : k < l.length
    · have hrow := HLL.out.ext hxr
      have hix := hrow.run_index (P := Tryz.prog) slGates k hkl
      have g0 := hrow.c0 k hkl
      have g1 := hrow.c1 k hkl
      have g2 := hrow.c2 k hkl
      have hok := HOK.out k hkl
      have HSM := Lib.hid (part_step_mul p l n t z xs k hle)
      have HSA := Lib.hid (part_step_add p l n t z xs k hle)
      clear hrow
      generalize hg : nthT l k = G at g0 g1 g2 hok HSM HSA
      obtain ⟨gk, ga, gb⟩ := G
      have HGG := Lib.hid hg; clear hg
      simp only [gateOk] at g0 g1 g2 hok
      obtain ⟨o1, o2, o3, o4, o5, o6⟩ := hok
      obtain ⟨a, rfl⟩ := Int.eq_ofNat_of_zero_le o3
      obtain ⟨b, rfl⟩ := Int.eq_ofNat_of_zero_le o5
      have hpn : (2 : Nat) ^ n ≤ 2 ^ 30 := Nat.pow_le_pow_right (by decide) hn
      have hp30 : (2 : Nat) ^ 30 = 1073741824 := by decide
      have ha : a < 2 ^ n := by exact_mod_cast o4
      have hb : b < 2 ^ n := by exact_mod_cast o6
      have HA : a ≤ 1073741824 := by omega
      have HB : b ≤ 1073741824 := by omega
      have HKZ := Lib.hid (show k < 2 ^ z.length by omega)
      simp only [Int.toNat_natCast] at HSM HSA
      clear o1 o2 o3 o4 o5 o6 hpn hp30 ha hb
      go_wp2_with fail
      refine (rbits_any a n _ (by omega) (by omega)).mono ?_
      rintro e w2 ⟨va, rfl, hx2, hva⟩
      have HVA := Lib.hid hva; clear hva
      replace g2 := hx2.cell g2
      replace g0 := hx2.cell g0
      go_wp2_with fail
      refine (rbits_any b n _ (by omega) (by omega)).mono ?_
      rintro e w3 ⟨vb, rfl, hx3, hvb⟩
      have HVB := Lib.hid hvb; clear hvb
      replace HVA := Lib.hid (HVA.out.ext hx3)
      replace g0 := hx3.cell g0
      replace hx3 := hxr.trans (hx2.trans hx3)
      clear g1 g2 hx2
      have hla : (bitsL n a).length = n := bitsL_length n a
      have hlb : (bitsL n b).length = n := bitsL_length n b
      go_wp2_with (first | (at_builtin; refine wpList_appSl rfl _ _ 23 rfl slInts rfl (Ext.alloc w3 _) (World.ownsRow_made w3 #[] 0 (Nat.le_refl _) (Nat.zero_le _) rfl) rfl (HVA.out.ext (Ext.alloc w3 _)) (ints_one _) rfl (by omega) (by omega) ?_; intro v4 w4 HO4 HX4 _; simp only [Nat.zero_add, List.nil_append] at HO4) | (at_builtin; refine wpList_appSl rfl _ _ 23 rfl slInts rfl HX4 HO4 rfl (HVB.out.ext HX4) (ints_one _) rfl (by omega) (by omega) ?_; intro v5 w5 HO5 HX5 _; rw [hla, hlb, ← List.map_append] at HO5) | (go_at_call 149; refine (runit_any p _ z k _ hp hp2 (HZ.out.ext (hx3.trans HX5)) lz HKZ.out).mono ?_; rintro e w6 ⟨rfl, hx6⟩; have HO6 := own_ext HO5 hx6))
      have HX6 := HX5.trans hx6
      have HA0 := Lib.hid (show (bitsL n a ++ bitsL n b).length = n + n by rw [List.length_append, hla, hlb])
      clear HX4 HX5 HO5 HO4 hx6 hla hlb
      generalize hat0 : bitsL n a ++ bitsL n b = at0 at *
      have HAT := Lib.hid hat0; clear hat0
      generalize hWZ : wgt z k = WZ at *
      have HWZ := Lib.hid hWZ; clear hWZ
      go_loopw [18, 19, 20] (fun x18 x19 _ ws => ∃ j : Nat, j ≤ xs.length ∧ x19 = .int .i64 j ∧ x18 = .int .i64 ((WZ * facN at0 xs j) % p) ∧ ws.ownsRow w3.heap.size 3 1 v5 (n + n) ((xs.take j ++ at0.drop j).map (Value.int .i64)) ∧ Ext w3 ws) (fun _ x19 _ _ => xs.length - (intOf x19).toNat)
      case atStart => exact ⟨0, Nat.zero_le _, rfl, by simp [facN], HO6, HX6⟩
      case round =>
        obtain ⟨j, hj, rfl, rfl, HOJ, HXJ⟩ := hrel
        have HML := Lib.hid (mix_length xs at0 j hj (by rw [HA0.out]; omega))
        have HIO := Lib.hid (Ints.of_own HOJ)
        by_cases hjl : j < xs.length
        · have hxix := HX.out.run_index (P := Tryz.prog) slInts j hjl
          have hxc := (HX.out.ext (hx3.trans HXJ)).cell j hjl
          have haix := HIO.out.run_index (P := Tryz.prog) slInts j (by rw [HML.out, HA0.out]; omega)
          have hac := HIO.out.cell j (by rw [HML.out, HA0.out]; omega)
          rw [nth_mix xs at0 j hjl] at hac
          have HSS := Lib.hid (set_step xs at0 j hjl (by rw [HA0.out]; omega))
          have hj2 : j < n + n := by omega
          by_cases hz0 : nth at0 j = 0
          · have HF0 := Lib.hid (fac_step0 p WZ at0 xs j hz0)
            rw [hz0] at hac
            clear hz0
            go_wp2_with (first | (go_at_call 55; refine (rof_any _ _ _ hp hp2).mono ?_; rintro e w' ⟨rfl, rfl⟩) | (go_at_call 150; refine (rsub_any _ _ _ _ hp hp2).mono ?_; rintro e w' ⟨rfl, rfl⟩) | (go_at_call 52; refine (rmul_any _ _ _ _ hp hp2).mono ?_; rw [HF0.out]; rintro e w' ⟨rfl, rfl⟩) | (refine wpList_set rfl rfl _ _ 3 rfl slInts HOJ j hj2 rfl (.int .i64 (nth xs j)) rfl rfl (by intro u hu; simp [Value.cells] at hu; subst hu; rfl) ?_; intro w7 HO7 HG7; rw [HSS.out] at HO7; have HX7 := Ext.own_grown HXJ HOJ HG7))
            go_roundw
            case rel => exact ⟨j + 1, by omega, by go_num, rfl, HO7, HX7⟩
            case measure => simp [intOf]; omega
          · have HF1 := Lib.hid (fac_step1 p WZ at0 xs j hz0)
            have hbz : (nth at0 j == 0) = false := by rw [beq_eq_false_iff_ne]; exact hz0
            clear hz0
            go_wp2_with (first | (go_at_call 55; refine (rof_any _ _ _ hp hp2).mono ?_; rintro e w' ⟨rfl, rfl⟩) | (go_at_call 52; refine (rmul_any _ _ _ _ hp hp2).mono ?_; rw [HF1.out]; rintro e w' ⟨rfl, rfl⟩) | (refine wpList_set rfl rfl _ _ 3 rfl slInts HOJ j hj2 rfl (.int .i64 (nth xs j)) rfl rfl (by intro u hu; simp [Value.cells] at hu; subst hu; rfl) ?_; intro w7 HO7 HG7; rw [HSS.out] at HO7; have HX7 := Ext.own_grown HXJ HOJ HG7))
            go_roundw
            case rel => exact ⟨j + 1, by omega, by go_num, rfl, HO7, HX7⟩
            case measure => simp [intOf]; omega
        · obtain rfl : j = xs.length := by omega
          rw [List.take_length] at HIO HML
          have hnl : n ≤ (xs ++ at0.drop xs.length).length := by rw [HML.out, HA0.out]; omega
          have hrt := HIO.out.run_take (P := Tryz.prog) slInts n hnl
          have hrd := HIO.out.run_drop (P := Tryz.prog) slInts n hnl
          have HT1 := Lib.hid (HIO.out.take n hnl)
          have HT2 := Lib.hid (HIO.out.drop n hnl)
          rw [← HAT.out, at_take n a b xs hle] at HT1
          rw [← HAT.out, at_drop n a b xs hle] at HT2
          have h60a : (xs.take n ++ bitsL (n - (xs.take n).length) a).length ≤ 60 := by rw [List.length_append, bitsL_length, List.length_take]; omega
          have h60b : (xs.drop n ++ bitsL (n - (xs.drop n).length) b).length ≤ 60 := by rw [List.length_append, bitsL_length, List.length_drop]; omega
          have H60A := Lib.hid h60a; have H60B := Lib.hid h60b
          have HT9 := Lib.hid (HTT.out.ext (hx3.trans HXJ))
          have HX9 := hx3.trans HXJ
          replace g0 := HXJ.cell g0
          clear h60a h60b hnl
          generalize upTo v5 n = u1 at *
          generalize fromV v5 n = u2 at *
          by_cases hk1 : gk = 1
          · have HFIN := Lib.hid (HSM.out hk1)
            subst hk1
            clear HSM HSA
            go_wp2_with (first | (go_at_call_of 82 u1; refine (rextend_any p _ _ t _ _ hp hp2 HT9.out HT1.out H60A.out).mono ?_; rw [show ext t (xs.take n ++ bitsL (n - (xs.take n).length) a) = sd n t (xs.take n) a from rfl]; rintro e w' ⟨rfl, rfl⟩) | (go_at_call_of 82 u2; refine (rextend_any p _ _ t _ _ hp hp2 HT9.out HT2.out H60B.out).mono ?_; rw [show ext t (xs.drop n ++ bitsL (n - (xs.drop n).length) b) = sd n t (xs.drop n) b from rfl]; rintro e w' ⟨rfl, rfl⟩) | (go_at_call 53; refine (radd_any _ _ _ _ hp hp2).mono ?_; rintro e w' ⟨rfl, rfl⟩) | (go_at_call 52; refine (rmul_any _ _ _ _ hp hp2).mono ?_; rintro e w' ⟨rfl, rfl⟩))
            go_roundw
            case rel => exact ⟨k + 1, by omega, by go_num, congrArg (Value.int .i64) HFIN.out, HX9⟩
            case measure => simp [intOf]; omega
          · have HFIN := Lib.hid (HSA.out hk1)
            have hbk : (gk == 1) = false := by rw [beq_eq_false_iff_ne]; exact hk1
            clear HSM HSA hk1
            go_wp2_with (first | (go_at_call_of 82 u1; refine (rextend_any p _ _ t _ _ hp hp2 HT9.out HT1.out H60A.out).mono ?_; rw [show ext t (xs.take n ++ bitsL (n - (xs.take n).length) a) = sd n t (xs.take n) a from rfl]; rintro e w' ⟨rfl, rfl⟩) | (go_at_call_of 82 u2; refine (rextend_any p _ _ t _ _ hp hp2 HT9.out HT2.out H60B.out).mono ?_; rw [show ext t (xs.drop n ++ bitsL (n - (xs.drop n).length) b) = sd n t (xs.drop n) b from rfl]; rintro e w' ⟨rfl, rfl⟩) | (go_at_call 53; refine (radd_any _ _ _ _ hp hp2).mono ?_; rintro e w' ⟨rfl, rfl⟩) | (go_at_call 52; refine (rmul_any _ _ _ _ hp hp2).mono ?_; rintro e w' ⟨rfl, rfl⟩))
            go_roundw
            case rel => exact ⟨k + 1, by omega, by go_num, congrArg (Value.int .i64) HFIN.out, HX9⟩
            case measure => simp [intOf]; omega
    · obtain rfl : k = l.length := by omega
      go_wp2_with fail
      go_ret
      exact ⟨rfl, hxr⟩
end Go.Proofs.YtnhbabiccfdhmaaGreatDoor
