/- A layer's sum, the program's side: one side of a wire. A layer's sum, the program's side: the sum over the wires. A layer's sum, the program's side: Part with its faults. -/
import Derived.Test.YtaajjaadlpgbiaaGreatDoorZx2
import Derived.Test.YtaajjaadlpgbiaaGreatDoorZx5
import Derived.Deep.RegionWith
section
namespace Go.Att
open Go.RowKit
theorem idx_cast {P : Program} {t : TypeId} {v r : Value} {k k' : Int} (h : ∀ w', (Instr.indexAt t v (.int .i64 k)).run P w' = .ok r w') (e : k' = k) : ∀ w', (Instr.indexAt t v (.int .i64 k')).run P w' = .ok r w' := e ▸ h
theorem fixAll_step (p : Int) (T s : List Int) {k : Nat} (h : k < s.length) : fixAll p T (s.take (k + 1)) = fixL p (fixAll p T (s.take k)) (nth s k) := by
  rw [List.take_succ_eq_append_getElem h, fixAll_snoc]
  congr 1
  simp [nth, h]
theorem and_mask : ∀ r : Nat, r < 7 → ∀ A : Nat, A < 64 → bits BinOp.and IntKind.i64 (A : Int) ((2 : Int) ^ r - 1) = ((A % 2 ^ r : Nat) : Int) := by decide +kernel
theorem vrow_two {p wd : Int} {Ls : List (List Tri)} {inp : List Int} {n i : Nat} (hE : cirErr wd Ls = 0) (hin : (inp.length : Int) = 2 ^ wd.toNat) (hi : i < Ls.length) (hn : beneath wd Ls i = n) : (vrow p Ls inp i).length = 2 ^ n := by
  have h1 := vrow_length (p := p) (Ls := Ls) hin i
  have h2 := below_pow (cirErr_ok hE).1 hi
  rw [hn, Int.toNat_natCast] at h2
  rw [h2] at h1
  exact_mod_cast h1
end Go.Att
namespace Go.Proofs.YtaajjaadlpgbiaaGreatDoor
open Go.RowKit Go.Att

set_option maxRecDepth 100000 in
set_option maxHeartbeats 1000000 in
theorem half_any {w : World} {bf b : Nat} {p g : Int} {fs : List Int} {wd : Int} {lv vv : Value} {Ls : List (List Tri)} {R S : Nat → Value} {inp : List Int} (hf : Fld w (.pointer (some ⟨bf, 0, none⟩)) p g fs) (hw : Wlk w b (.pointer (some ⟨bf, 0, none⟩)) wd lv vv)
    (hL : LysAt w lv Ls R) (hV : RwsAt w vv (vals p Ls inp Ls.length) S) (hE : cirErr wd Ls = 0) (hin : (inp.length : Int) = 2 ^ wd.toNat) (i : Nat) (hi : i < Ls.length) (n : Nat) (hn : beneath wd Ls i = n) (A : Nat) (hA : A < 2 ^ n) (vs : Value) (s : List Int) (hs : Ints w vs s) (hle : s.length ≤ n) :
    Calls Tryz.prog 145 #[.pointer (some ⟨b, 0, none⟩), .int .i64 i, .int .i64 A, vs] w fun e w' => e = .returned (.tuple #[.int .i64 (sh n s A % p), .int .i64 (nth (fixAll p (vrow p Ls inp i) s) (A % 2 ^ (n - s.length)))]) ∧ Ext w w' := by
  have hn6 : n ≤ 6 := by have := (beneath_bd (cirErr_ok hE).1 hi).2; omega
  have hlen8 : Ls.length ≤ 8 := (cirErr_ok hE).1.2.2.2.1
  have HT := Lib.hid (vrow_two (p := p) hE hin hi hn)
  have HN := Lib.hid hn
  have hvl : i < (vals p Ls inp Ls.length).length := by rw [vals_length]; omega
  have hix := hV.run_index (P := Tryz.prog) slRows i hvl
  have hc := hV.cell i hvl
  have hr := hV.row i hvl
  rw [vals_nth _ _ _ (by omega)] at hr
  have hls := hs.run_len (P := Tryz.prog) slInts
  have HR := Lib.hid hr; have HL := Lib.hid hL; have HS := Lib.hid hs; have C := Lib.hid hf; have HW := Lib.hid hw
  obtain ⟨ao, cap, rfl⟩ := hL.shape
  obtain ⟨c0, c1, c2, c3, -⟩ := hw
  have hA64 : A < 64 := by
    have h26 : 2 ^ n ≤ 2 ^ 6 := Nat.pow_le_pow_right (by decide) hn6
    have h27 : (2 : Nat) ^ 6 = 64 := by decide
    omega
  clear hV hE hin hn hr hL hs hf hA
  generalize vrow p Ls inp i = T at *
  go_enter Tryz.func145, Tryz.ntmps145
  go_wp2_with (go_at_call 98; refine (vars_below wd _ Ls R i _ HL.out hi).mono ?_; rw [HN.out]; rintro e w2 ⟨rfl, hx2⟩)
  clear c0 c1 c2 c3 hix hc
  go_loopw [10, 13, 31] (fun x10 _ x31 wr => ∃ k : Nat, k ≤ s.length ∧ x31 = .int .i64 k ∧ Ints wr x10 (fixAll p T (s.take k)) ∧ Ext w wr) (fun _ _ x31 _ => s.length - (intOf x31).toNat)
  case atStart => exact ⟨0, Nat.zero_le _, rfl, HR.out.ext hx2, hx2⟩
  case round =>
    obtain ⟨k, hk, rfl, hT, hx⟩ := hrel
    have HTK := Lib.hid hT; clear hT
    have d0 := (HW.out.ext hx).c0
    by_cases hks : k < s.length
    · have hix := HS.out.run_index (P := Tryz.prog) slInts k hks
      have hc := (HS.out.ext hx).cell k hks
      have ST := Lib.hid (fixAll_step p T s hks)
      have HLN := Lib.hid (fixAll_length p T (s.take k) (n - k) (by rw [HT.out, List.length_take]; congr 1; omega))
      go_wp2_with (go_at_call 163; refine (sFix_ok (C.out.ext hx) _ _ _ HTK.out (n - k) (by omega) (by omega) HLN.out).mono ?_; rintro e w3 ⟨v, rfl, hx3, u, rfl, hu⟩; have HU := Lib.hid hu; clear hu)
      go_roundw
      case rel => exact ⟨k + 1, by omega, by go_num, by rw [ST.out]; exact HU.out, hx.trans hx3⟩
      case measure => simp [intOf]; omega
    · obtain rfl : k = s.length := by omega
      rw [List.take_length] at HTK
      have HLN := Lib.hid (fixAll_length p T s (n - s.length) (by rw [HT.out]; congr 1; omega))
      obtain ⟨r, hr⟩ : ∃ r, n - s.length = r := ⟨_, rfl⟩
      have hnr : (n : Int) - s.length = (r : Nat) := by omega
      have hr6 : r < 7 := by omega
      have hm := and_mask r hr6 A hA64
      have hb2 : (1 : Int) ≤ (2 : Int) ^ r ∧ (2 : Int) ^ r ≤ 64 := by
        have : r = 0 ∨ r = 1 ∨ r = 2 ∨ r = 3 ∨ r = 4 ∨ r = 5 ∨ r = 6 := by omega
        rcases this with rfl | rfl | rfl | rfl | rfl | rfl | rfl <;> decide
      have hw1 : IntKind.i64.wrap ((2 : Int) ^ r) = (2 : Int) ^ r := IntWalk.i64_in _ (by omega)
      have hw2 : IntKind.i64.wrap ((2 : Int) ^ r - 1) = (2 : Int) ^ r - 1 := IntWalk.i64_in _ (by omega)
      have hm2 : bits BinOp.and IntKind.i64 (A : Int) (IntKind.i64.wrap (IntKind.i64.wrap ((2 : Int) ^ r) - 1)) = ((A % 2 ^ r : Nat) : Int) := by rw [hw1, hw2]; exact hm
      have hlt : A % 2 ^ r < (fixAll p T s).length := by rw [HLN.out, hr]; exact Nat.mod_lt _ (Nat.two_pow_pos r)
      have hix := HTK.out.run_index (P := Tryz.prog) slInts (A % 2 ^ r) hlt
      have hc := HTK.out.cell (A % 2 ^ r) hlt
      have hcs : ((A : Int) / 2 ^ r) = ((A / 2 ^ r : Nat) : Int) := by simp
      have hsl : s.length ≤ 30 := by omega
      have hqb : A / 2 ^ r ≤ 9223372036854775807 := by have := Nat.div_le_self A (2 ^ r); omega
      have HC := Lib.hid (C.out.ext hx); have HSX := Lib.hid (HS.out.ext hx)
      have HSH := Lib.hid (show wgt s (A / 2 ^ r) = sh n s A by unfold sh; rw [hr])
      have HRR := Lib.hid hr
      have HCS := Lib.hid hcs
      replace hix := idx_cast hix hm2
      clear hlt hr hcs hm hw1 hw2 hb2 hm2
      go_wp2_with fail
      go_quiet ((go_at_call 138; rw [HCS.out]; exact unit_q HC.out HSX.out hsl hqb _))
      go_wp2_with fail
      go_ret2
      refine ⟨?_, hx.trans (Ext.drewN wr _)⟩
      rw [HSH.out, HRR.out]
      rfl
end Go.Proofs.YtaajjaadlpgbiaaGreatDoor
end
section
namespace Go.Att
open Go.RowKit
theorem partS_step (_p : Int) (l : List Tri) (n : Nat) (t z xs : List Int) (k : Nat) : partS l n t z xs (k + 1) = partS l n t z xs k + partT n t z xs k (nthT l k) := rfl
theorem fapp_gop {p k va vb X Y : Int} (h1 : va % p = X % p) (h2 : vb % p = Y % p) : fapp p k va vb = gop k X Y % p := by
  unfold fapp gop
  split
  · exact mmul h1 h2
  · exact madd h1 h2
theorem wpart_step {p S wz s1 s2 k va vb X Y : Int} (h1 : va % p = X % p) (h2 : vb % p = Y % p) : fadd p (S % p) (fmul p (fmul p (wz % p) (fmul p (s1 % p) (s2 % p))) (fapp p k va vb)) = (S + wz * (s1 * s2) * gop k X Y) % p := by
  rw [fapp_gop h1 h2]
  simp only [fadd, fmul, em_l, em_r, ea_l, ea_r]
end Go.Att
namespace Go.Proofs.YtaajjaadlpgbiaaGreatDoor
open Go.RowKit Go.Att

set_option maxRecDepth 100000 in
set_option maxHeartbeats 1000000 in
theorem wpart_any {w : World} {bf b : Nat} {p g : Int} {fs : List Int} {wd : Int} {lv vv : Value} {Ls : List (List Tri)} {R S : Nat → Value} {inp : List Int} (hf : Fld w (.pointer (some ⟨bf, 0, none⟩)) p g fs) (hw : Wlk w b (.pointer (some ⟨bf, 0, none⟩)) wd lv vv)
    (hL : LysAt w lv Ls R) (hV : RwsAt w vv (vals p Ls inp Ls.length) S) (hE : cirErr wd Ls = 0) (hin : (inp.length : Int) = 2 ^ wd.toNat) (i : Nat) (hi : i < Ls.length) (n : Nat) (hn : beneath wd Ls i = n) (vz vx : Value) (z xs : List Int) (hz : Ints w vz z) (hx : Ints w vx xs) (lz : z.length ≤ 30) (hle : xs.length ≤ 2 * n) :
    Calls Tryz.prog 114 #[.pointer (some ⟨b, 0, none⟩), .int .i64 i, vz, vx] w fun e w' => e = .returned (.int .i64 (partS (nthY Ls i) n (vrow p Ls inp i) z xs (nthY Ls i).length % p)) ∧ Ext w w' := by
  have hn6 : n ≤ 6 := by have := (beneath_bd (cirErr_ok hE).1 hi).2; omega
  have hlen8 : Ls.length ≤ 8 := (cirErr_ok hE).1.2.2.2.1
  have hbp := below_pow (cirErr_ok hE).1 hi
  rw [hn, Int.toNat_natCast] at hbp
  have hl64 := wideOf_le ((cirErr_ok hE).1.2.2.2.2 i hi)
  have HOK := Lib.hid ((cirErr_ok hE).2 i hi)
  rw [hbp] at HOK
  have HE := Lib.hid hE; have HIN := Lib.hid hin
  have HN := Lib.hid hn
  have hix := hL.run_index (P := Tryz.prog) slLayers i hi
  have hc := hL.cell i hi
  have hrow := hL.row i hi
  have hln := hrow.run_len (P := Tryz.prog) slGates
  have hlx := hx.run_len (P := Tryz.prog) slInts
  have HROW := Lib.hid hrow; have HL := Lib.hid hL; have HX := Lib.hid hx; have HZ := Lib.hid hz; have C := Lib.hid hf; have HW := Lib.hid hw; have HV := Lib.hid hV
  obtain ⟨cut, hcut⟩ : ∃ cut : Nat, cut = min n xs.length := ⟨_, rfl⟩
  have hcl : cut ≤ xs.length := by omega
  have ET : xs.take cut = xs.take n := by
    rcases Nat.le_total n xs.length with h | h
    · rw [hcut, Nat.min_eq_left h]
    · rw [hcut, Nat.min_eq_right h, List.take_length, List.take_of_length_le h]
  have ED : xs.drop cut = xs.drop n := by
    rcases Nat.le_total n xs.length with h | h
    · rw [hcut, Nat.min_eq_left h]
    · rw [hcut, Nat.min_eq_right h, List.drop_length, List.drop_of_length_le h]
  have HT1 := Lib.hid (hx.take cut hcl); have HT2 := Lib.hid (hx.drop cut hcl)
  rw [ET] at HT1; rw [ED] at HT2
  have HL1 := Lib.hid (show (xs.take n).length ≤ n by simp; omega)
  have HL2 := Lib.hid (show (xs.drop n).length ≤ n by simp; omega)
  have hrt := hx.run_take (P := Tryz.prog) slInts cut hcl
  have hrd := hx.run_drop (P := Tryz.prog) slInts cut hcl
  obtain ⟨ao, cap, rfl⟩ := hL.shape
  obtain ⟨c0, c1, c2, c3, -⟩ := hw
  have hcc : (n ≤ xs.length ∧ n = cut) ∨ (xs.length < n ∧ xs.length = cut) := by omega
  clear hV hE hin hn hrow hL hx hz hf hbp hcut hcl ET ED
  rcases hcc with ⟨hcn, rfl⟩ | ⟨hcn, rfl⟩
  all_goals
    go_enter Tryz.func114, Tryz.ntmps114
    go_wp2_with (go_at_call 98; refine (vars_below wd _ Ls R i _ HL.out hi).mono ?_; rw [HN.out]; rintro e w2 ⟨rfl, hx2⟩; replace c0 := hx2.cell c0; replace c1 := hx2.cell c1; replace c2 := hx2.cell c2; replace c3 := hx2.cell c3; replace hc := hx2.cell hc)
    clear c0 c1 c2 c3 hc
    go_loopw [11, 12, 13, 14, 15, 16, 17, 18, 39] (fun x11 _ _ _ _ _ _ _ x39 wr => ∃ k : Nat, k ≤ (nthY Ls i).length ∧ x39 = .int .i64 k ∧ x11 = .int .i64 (partS (nthY Ls i) n (vrow p Ls inp i) z xs k % p) ∧ Ext w wr) (fun _ _ _ _ _ _ _ _ x39 _ => (nthY Ls i).length - (intOf x39).toNat)
    case atStart => exact ⟨0, Nat.zero_le _, rfl, by simp [partS, sumN], hx2⟩
    case round =>
      obtain ⟨k, hk, rfl, rfl, hxr⟩ := hrel
      by_cases hkl : k < (nthY Ls i).length
      · have hrow := HROW.out.ext hxr
        have hix2 := hrow.run_index (P := Tryz.prog) slGates k hkl
        have g0 := hrow.c0 k hkl
        have g1 := hrow.c1 k hkl
        have g2 := hrow.c2 k hkl
        have hok := HOK.out k hkl
        have ST := Lib.hid (partS_step p (nthY Ls i) n (vrow p Ls inp i) z xs k)
        clear hrow
        generalize hg : nthT (nthY Ls i) k = G at g0 g1 g2 hok ST
        obtain ⟨gk, ga, gb⟩ := G
        have HGG := Lib.hid hg; clear hg
        simp only [gateOk] at g0 g1 g2 hok
        obtain ⟨o1, o2, o3, o4, o5, o6⟩ := hok
        obtain ⟨a, rfl⟩ := Int.eq_ofNat_of_zero_le o3
        obtain ⟨b2, rfl⟩ := Int.eq_ofNat_of_zero_le o5
        have hgk : gk = 0 ∨ gk = 1 := by omega
        have HA := Lib.hid (show a < 2 ^ n by exact_mod_cast o4)
        have HB := Lib.hid (show b2 < 2 ^ n by exact_mod_cast o6)
        clear o1 o2 o3 o4 o5 o6
        go_wp2_with fail
        have hx9 := hxr.trans (Ext.alloc wr (Obj.cells #[.int .i64 gk, .int .i64 a, .int .i64 b2] 61))
        have q0 := cell_new wr #[.int .i64 gk, .int .i64 a, .int .i64 b2] 61 0
        have q1 := cell_new wr #[.int .i64 gk, .int .i64 a, .int .i64 b2] 61 1
        have q2 := cell_new wr #[.int .i64 gk, .int .i64 a, .int .i64 b2] 61 2
        generalize hW9 : World.alloc wr _ = W9 at *
        replace q0 : W9.cell? ⟨wr.heap.size, 0, none⟩ = some (.int .i64 gk) := q0
        replace q1 : W9.cell? ⟨wr.heap.size, 1, none⟩ = some (.int .i64 a) := q1
        replace q2 : W9.cell? ⟨wr.heap.size, 2, none⟩ = some (.int .i64 b2) := q2
        clear hW9 g0 g1 g2 hix2
        obtain ⟨va, hva⟩ : ∃ va, nth (fixAll p (vrow p Ls inp i) (xs.take n)) (a % 2 ^ (n - (xs.take n).length)) = va := ⟨_, rfl⟩
        have HVM := Lib.hid (half_is p _ _ n a HL1.out (vrow_two (p := p) HE.out HIN.out hi HN.out))
        rw [hva] at HVM
        have HVA := Lib.hid hva
        obtain ⟨vb, hvb⟩ : ∃ vb, nth (fixAll p (vrow p Ls inp i) (xs.drop n)) (b2 % 2 ^ (n - (xs.drop n).length)) = vb := ⟨_, rfl⟩
        have HVN := Lib.hid (half_is p _ _ n b2 HL2.out (vrow_two (p := p) HE.out HIN.out hi HN.out))
        rw [hvb] at HVN
        have HVB := Lib.hid hvb
        clear hva hvb
        have hx10 : Ext w W9.drew := hx9.trans (Ext.drewN W9 1)
        go_region_with (go_at_call 145; refine (half_any (C.out.ext hx10) (HW.out.ext hx10) (HL.out.ext hx10) ⟨(HV.out.sl.ext hx10), fun j hj => (HV.out.row j hj).ext hx10⟩ HE.out HIN.out i hi n HN.out a HA.out _ _ (HT1.out.ext hx10) HL1.out).mono ?_; rw [HVA.out]; rintro e w3 ⟨rfl, hx3⟩)
        have q3 := hx3.cell ((Ext.drew W9).cell q0)
        have q4 := hx3.cell ((Ext.drew W9).cell q2)
        have hx11 : Ext w w3.drew := (hx10.trans hx3).trans (Ext.drew w3)
        clear q0 q1 q2 hx9 hx10
        go_wp2_with fail
        go_region_with (go_at_call 145; refine (half_any (C.out.ext hx11) (HW.out.ext hx11) (HL.out.ext hx11) ⟨(HV.out.sl.ext hx11), fun j hj => (HV.out.row j hj).ext hx11⟩ HE.out HIN.out i hi n HN.out b2 HB.out _ _ (HT2.out.ext hx11) HL2.out).mono ?_; rw [HVB.out]; rintro e w4 ⟨rfl, hx4⟩)
        have q5 := hx4.cell ((Ext.drew w3).cell q3)
        have hx12 := hx11.trans hx4
        have d0 := (HW.out.ext hx12).c0
        have HC12 := Lib.hid (C.out.ext hx12)
        have HZ12 := Lib.hid (HZ.out.ext hx12)
        have hkb : k ≤ 9223372036854775807 := by omega
        go_wp2_with fail
        go_quiet ((first | (go_at_call 138; exact unit_q HC12.out HZ12.out lz hkb _) | (go_at_call 71; exact mul_q HC12.out _ _ _)))
        have q6 := (Ext.drewN w4 nq).cell q5
        have hx13 := hx12.trans (Ext.drewN w4 nq)
        generalize w4.drewN nq = w5 at *
        have d1 := (HW.out.ext hx13).c0
        have HC13 := Lib.hid (C.out.ext hx13)
        have HW13 := Lib.hid (HW.out.ext hx13)
        clear d0 q3 q4 q5 HC12 HZ12 hx12 hx11
        go_wp2_with fail
        go_quiet ((first | (go_at_call 113; exact Calls.quiet_of (apply_any (HC13.out.drewN _) (HW13.out.ext (Ext.drewN _ _)) _ _ _ hgk)) | (go_at_call 71; exact mul_q HC13.out _ _ _) | (go_at_call 70; exact add_q HC13.out _ _ _)))
        go_wp2_with fail
        go_roundw
        case rel =>
          refine ⟨k + 1, by omega, by go_num, ?_, hx13.trans (Ext.drewN _ _)⟩
          rw [wpart_step HVM.out HVN.out, ST.out]
          rfl
        case measure => simp [intOf]; omega
      · obtain rfl : k = (nthY Ls i).length := by omega
        go_wp2_with fail
        go_ret
        exact ⟨rfl, hxr⟩
end Go.Proofs.YtaajjaadlpgbiaaGreatDoor
end
section
namespace Go.Att
open Go.RowKit
open Classical in
/-- What is wrong with a layer, with so many numbers of two points. -/
noncomputable def partErr (wd : Int) (Ls : List (List Tri)) (m : Nat) (layer : Int) (lz lx : Nat) : Int :=
  if walkErr wd Ls m = 0 then (if layB layer Ls.length = true then (if (lz : Int) = wideOf (nthY Ls layer.toNat).length ∧ (lx : Int) ≤ 2 * beneath wd Ls layer.toNat then 0 else 2) else 3) else walkErr wd Ls m
/-- The sum. -/
noncomputable def partV (p wd : Int) (Ls : List (List Tri)) (inp : List Int) (i : Nat) (z xs : List Int) : Int := partS (nthY Ls i) (beneath wd Ls i).toNat (vrow p Ls inp i) z xs (nthY Ls i).length % p
/-- .. 0 where something is wrong. -/
noncomputable def partR (p wd : Int) (Ls : List (List Tri)) (inp : List Int) (layer : Int) (z xs : List Int) : Int := if partErr wd Ls inp.length layer z.length xs.length = 0 then partV p wd Ls inp layer.toNat z xs else 0
theorem partErr_ok {wd : Int} {Ls : List (List Tri)} {m : Nat} {layer : Int} {lz lx : Nat} (h : partErr wd Ls m layer lz lx = 0) : walkErr wd Ls m = 0 ∧ layB layer Ls.length = true ∧ (lz : Int) = wideOf (nthY Ls layer.toNat).length ∧ (lx : Int) ≤ 2 * beneath wd Ls layer.toNat := by
  unfold partErr at h
  by_cases h1 : walkErr wd Ls m = 0
  · rw [if_pos h1] at h
    by_cases h2 : layB layer Ls.length = true
    · rw [if_pos h2] at h
      by_cases h3 : (lz : Int) = wideOf (nthY Ls layer.toNat).length ∧ (lx : Int) ≤ 2 * beneath wd Ls layer.toNat
      · exact ⟨h1, h2, h3.1, h3.2⟩
      · rw [if_neg h3] at h; omega
    · rw [if_neg h2] at h; omega
  · rw [if_neg h1] at h; exact absurd h h1
theorem partErr_mk {wd : Int} {Ls : List (List Tri)} {m : Nat} {layer : Int} {lz lx : Nat} (h1 : walkErr wd Ls m = 0) (h2 : layB layer Ls.length = true) (h3 : (lz : Int) = wideOf (nthY Ls layer.toNat).length) (h4 : (lx : Int) ≤ 2 * beneath wd Ls layer.toNat) : partErr wd Ls m layer lz lx = 0 := by
  unfold partErr; rw [if_pos h1, if_pos h2, if_pos ⟨h3, h4⟩]
theorem partErr_1 {wd : Int} {Ls : List (List Tri)} {m : Nat} {layer : Int} {lz lx : Nat} (h : walkErr wd Ls m ≠ 0) : partErr wd Ls m layer lz lx = walkErr wd Ls m := by unfold partErr; rw [if_neg h]
theorem partErr_3 {wd : Int} {Ls : List (List Tri)} {m : Nat} {layer : Int} {lz lx : Nat} (h : walkErr wd Ls m = 0) (h2 : layB layer Ls.length = false) : partErr wd Ls m layer lz lx = 3 := by unfold partErr; rw [if_pos h, if_neg (by rw [h2]; decide)]
theorem partErr_2 {wd : Int} {Ls : List (List Tri)} {m : Nat} {layer : Int} {lz lx : Nat} (h : walkErr wd Ls m = 0) (h2 : layB layer Ls.length = true) (h3 : ¬ ((lz : Int) = wideOf (nthY Ls layer.toNat).length ∧ (lx : Int) ≤ 2 * beneath wd Ls layer.toNat)) : partErr wd Ls m layer lz lx = 2 := by unfold partErr; rw [if_pos h, if_pos h2, if_neg h3]
end Go.Att
namespace Go.Proofs.YtaajjaadlpgbiaaGreatDoor
open Go.RowKit Go.Att

end Go.Proofs.YtaajjaadlpgbiaaGreatDoor
end
