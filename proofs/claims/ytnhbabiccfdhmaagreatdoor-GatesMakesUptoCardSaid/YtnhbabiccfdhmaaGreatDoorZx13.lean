/- Tables, the program's side: how many variables they have; one of them fixed. A layer's sum, the program's side: one side of a wire. A layer's sum, the document's side: the digits of a number; the sum over the places whose first variables are fixed. -/
import Derived.Test.YtnhbabiccfdhmaaGreatDoorVc
import Derived.Test.YtnhbabiccfdhmaaGreatDoorLa
import Derived.Test.YtnhbabiccfdhmaaGreatDoorHb
import Derived.Test.YtnhbabiccfdhmaaGreatDoorZx9
import Derived.Test.YtnhbabiccfdhmaaGreatDoorZx15
section
namespace Go.Att
open Go.RowKit
/-- How many times 2 a number is, up to 12; -1: it is none. -/
def varUp : Nat → Int → Int
  | 0, _ => -1
  | k + 1, n => if n = 2 ^ k then k else varUp k n
def varOf (n : Int) : Int := varUp 13 n
theorem varUp_bd (k : Nat) (n : Int) : -1 ≤ varUp k n ∧ varUp k n < k := by
  induction k with
  | zero => simp [varUp]
  | succ k ih => simp only [varUp]; split <;> omega
theorem varOf_bd (n : Int) : -1 ≤ varOf n ∧ varOf n ≤ 12 := by have := varUp_bd 13 n; unfold varOf; omega
theorem varUp_pow {k : Nat} {n : Int} (h : 0 ≤ varUp k n) : n = 2 ^ (varUp k n).toNat := by
  induction k with
  | zero => simp [varUp] at h
  | succ k ih =>
    simp only [varUp] at *
    by_cases e : n = 2 ^ k
    · rw [if_pos e, Int.toNat_natCast]; exact e
    · rw [if_neg e] at h ⊢; exact ih h
theorem varOf_pow {n : Int} (h : 0 ≤ varOf n) : n = 2 ^ (varOf n).toNat := varUp_pow h
theorem le12 {k : Nat} (h : k ≤ 12) : k = 0 ∨ k = 1 ∨ k = 2 ∨ k = 3 ∨ k = 4 ∨ k = 5 ∨ k = 6 ∨ k = 7 ∨ k = 8 ∨ k = 9 ∨ k = 10 ∨ k = 11 ∨ k = 12 := by omega
theorem varOf_of (k : Nat) (h : k ≤ 12) : varOf (2 ^ k) = k := by
  rcases le12 h with rfl | rfl | rfl | rfl | rfl | rfl | rfl | rfl | rfl | rfl | rfl | rfl | rfl <;> rfl
theorem varOf_le {n : Int} (h : 0 ≤ varOf n) : 1 ≤ n ∧ n ≤ 4096 := by
  have h1 := varOf_pow h
  have h2 := varOf_bd n
  have h3 : (2 : Nat) ^ (varOf n).toNat ≤ 2 ^ 12 := Nat.pow_le_pow_right (by decide) (by omega)
  have h4 : 1 ≤ (2 : Nat) ^ (varOf n).toNat := Nat.one_le_two_pow
  have h5 : ((2 ^ (varOf n).toNat : Nat) : Int) = (2 : Int) ^ (varOf n).toNat := by simp
  omega
theorem varOf_no {n : Int} (h : ∀ k : Nat, k ≤ 12 → (2 : Int) ^ k ≠ n) : varOf n = -1 := by
  apply Classical.byContradiction
  intro hc
  have h1 := varOf_bd n
  have h2 := varOf_pow (n := n) (by omega)
  exact h (varOf n).toNat (by omega) h2.symm
theorem varOf_out {n : Int} (h : n < 1 ∨ 4096 < n) : varOf n = -1 := by
  have h1 := varOf_bd n
  apply Classical.byContradiction
  intro hc
  have := varOf_le (n := n) (by omega)
  omega
theorem var_two {n : Int} (h1 : 1 ≤ n) (h2 : n ≤ 4096) : twoB n = decide (0 ≤ varOf n) := by
  by_cases h : 0 ≤ varOf n
  · rw [decide_eq_true h]
    have hp := varOf_pow h
    have hb := varOf_bd n
    simp only [twoB, twoUp, List.any_eq_true, List.mem_range, beq_iff_eq]
    exact ⟨(varOf n).toNat, by omega, hp.symm⟩
  · rw [decide_eq_false h, Bool.eq_false_iff]
    intro hc
    simp only [twoB, twoUp, List.any_eq_true, List.mem_range, beq_iff_eq] at hc
    obtain ⟨k, hk, rfl⟩ := hc
    have hk6 : k ≤ 12 := by
      apply Classical.byContradiction
      intro hc2
      have h3 : (2 : Nat) ^ 13 ≤ 2 ^ k := Nat.pow_le_pow_right (by decide) (by omega)
      have h4 : ((2 ^ k : Nat) : Int) = (2 : Int) ^ k := by simp
      omega
    rw [varOf_of k hk6] at h; omega
theorem fixL_step (p : Int) (t : List Int) (r : Int) {i : Nat} (h : i < t.length / 2) : (((fixL p t r).take (i + 1)).map (Value.int .i64)) = ((fixL p t r).take i).map (Value.int .i64) ++ [.int .i64 (fadd p (fmul p (nth t i) (fsub p 1 r)) (fmul p (nth t (i + t.length / 2)) r))] := by
  have hl : i < (fixL p t r).length := by rw [fixL_length]; exact h
  rw [List.take_succ_eq_append_getElem hl]
  simp [fixL]
end Go.Att
namespace Go.Proofs.YtnhbabiccfdhmaaGreatDoor
open Go.RowKit Go.Att

set_option maxRecDepth 100000 in
set_option maxHeartbeats 2000000 in
theorem svars_any (v : Value) (l : List Int) (w : World) (hv : Ints w v l) : Calls Tryz.prog 86 #[v] w fun e w' => e = .returned (.int .i64 (varOf l.length)) ∧ w = w' := by
  have hll := hv.run_len (P := Tryz.prog) slInts
  have hlen := hv.len
  clear hv
  generalize hn : (l.length : Int) = n at *
  have h0 : 0 ≤ n := by omega
  have hn9 : n ≤ 9223372036854775807 := by omega
  clear hn hlen
  by_cases h1 : n < 1
  · obtain rfl : n = 0 := by omega
    rw [varOf_out (.inl h1)]
    go_enter Tryz.func86, Tryz.ntmps86
    go_wp2_with fail
    go_ret
    exact ⟨rfl, rfl⟩
  · have hz : (n == 0) = false := by rw [beq_eq_false_iff_ne]; omega
    by_cases h2 : 4096 < n
    · rw [varOf_out (.inr h2)]
      cases hm : (bits BinOp.and IntKind.i64 n (n - 1) != 0)
      all_goals
        go_enter Tryz.func86, Tryz.ntmps86
        go_wp2_with fail
        go_ret
        exact ⟨rfl, rfl⟩
    · by_cases h : 0 ≤ varOf n
      · have hb := varOf_bd n
        have hp := varOf_pow h
        obtain ⟨k, hk⟩ := Int.eq_ofNat_of_zero_le h
        rw [hk, Int.toNat_natCast] at hp
        have hk6 : k ≤ 12 := by omega
        clear h hb hk h0 hz
        subst hp
        rw [varOf_of k hk6]
        have := le12 hk6
        clear h1 h2 hk6 hn9
        rcases this with rfl | rfl | rfl | rfl | rfl | rfl | rfl | rfl | rfl | rfl | rfl | rfl | rfl
        all_goals
          go_enter Tryz.func86, Tryz.ntmps86
          go_wp2
          go_ret
          exact ⟨by kernel_rfl, rfl⟩
      · have hm : (bits BinOp.and IntKind.i64 n (n - 1) != 0) = true := by rw [twoB_iff (by omega) (by omega), var_two (by omega) (by omega), decide_eq_false h]; rfl
        have hw : varOf n = -1 := by have := varOf_bd n; omega
        rw [hw]
        clear h hw
        go_enter Tryz.func86, Tryz.ntmps86
        go_wp2_with fail
        go_ret
        exact ⟨rfl, rfl⟩

section
variable {w : World} {f : Value} {p g : Int} {fs : List Int}
set_option maxRecDepth 100000 in
set_option maxHeartbeats 4000000 in
theorem sfixed_any (hf : Fld w f p g fs) (v : Value) (t : List Int) (r : Int) (hv : Ints w v t) (hl : t.length ≤ 1048576) :
    Calls Tryz.prog 87 #[f, v, .int .i64 r] w (Gives w fun u w' => Ints w' u (fixL p t r)) := by
  have hlv := hv.run_len (P := Tryz.prog) slInts
  have HV := Lib.hid hv; have C := Lib.hid hf; clear hv hf
  go_enter Tryz.func87, Tryz.ntmps87
  go_wp2_with (refine wpList_mk0 rfl _ _ 23 rfl slInts (Ext.refl w) rfl rfl (by omega) (by omega) (by omega) ?_; intro v4 w5 HO HX _)
  rw [show ((t.length : Int) / 2) = ((t.length / 2 : Nat) : Int) by omega]
  go_loopw [8, 9, 16] (fun x8 _ x16 wr => ∃ i : Nat, i ≤ t.length / 2 ∧ x16 = .int .i64 i ∧ wr.ownsRow w.heap.size 3 1 x8 i (((fixL p t r).take i).map (Value.int .i64)) ∧ Ext w wr) (fun _ _ x16 _ => t.length / 2 - (intOf x16).toNat)
  case atStart => exact ⟨0, Nat.zero_le _, rfl, HO, HX⟩
  case round =>
    obtain ⟨i, hi, rfl, HO1, HX1⟩ := hrel
    by_cases hlt : i < t.length / 2
    · have hix := HV.out.run_index (P := Tryz.prog) slInts i (by omega)
      have hc := (HV.out.ext HX1).cell i (by omega)
      have hix2 := HV.out.run_index (P := Tryz.prog) slInts (i + t.length / 2) (by omega)
      have hc2 := (HV.out.ext HX1).cell (i + t.length / 2) (by omega)
      have S := Lib.hid (fixL_step p t r hlt)
      have HF := Lib.hid (C.out.ext HX1)
      rw [show ((i + t.length / 2 : Nat) : Int) = (i : Int) + (t.length / 2 : Nat) by omega] at hix2
      generalize hN : t.length / 2 = N at *
      go_wp2_with fail
      refine wp_region_move_quiet_tail 21 _ (by kernel_rfl) rfl rfl (by kernel_rfl) ?_
      simp only [List.take_succ_cons, List.take_zero, List.drop_succ_cons, List.drop_zero]
      repeat (go_big_quiet_step (first | (go_at_call 124; exact mul_q HF.out _ _ _) | (go_at_call 114; exact add_q HF.out _ _ _) | (go_at_call 161; exact sub_q HF.out _ _ _)))
      refine wpQuiet_nil ?_
      rintro _ ⟨nq, rfl⟩
      have HO4 := own_ext HO1 (Ext.drewN wr nq)
      have HX4 := HX1.trans (Ext.drewN wr nq)
      clear hix hc hix2 hc2
      go_wp2_with (at_builtin; refine wpList_appNw rfl _ _ 23 rfl slInts rfl HX4.size HO4 rfl _ rfl (by intro u hu; simp at hu; subst hu; rfl) rfl (by omega) (by omega) ?_; intro v' w7 HO7 HG7 HW7)
      refine NoPan.normal ?_
      go_wp2_with fail
      go_roundw
      case rel => exact ⟨i + 1, by omega, by go_num, by rw [S.out]; exact HO7, Ext.own_grown HX4 HO4 HG7⟩
      case measure => simp [intOf]; omega
    · obtain rfl : i = t.length / 2 := by omega
      have HE := Lib.hid (Ints.of_own HO1)
      have S := Lib.hid (show (fixL p t r).take (t.length / 2) = fixL p t r from List.take_of_length_le (by rw [fixL_length]; omega))
      go_wp2_with fail
      go_ret
      exact .mk _ rfl HX1 (by rw [← S.out]; exact HE.out)

set_option maxRecDepth 100000 in
theorem sFix_ok (hf : Fld w f p g fs) (v : Value) (t : List Int) (r : Int) (hv : Ints w v t) (k : Nat) (hk : 1 ≤ k) (hk2 : k ≤ 12) (hl : t.length = 2 ^ k) :
    Calls Tryz.prog 217 #[f, v, .int .i64 r] w (Gives w fun u w' => ∃ x, u = .tuple #[x, .nilIface] ∧ Ints w' x (fixL p t r)) := by
  have e : varOf t.length = k := by rw [hl, Int.natCast_pow]; exact varOf_of k hk2
  have hlen : t.length ≤ 1048576 := by rw [hl]; exact Nat.le_trans (Nat.pow_le_pow_right (by decide) hk2) (by decide)
  have HV := Lib.hid hv; have C := Lib.hid hf; have E := Lib.hid e; clear hv hf hl e
  go_enter Tryz.func217, Tryz.ntmps217
  go_wp2_with (first | (go_at_call 86; refine (svars_any _ _ _ HV.out).mono ?_; rw [E.out]; rintro e w' ⟨rfl, rfl⟩) | (go_at_call 87; refine (sfixed_any C.out _ _ _ HV.out hlen).mono ?_; rintro e w2 ⟨v2, rfl, hx2, hu⟩; have HU := Lib.hid hu; clear hu))
  go_ret2
  exact .mk _ rfl hx2 ⟨_, rfl, HU.out⟩
end
end Go.Proofs.YtnhbabiccfdhmaaGreatDoor
end
section
namespace Go.Att
open Go.RowKit
theorem idx_cast {P : Program} {t : TypeId} {v r : Value} {k k' : Int} (h : ∀ w', (Instr.indexAt t v (.int .i64 k)).run P w' = .ok r w') (e : k' = k) : ∀ w', (Instr.indexAt t v (.int .i64 k')).run P w' = .ok r w' := e ▸ h
theorem fixAll_step (p : Int) (T s : List Int) {k : Nat} (h : k < s.length) : fixAll p T (s.take (k + 1)) = fixL p (fixAll p T (s.take k)) (nth s k) := by
  rw [List.take_succ_eq_append_getElem h, fixAll_snoc]
  congr 1
  simp [nth, h]
theorem and_mask : ∀ r : Nat, r < 7 → ∀ A : Nat, A < 64 → bits BinOp.and IntKind.i64 (A : Int) ((2 : Int) ^ r - 1) = ((A % 2 ^ r : Nat) : Int) := by decide +kernel
theorem vrow_two {p wd : Int} {Ls : List (List Tri)} {inp : List Int} {n i : Nat} (hE : cirErr wd Ls = 0) (hin : (inp.length : Int) = 2 ^ wd.toNat) (hi : i < Ls.length) (hn : beneath wd Ls i = n) : (vrow p Ls inp i).length = 2 ^ n := by
  have h1 := vrow_length (p := p) (Ls := Ls) hin i
  have h2 := below_pow (cirErr_ok hE).1 hi
  rw [hn, Int.toNat_natCast] at h2
  rw [h2] at h1
  exact_mod_cast h1
end Go.Att
namespace Go.Proofs.YtnhbabiccfdhmaaGreatDoor
open Go.RowKit Go.Att

set_option maxRecDepth 100000 in
set_option maxHeartbeats 1000000 in
theorem half_any {w : World} {bf b : Nat} {p g : Int} {fs : List Int} {wd : Int} {lv vv : Value} {Ls : List (List Tri)} {R S : Nat → Value} {inp : List Int} (hf : Fld w (.pointer (some ⟨bf, 0, none⟩)) p g fs) (hw : Wlk w b (.pointer (some ⟨bf, 0, none⟩)) wd lv vv)
    (hL : LysAt w lv Ls R) (hV : RwsAt w vv (vals p Ls inp Ls.length) S) (hE : cirErr wd Ls = 0) (hin : (inp.length : Int) = 2 ^ wd.toNat) (i : Nat) (hi : i < Ls.length) (n : Nat) (hn : beneath wd Ls i = n) (A : Nat) (hA : A < 2 ^ n) (vs : Value) (s : List Int) (hs : Ints w vs s) (hle : s.length ≤ n) :
    Calls Tryz.prog 197 #[.pointer (some ⟨b, 0, none⟩), .int .i64 i, .int .i64 A, vs] w fun e w' => e = .returned (.tuple #[.int .i64 (sh n s A % p), .int .i64 (nth (fixAll p (vrow p Ls inp i) s) (A % 2 ^ (n - s.length)))]) ∧ Ext w w' := by
  have hn6 : n ≤ 6 := by have := (beneath_bd (cirErr_ok hE).1 hi).2; omega
  have hlen8 : Ls.length ≤ 8 := (cirErr_ok hE).1.2.2.2.1
  have HT := Lib.hid (vrow_two (p := p) hE hin hi hn)
  have HN := Lib.hid hn
  have hvl : i < (vals p Ls inp Ls.length).length := by rw [vals_length]; omega
  have hix := hV.run_index (P := Tryz.prog) slRows i hvl
  have hc := hV.cell i hvl
  have hr := hV.row i hvl
  rw [vals_nth _ _ _ (by omega)] at hr
  have hls := hs.run_len (P := Tryz.prog) slInts
  have HR := Lib.hid hr; have HL := Lib.hid hL; have HS := Lib.hid hs; have C := Lib.hid hf; have HW := Lib.hid hw
  obtain ⟨ao, cap, rfl⟩ := hL.shape
  obtain ⟨c0, c1, c2, c3, -⟩ := hw
  have hA64 : A < 64 := by
    have h26 : 2 ^ n ≤ 2 ^ 6 := Nat.pow_le_pow_right (by decide) hn6
    have h27 : (2 : Nat) ^ 6 = 64 := by decide
    omega
  clear hV hE hin hn hr hL hs hf hA
  generalize vrow p Ls inp i = T at *
  go_enter Tryz.func197, Tryz.ntmps197
  go_wp2_with (go_at_call 144; refine (vars_below wd _ Ls R i _ HL.out hi).mono ?_; rw [HN.out]; rintro e w2 ⟨rfl, hx2⟩)
  clear c0 c1 c2 c3 hix hc
  go_loopw [10, 13, 31] (fun x10 _ x31 wr => ∃ k : Nat, k ≤ s.length ∧ x31 = .int .i64 k ∧ Ints wr x10 (fixAll p T (s.take k)) ∧ Ext w wr) (fun _ _ x31 _ => s.length - (intOf x31).toNat)
  case atStart => exact ⟨0, Nat.zero_le _, rfl, HR.out.ext hx2, hx2⟩
  case round =>
    obtain ⟨k, hk, rfl, hT, hx⟩ := hrel
    have HTK := Lib.hid hT; clear hT
    have d0 := (HW.out.ext hx).c0
    by_cases hks : k < s.length
    · have hix := HS.out.run_index (P := Tryz.prog) slInts k hks
      have hc := (HS.out.ext hx).cell k hks
      have ST := Lib.hid (fixAll_step p T s hks)
      have HLN := Lib.hid (fixAll_length p T (s.take k) (n - k) (by rw [HT.out, List.length_take]; congr 1; omega))
      go_wp2_with (go_at_call 217; refine (sFix_ok (C.out.ext hx) _ _ _ HTK.out (n - k) (by omega) (by omega) HLN.out).mono ?_; rintro e w3 ⟨v, rfl, hx3, u, rfl, hu⟩; have HU := Lib.hid hu; clear hu)
      go_roundw
      case rel => exact ⟨k + 1, by omega, by go_num, by rw [ST.out]; exact HU.out, hx.trans hx3⟩
      case measure => simp [intOf]; omega
    · obtain rfl : k = s.length := by omega
      rw [List.take_length] at HTK
      have HLN := Lib.hid (fixAll_length p T s (n - s.length) (by rw [HT.out]; congr 1; omega))
      obtain ⟨r, hr⟩ : ∃ r, n - s.length = r := ⟨_, rfl⟩
      have hnr : (n : Int) - s.length = (r : Nat) := by omega
      have hr6 : r < 7 := by omega
      have hm := and_mask r hr6 A hA64
      have hb2 : (1 : Int) ≤ (2 : Int) ^ r ∧ (2 : Int) ^ r ≤ 64 := by
        have : r = 0 ∨ r = 1 ∨ r = 2 ∨ r = 3 ∨ r = 4 ∨ r = 5 ∨ r = 6 := by omega
        rcases this with rfl | rfl | rfl | rfl | rfl | rfl | rfl <;> decide
      have hw1 : IntKind.i64.wrap ((2 : Int) ^ r) = (2 : Int) ^ r := IntWalk.i64_in _ (by omega)
      have hw2 : IntKind.i64.wrap ((2 : Int) ^ r - 1) = (2 : Int) ^ r - 1 := IntWalk.i64_in _ (by omega)
      have hm2 : bits BinOp.and IntKind.i64 (A : Int) (IntKind.i64.wrap (IntKind.i64.wrap ((2 : Int) ^ r) - 1)) = ((A % 2 ^ r : Nat) : Int) := by rw [hw1, hw2]; exact hm
      have hlt : A % 2 ^ r < (fixAll p T s).length := by rw [HLN.out, hr]; exact Nat.mod_lt _ (Nat.two_pow_pos r)
      have hix := HTK.out.run_index (P := Tryz.prog) slInts (A % 2 ^ r) hlt
      have hc := HTK.out.cell (A % 2 ^ r) hlt
      have hcs : ((A : Int) / 2 ^ r) = ((A / 2 ^ r : Nat) : Int) := by simp
      have hsl : s.length ≤ 30 := by omega
      have hqb : A / 2 ^ r ≤ 9223372036854775807 := by have := Nat.div_le_self A (2 ^ r); omega
      have HC := Lib.hid (C.out.ext hx); have HSX := Lib.hid (HS.out.ext hx)
      have HSH := Lib.hid (show wgt s (A / 2 ^ r) = sh n s A by unfold sh; rw [hr])
      have HRR := Lib.hid hr
      have HCS := Lib.hid hcs
      replace hix := idx_cast hix hm2
      clear hlt hr hcs hm hw1 hw2 hb2 hm2
      go_wp2_with fail
      go_quiet ((go_at_call 102; rw [HCS.out]; exact unit_q HC.out HSX.out hsl hqb _))
      go_wp2_with fail
      go_ret2
      refine ⟨?_, hx.trans (Ext.drewN wr _)⟩
      rw [HSH.out, HRR.out]
      rfl
end Go.Proofs.YtnhbabiccfdhmaaGreatDoor
end
section
namespace Go.Att
open Go.RowKit
theorem made_zeros (n : Nat) : (madeCells (Value.cells (.int .i64 0)) (n * 1)).toList = (List.replicate n (0 : Int)).map (Value.int .i64) := by
  simp [madeCells, Value.cells, Nat.mod_one, List.map_const']
theorem bits_start (n A : Nat) : (List.replicate n (0 : Int)).map (Value.int .i64) = (List.replicate (n - 0) 0 ++ bitsL 0 A).map (Value.int .i64) := by simp [bitsL]
theorem bits_set (r m A : Nat) : ((List.replicate (r + 1) (0 : Int) ++ bitsL m A).map (Value.int .i64)).take (r * 1) ++ (Value.cells (.int .i64 (((A / 2 ^ m : Nat) : Int) % 2))).toList ++ ((List.replicate (r + 1) (0 : Int) ++ bitsL m A).map (Value.int .i64)).drop (r * 1 + 1) = (List.replicate r 0 ++ bitsL (m + 1) A).map (Value.int .i64) := by
  simp [bitsL, Value.cells, List.take_append_of_le_length, List.take_replicate, Nat.mul_one]
theorem set_step (xs at0 : List Int) (k : Nat) (hk : k < xs.length) (_h0 : k < at0.length) : ((xs.take k ++ at0.drop k).map (Value.int .i64)).take (k * 1) ++ (Value.cells (.int .i64 (nth xs k))).toList ++ ((xs.take k ++ at0.drop k).map (Value.int .i64)).drop (k * 1 + 1) = (xs.take (k + 1) ++ at0.drop (k + 1)).map (Value.int .i64) := by
  have hl : (xs.take k).length = k := by simp; omega
  have e1 : ((xs.take k ++ at0.drop k).map (Value.int .i64)).take (k * 1) = (xs.take k).map (Value.int .i64) := by
    rw [Nat.mul_one, List.map_append, List.take_append_of_le_length (by simp; omega), List.take_of_length_le (by simp; omega)]
  have e2 : ((xs.take k ++ at0.drop k).map (Value.int .i64)).drop (k * 1 + 1) = (at0.drop (k + 1)).map (Value.int .i64) := by
    have e3 : (xs.take k).drop (k + 1) = [] := List.drop_of_length_le (by omega)
    rw [Nat.mul_one, ← List.map_drop, List.drop_append, e3, hl, List.drop_drop, List.nil_append]
    congr 2; omega
  have e4 : (Value.cells (.int .i64 (nth xs k))).toList = [Value.int .i64 xs[k]] := by simp [Value.cells, nth, hk]
  rw [e1, e2, e4, List.take_succ_eq_append_getElem hk, List.map_append, List.map_append]
  rfl
theorem at_take (n A B : Nat) (xs : List Int) (_h : xs.length ≤ 2 * n) : (xs ++ (bitsL n A ++ bitsL n B).drop xs.length).take n = xs.take n ++ bitsL (n - (xs.take n).length) A := by
  by_cases hn : xs.length ≤ n
  · rw [List.drop_append_of_le_length (by rw [bitsL_length]; exact hn), bitsL_drop _ _ _ hn, List.take_of_length_le hn, ← List.append_assoc, List.take_append_of_le_length (by rw [List.length_append, bitsL_length]; omega), List.take_of_length_le (by rw [List.length_append, bitsL_length]; omega)]
  · have e : (xs.take n).length = n := by simp; omega
    rw [List.take_append_of_le_length (by omega), e, Nat.sub_self]; simp [bitsL]
theorem at_drop (n A B : Nat) (xs : List Int) (h : xs.length ≤ 2 * n) : (xs ++ (bitsL n A ++ bitsL n B).drop xs.length).drop n = xs.drop n ++ bitsL (n - (xs.drop n).length) B := by
  by_cases hn : xs.length ≤ n
  · have e0 : (bitsL n A ++ bitsL n B).drop xs.length = bitsL (n - xs.length) A ++ bitsL n B := by rw [List.drop_append_of_le_length (by rw [bitsL_length]; exact hn), bitsL_drop _ _ _ hn]
    rw [e0, ← List.append_assoc]
    have e : (xs ++ bitsL (n - xs.length) A).length = n := by rw [List.length_append, bitsL_length]; omega
    rw [List.drop_append_of_le_length (by omega), List.drop_of_length_le (by omega), List.drop_of_length_le hn]; simp
  · have e : (bitsL n A ++ bitsL n B).drop xs.length = bitsL (2 * n - xs.length) B := by
      have e1 : (bitsL n A).drop xs.length = [] := List.drop_of_length_le (by rw [bitsL_length]; omega)
      rw [List.drop_append, e1, bitsL_length, bitsL_drop _ _ _ (by omega), List.nil_append]
      congr 1; omega
    rw [e, List.drop_append_of_le_length (by omega), List.length_drop]
    congr 2; omega
theorem fac_step0 (p : Int) (W : Int) (at0 xs : List Int) (k : Nat) (h : nth at0 k = 0) : fmul p ((W * facN at0 xs k) % p) (fsub p 1 (nth xs k)) = (W * facN at0 xs (k + 1)) % p := by
  simp only [facN, h, if_true, fmul, fsub, em_l, em_r, Int.mul_assoc]
theorem fac_step1 (p : Int) (W : Int) (at0 xs : List Int) (k : Nat) (h : nth at0 k ≠ 0) : fmul p ((W * facN at0 xs k) % p) (fof p (nth xs k)) = (W * facN at0 xs (k + 1)) % p := by
  simp only [facN, if_neg h, fmul, fof, em_l, em_r, Int.mul_assoc]
theorem part_step_mul (p : Int) (l : List Tri) (n : Nat) (t z xs : List Int) (i : Nat) (h : xs.length ≤ 2 * n) (hk : (nthT l i).1 = 1) :
    fadd p (partS l n t z xs i % p) (fmul p ((wgt z i * facN (bitsL n (nthT l i).2.1.toNat ++ bitsL n (nthT l i).2.2.toNat) xs xs.length) % p) (fmul p (sd n t (xs.take n) (nthT l i).2.1.toNat % p) (sd n t (xs.drop n) (nthT l i).2.2.toNat % p))) = partS l n t z xs (i + 1) % p := by
  rw [fac_shs _ _ _ _ h]
  simp only [partS, sumN, fadd, fmul, ea_l, ea_r, em_l, em_r]
  rw [show l.getD i (0, 0, 0) = nthT l i from rfl]
  simp only [partT, gop, hk, if_true]
theorem part_step_add (p : Int) (l : List Tri) (n : Nat) (t z xs : List Int) (i : Nat) (h : xs.length ≤ 2 * n) (hk : (nthT l i).1 ≠ 1) :
    fadd p (partS l n t z xs i % p) (fmul p ((wgt z i * facN (bitsL n (nthT l i).2.1.toNat ++ bitsL n (nthT l i).2.2.toNat) xs xs.length) % p) (fadd p (sd n t (xs.take n) (nthT l i).2.1.toNat % p) (sd n t (xs.drop n) (nthT l i).2.2.toNat % p))) = partS l n t z xs (i + 1) % p := by
  rw [fac_shs _ _ _ _ h]
  simp only [partS, sumN, fadd, fmul, ea_l, ea_r, em_l, em_r]
  rw [show l.getD i (0, 0, 0) = nthT l i from rfl]
  simp only [partT, gop, if_neg hk]
end Go.Att
namespace Go.Proofs.YtnhbabiccfdhmaaGreatDoor
open Go.RowKit Go.Att

set_option maxRecDepth 100000 in
set_option maxHeartbeats 2000000 in
theorem rbits_any (A n : Nat) (w : World) (hA : A ≤ 4611686018427387904) (hn : n ≤ 60) : Calls Tryz.prog 148 #[.int .i64 A, .int .i64 n] w (Gives w fun v w' => Ints w' v (bitsL n A)) := by
  go_enter Tryz.func148, Tryz.ntmps148
  go_wp2_with (refine wpList_mkn rfl _ _ 23 rfl slInts (Ext.refl w) rfl rfl (by omega) (by omega) (by omega) ?_; intro v1 w1 HO HX _; rw [Int.toNat_natCast, made_zeros, bits_start n A] at HO)
  go_loopw [0, 6] (fun x0 x6 wr => ∃ (m : Nat) (j : Int), m ≤ n ∧ j + m + 1 = n ∧ x6 = .int .i64 j ∧ x0 = .int .i64 ((A / 2 ^ m : Nat) : Int) ∧ wr.ownsRow w.heap.size 3 1 v1 n ((List.replicate (n - m) 0 ++ bitsL m A).map (Value.int .i64)) ∧ Ext w wr) (fun _ x6 _ => (intOf x6 + 1).toNat)
  case atStart => exact ⟨0, (n : Int) - 1, by omega, by omega, rfl, by simp, HO, HX⟩
  case round =>
    obtain ⟨m, j, hm, hj, rfl, rfl, HO1, HX1⟩ := hrel
    have hd : A / 2 ^ m ≤ 4611686018427387904 := Nat.le_trans (Nat.div_le_self _ _) hA
    by_cases hj0 : 0 ≤ j
    · obtain ⟨r, rfl⟩ := Int.eq_ofNat_of_zero_le hj0
      rw [show n - m = r + 1 by omega] at HO1
      have hix := (Sl.of_own HO1 (by omega)).run_index (P := Tryz.prog) slInts r (by omega) (by omega)
      rw [Int.toNat_natCast] at hix
      have BS := Lib.hid (bits_set r m A)
      have HD := Lib.hid (show A / 2 ^ m / 2 = A / 2 ^ (m + 1) by rw [Nat.div_div_eq_div_mul, Nat.pow_succ])
      generalize hq : A / 2 ^ m = q at *
      go_wp2_with (refine wpList_set rfl rfl _ _ 3 rfl slInts HO1 r (by omega) rfl (.int .i64 ((q : Int) % 2)) rfl rfl (by intro u hu; simp [Value.cells] at hu; subst hu; rfl) ?_; intro w2 HO2 HG2; rw [BS.out] at HO2; have HX2 := Ext.own_grown HX1 HO1 HG2)
      go_roundw
      case rel => exact ⟨m + 1, (r : Int) - 1, by omega, by omega, by go_num, by rw [← HD.out]; go_num, by rw [show n - (m + 1) = r by omega]; exact HO2, HX2⟩
      case measure => simp [intOf]
    · obtain rfl : m = n := by omega
      have HI := Lib.hid (Ints.of_own HO1)
      rw [Nat.sub_self, List.replicate_zero, List.nil_append] at HI
      go_wp2_with fail
      go_ret
      exact .mk _ rfl HX1 HI.out
end Go.Proofs.YtnhbabiccfdhmaaGreatDoor
end
