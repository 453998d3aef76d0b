/- A layer's sum, the program's side: one side of a wire. -/
import Derived.Test.YthjemncbphdomaaDoorP1
import Derived.Test.YthjemncbphdomaaDoorCf
namespace Go.Att
open Go.RowKit
theorem idx_cast {P : Program} {t : TypeId} {v r : Value} {k k' : Int} (h : ∀ w', (Instr.indexAt t v (.int .i64 k)).run P w' = .ok r w') (e : k' = k) : ∀ w', (Instr.indexAt t v (.int .i64 k')).run P w' = .ok r w' := e ▸ h
theorem fixAll_step (p : Int) (T s : List Int) {k : Nat} (h : k < s.length) : fixAll p T (s.take (k + 1)) = fixL p (fixAll p T (s.take k)) (nth s k) := by
  rw [List.take_succ_eq_append_getElem h, fixAll_snoc]
  congr 1
  simp [nth, h]
theorem and_mask : ∀ r : Nat, r < 7 → ∀ A : Nat, A < 64 → bits BinOp.and IntKind.i64 (A : Int) ((2 : Int) ^ r - 1) = ((A % 2 ^ r : Nat) : Int) := by decide +kernel
theorem vrow_two {p wd : Int} {Ls : List (List Tri)} {inp : List Int} {n i : Nat} (hE : cirErr wd Ls = 0) (hin : (inp.length : Int) = 2 ^ wd.toNat) (hi : i < Ls.length) (hn : beneath wd Ls i = n) : (vrow p Ls inp i).length = 2 ^ n := by
  have h1 := vrow_length (p := p) (Ls := Ls) hin i
  have h2 := below_pow (cirErr_ok hE).1 hi
  rw [hn, Int.toNat_natCast] at h2
  rw [h2] at h1
  exact_mod_cast h1
end Go.Att
namespace Go.Proofs.YthjemncbphdomaaDoor
open Go.RowKit Go.Att

set_option maxRecDepth 100000 in
set_option maxHeartbeats 1000000 in
theorem half_any {w : World} {bf b : Nat} {p g : Int} {fs : List Int} {wd : Int} {lv vv : Value} {Ls : List (List Tri)} {R S : Nat → Value} {inp : List Int} (hf : Fld w (.pointer (some ⟨bf, 0, none⟩)) p g fs) (hw : Wlk w b (.pointer (some ⟨bf, 0, none⟩)) wd lv vv)
    (hL : LysAt w lv Ls R) (hV : RwsAt w vv (vals p Ls inp Ls.length) S) (hE : cirErr wd Ls = 0) (hin : (inp.length : Int) = 2 ^ wd.toNat) (i : Nat) (hi : i < Ls.length) (n : Nat) (hn : beneath wd Ls i = n) (A : Nat) (hA : A < 2 ^ n) (vs : Value) (s : List Int) (hs : Ints w vs s) (hle : s.length ≤ n) :
    Calls Tryd.prog 160 #[.pointer (some ⟨b, 0, none⟩), .int .i64 i, .int .i64 A, vs] w fun e w' => e = .returned (.tuple #[.int .i64 (sh n s A % p), .int .i64 (nth (fixAll p (vrow p Ls inp i) s) (A % 2 ^ (n - s.length)))]) ∧ Ext w w' := by
  have hn6 : n ≤ 6 := by have := (beneath_bd (cirErr_ok hE).1 hi).2; omega
  have hlen8 : Ls.length ≤ 8 := (cirErr_ok hE).1.2.2.2.1
  have HT := Lib.hid (vrow_two (p := p) hE hin hi hn)
  have HN := Lib.hid hn
  have hvl : i < (vals p Ls inp Ls.length).length := by rw [vals_length]; omega
  have hix := hV.run_index (P := Tryd.prog) slRows i hvl
  have hc := hV.cell i hvl
  have hr := hV.row i hvl
  rw [vals_nth _ _ _ (by omega)] at hr
  have hls := hs.run_len (P := Tryd.prog) slInts
  have HR := Lib.hid hr; have HL := Lib.hid hL; have HS := Lib.hid hs; have C := Lib.hid hf; have HW := Lib.hid hw
  obtain ⟨ao, cap, rfl⟩ := hL.shape
  obtain ⟨c0, c1, c2, c3, -⟩ := hw
  have hA64 : A < 64 := by
    have h26 : 2 ^ n ≤ 2 ^ 6 := Nat.pow_le_pow_right (by decide) hn6
    have h27 : (2 : Nat) ^ 6 = 64 := by decide
    omega
  clear hV hE hin hn hr hL hs hf hA
  generalize vrow p Ls inp i = T at *
  go_enter Tryd.func160, Tryd.ntmps160
  go_wp2_with (go_at_call 111; refine (vars_below wd _ Ls R i _ HL.out hi).mono ?_; rw [HN.out]; rintro e w2 ⟨rfl, hx2⟩)
  clear c0 c1 c2 c3 hix hc
  go_loopw [10, 13, 31] (fun x10 _ x31 wr => ∃ k : Nat, k ≤ s.length ∧ x31 = .int .i64 k ∧ Ints wr x10 (fixAll p T (s.take k)) ∧ Ext w wr) (fun _ _ x31 _ => s.length - (intOf x31).toNat)
  case atStart => exact ⟨0, Nat.zero_le _, rfl, HR.out.ext hx2, hx2⟩
  case round =>
    obtain ⟨k, hk, rfl, hT, hx⟩ := hrel
    have HTK := Lib.hid hT; clear hT
    have d0 := (HW.out.ext hx).c0
    by_cases hks : k < s.length
    · have hix := HS.out.run_index (P := Tryd.prog) slInts k hks
      have hc := (HS.out.ext hx).cell k hks
      have ST := Lib.hid (fixAll_step p T s hks)
      have HLN := Lib.hid (fixAll_length p T (s.take k) (n - k) (by rw [HT.out, List.length_take]; congr 1; omega))
      go_wp2_with (go_at_call 201; refine (sFix_ok (C.out.ext hx) _ _ _ HTK.out (n - k) (by omega) (by omega) HLN.out).mono ?_; rintro e w3 ⟨v, rfl, hx3, u, rfl, hu⟩; have HU := Lib.hid hu; clear hu)
      go_roundw
      case rel => exact ⟨k + 1, by omega, by go_num, by rw [ST.out]; exact HU.out, hx.trans hx3⟩
      case measure => simp [intOf]; omega
    · obtain rfl : k = s.length := by omega
      rw [List.take_length] at HTK
      have HLN := Lib.hid (fixAll_length p T s (n - s.length) (by rw [HT.out]; congr 1; omega))
      obtain ⟨r, hr⟩ : ∃ r, n - s.length = r := ⟨_, rfl⟩
      have hnr : (n : Int) - s.length = (r : Nat) := by omega
      have hr6 : r < 7 := by omega
      have hm := and_mask r hr6 A hA64
      have hb2 : (1 : Int) ≤ (2 : Int) ^ r ∧ (2 : Int) ^ r ≤ 64 := by
        have : r = 0 ∨ r = 1 ∨ r = 2 ∨ r = 3 ∨ r = 4 ∨ r = 5 ∨ r = 6 := by omega
        rcases this with rfl | rfl | rfl | rfl | rfl | rfl | rfl <;> decide
      have hw1 : IntKind.i64.wrap ((2 : Int) ^ r) = (2 : Int) ^ r := IntWalk.i64_in _ (by omega)
      have hw2 : IntKind.i64.wrap ((2 : Int) ^ r - 1) = (2 : Int) ^ r - 1 := IntWalk.i64_in _ (by omega)
      have hm2 : bits BinOp.and IntKind.i64 (A : Int) (IntKind.i64.wrap (IntKind.i64.wrap ((2 : Int) ^ r) - 1)) = ((A % 2 ^ r : Nat) : Int) := by rw [hw1, hw2]; exact hm
      have hlt : A % 2 ^ r < (fixAll p T s).length := by rw [HLN.out, hr]; exact Nat.mod_lt _ (Nat.two_pow_pos r)
      have hix := HTK.out.run_index (P := Tryd.prog) slInts (A % 2 ^ r) hlt
      have hc := HTK.out.cell (A % 2 ^ r) hlt
      have hcs : ((A : Int) / 2 ^ r) = ((A / 2 ^ r : Nat) : Int) := by simp
      have hsl : s.length ≤ 30 := by omega
      have hqb : A / 2 ^ r ≤ 9223372036854775807 := by have := Nat.div_le_self A (2 ^ r); omega
      have HC := Lib.hid (C.out.ext hx); have HSX := Lib.hid (HS.out.ext hx)
      have HSH := Lib.hid (show wgt s (A / 2 ^ r) = sh n s A by unfold sh; rw [hr])
      have HRR := Lib.hid hr
      have HCS := Lib.hid hcs
      replace hix := idx_cast hix hm2
      clear hlt hr hcs hm hw1 hw2 hb2 hm2
      go_wp2_with fail
      go_quiet ((go_at_call 158; rw [HCS.out]; exact unit_q HC.out HSX.out hsl hqb _))
      go_wp2_with fail
      go_ret2
      refine ⟨?_, hx.trans (Ext.drewN wr _)⟩
      rw [HSH.out, HRR.out]
      rfl
end Go.Proofs.YthjemncbphdomaaDoor
