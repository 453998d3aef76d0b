/- Vouchers: rows that fit: plain words; the program's side: contracts. -/
import Derived.Test.YtnmjaddhbecopaaGreatDoorWv
import Derived.Test.YtnmjaddhbecopaaGreatDoorGr
import Derived.Test.YtnmjaddhbecopaaGreatDoorZx9
import Derived.Test.YtnmjaddhbecopaaGreatDoorZx11
import Derived.Test.YtnmjaddhbecopaaGreatDoorZx4
namespace Go.Att
open Go.RowKit
/-- Do so many rows fit a field and so many instructions? -/
def rowsB (p n : Int) (l : Nat) : Bool := twoB n && decide (4 ≤ n) && decide (n ≤ 512) && decide ((p - 1) % (8 * n) = 0) && decide (8 * n < p - 1) && decide (1 ≤ l) && decide (l ≤ 64) && decide ((l : Int) ≤ p)
structure FitOk (p n : Int) (l K : Nat) : Prop where
  two : n = (2 : Int) ^ K
  lo : 2 ≤ K
  hi : K ≤ 9
  div : (p - 1) % (8 * n) = 0
  lt : 8 * n < p - 1
  l1 : 1 ≤ l
  l64 : l ≤ 64
  lp : (l : Int) ≤ p
theorem rowsB_ok {p n : Int} {l : Nat} (h : rowsB p n l = true) : ∃ K, FitOk p n l K := by
  simp only [rowsB, Bool.and_eq_true, decide_eq_true_eq] at h
  obtain ⟨⟨⟨⟨⟨⟨⟨h1, h2⟩, h3⟩, h4⟩, h5⟩, h6⟩, h7⟩, h8⟩ := h
  simp only [twoB, twoUp, List.any_eq_true, List.mem_range, beq_iff_eq] at h1
  obtain ⟨k, hk, rfl⟩ := h1
  have e : ((2 ^ k : Nat) : Int) = (2 : Int) ^ k := by norm_cast
  refine ⟨k, rfl, ?_, ?_, h4, h5, h6, h7, h8⟩
  · apply Classical.byContradiction
    intro hc
    have : 2 ^ k ≤ 2 ^ 1 := Nat.pow_le_pow_right (by decide) (by omega)
    omega
  · apply Classical.byContradiction
    intro hc
    have : 2 ^ 10 ≤ 2 ^ k := Nat.pow_le_pow_right (by decide) (by omega)
    omega
namespace FitOk
variable {p n : Int} {l K : Nat}
theorem eight (h : FitOk p n l K) : 8 * n = (2 : Int) ^ (K + 3) := by rw [h.two, Int.pow_succ, Int.pow_succ, Int.pow_succ]; omega
theorem nat (h : FitOk p n l K) : n = ((2 ^ K : Nat) : Int) := by rw [h.two]; norm_cast
theorem bd (h : FitOk p n l K) : 4 ≤ n ∧ n ≤ 512 := by
  have h1 : 2 ^ 2 ≤ 2 ^ K := Nat.pow_le_pow_right (by decide) h.lo
  have h2 : 2 ^ K ≤ 2 ^ 9 := Nat.pow_le_pow_right (by decide) h.hi
  have := h.nat
  omega
theorem isTwo (h : FitOk p n l K) : twoB n = true := by
  simp only [twoB, twoUp, List.any_eq_true, List.mem_range, beq_iff_eq]
  exact ⟨K, by have := h.hi; omega, h.two.symm⟩
theorem isTwo8 (h : FitOk p n l K) : twoB (8 * n) = true := by
  simp only [twoB, twoUp, List.any_eq_true, List.mem_range, beq_iff_eq]
  exact ⟨K + 3, by have := h.hi; omega, h.eight.symm⟩
theorem div1 (h : FitOk p n l K) : (p - 1) % n = 0 := by
  have h1 := Int.dvd_of_emod_eq_zero h.div
  exact Int.emod_eq_zero_of_dvd (Int.dvd_trans ⟨8, by rw [Int.mul_comm]⟩ h1)
theorem dom1 (h : FitOk p n l K) : domErr p n 1 = 0 := domErr_zero ⟨h.isTwo, h.div1⟩ (by
  have := h.lt; have := h.bd
  unfold fof; rw [one_mod (by omega)]; decide)
theorem dom8 (h : FitOk p n l K) {g : Int} (h1 : 1 ≤ g) (h2 : g < p) : domErr p (8 * n) g = 0 := domErr_zero ⟨h.isTwo8, h.div⟩ (by
  unfold fof; rw [Int.emod_eq_of_lt (by omega) h2]; omega)
theorem of (h : FitOk p n l K) : rowsB p n l = true := by
  have := h.bd
  simp only [rowsB, Bool.and_eq_true, decide_eq_true_eq]
  exact ⟨⟨⟨⟨⟨⟨⟨h.isTwo, this.1⟩, this.2⟩, h.div⟩, h.lt⟩, h.l1⟩, h.l64⟩, h.lp⟩
end FitOk
theorem root_unit {p r : Int} (hp3 : 3 ≤ p) {m : Nat} (h : r ^ (2 ^ m) % p = (-1) % p) : ¬ p ∣ r := by
  intro hd
  obtain ⟨c, rfl⟩ := hd
  obtain ⟨q, hq⟩ : ∃ q, 2 ^ m = q + 1 := ⟨2 ^ m - 1, by have : 1 ≤ 2 ^ m := Nat.one_le_two_pow; omega⟩
  rw [hq, Int.pow_succ, show (p * c) ^ q * (p * c) = p * ((p * c) ^ q * c) by rw [Int.mul_left_comm], Int.mul_emod_right] at h
  have : (-1 : Int) % p = p - 1 := by
    rw [← Int.add_mul_emod_self_right (-1) 1 p, Int.one_mul, Int.emod_eq_of_lt (by omega) (by omega)]; omega
  omega
end Go.Att
namespace Go.Proofs.YtnmjaddhbecopaaGreatDoor
open Go.RowKit Go.Att
/-- A column at the points of the wide circle. -/
def wideL (p g n : Int) (K : Nat) (l : List Int) : List Int := valsL p g (froot p g (8 * n)) (2 ^ (K + 3)) (trimL p (cofL p (froot p g n) K n 1 l))
theorem wideL_length (p g n : Int) (K : Nat) (l : List Int) : (wideL p g n K l).length = 2 ^ (K + 3) := valsL_length _ _ _ _ _
/-- All columns, at a point. -/
def wideR (p g n : Int) (K W : Nat) (L : List (List Int)) (i : Nat) : List Int := (List.range W).map fun j => nth (wideL p g n K (colL L j)) i
theorem wideR_length (p g n : Int) (K W : Nat) (L : List (List Int)) (i : Nat) : (wideR p g n K W L i).length = W := by simp [wideR]
/-- The circles of a number of rows. -/
structure PlcAt (w : World) (v : Value) (bf : Nat) (p g sz n : Int) (cd : List In4) (lv dr dw : Value) : Prop where
  cells : ∃ b, v = .pointer (some ⟨b, 0, none⟩) ∧ w.cell? ⟨b, 0, none⟩ = some (.pointer (some ⟨bf, 0, none⟩)) ∧ w.cell? ⟨b, 1, none⟩ = some (.int .i64 sz) ∧ w.cell? ⟨b, 2, none⟩ = some lv ∧ w.cell? ⟨b, 3, none⟩ = some (.int .i64 n) ∧ w.cell? ⟨b, 4, none⟩ = some dr ∧ w.cell? ⟨b, 5, none⟩ = some dw
  rows : DomOf w dr (.pointer (some ⟨bf, 0, none⟩)) n 1 (froot p g n)
  wide : DomOf w dw (.pointer (some ⟨bf, 0, none⟩)) (8 * n) g (froot p g (8 * n))
  code : Inqs w lv cd
  fld : FieldOf w (.pointer (some ⟨bf, 0, none⟩)) p g
theorem PlcAt.ext {w w' : World} {v : Value} {bf : Nat} {p g sz n : Int} {cd : List In4} {lv dr dw : Value} (h : PlcAt w v bf p g sz n cd lv dr dw) (hx : Ext w w') : PlcAt w' v bf p g sz n cd lv dr dw := by
  obtain ⟨⟨b, h1, h2, h3, h4, h5, h6, h7⟩, h8, h9, ha, hb⟩ := h
  exact ⟨⟨b, h1, hx.cell h2, hx.cell h3, hx.cell h4, hx.cell h5, hx.cell h6, hx.cell h7⟩, h8.ext hx, h9.ext hx, ha.ext hx, hb.ext hx⟩
set_option maxHeartbeats 1000000 in
theorem gen_any {w : World} {f : Value} {p g : Int} {fs : List Int} (hf : Fld w f p g fs) : Calls Tryz.prog 141 #[f] w (Rd w (.int .i64 g)) := by
  obtain ⟨⟨b', v, rfl, -, -, -, hc⟩, -, -, -⟩ := hf
  go_enter Tryz.func141, Tryz.ntmps141
  go_wp2
  go_ret
  exact .same rfl
set_option maxRecDepth 100000 in
set_option maxHeartbeats 4000000 in
theorem fit_no {w : World} {f : Value} {p g : Int} {fs : List Int} (hf : Fld w f p g fs) (sz n : Int) (lv : Value) (cd : List In4) (hc : Inqs w lv cd) (hs : cd.length ≤ 1048576) (hB : rowsB p n cd.length = false) :
    Calls Tryz.prog 70 #[f, .agg #[.int .i64 sz, lv], .int .i64 n] w fun e w' => e = .returned (.tuple #[.pointer none, .bool false]) ∧ Ext w w' := by
  have lo := hf.lo; have hi := hf.hi
  have hll := hc.run_len (P := Tryz.prog) slIns
  obtain ⟨al, cl, rfl⟩ := hc.shape
  have C := Lib.hid hf
  have HX := Lib.hid (Ext.alloc w (Obj.cells #[.int .i64 sz, .slice al cd.length cl] 48))
  clear hf hc
  by_cases h1 : n < 4
  · clear hB
    go_enter Tryz.func70, Tryz.ntmps70
    go_wp2_with fail
    go_ret2
    exact ⟨rfl, HX.out⟩
  by_cases h2 : 512 < n
  · clear hB
    go_enter Tryz.func70, Tryz.ntmps70
    go_wp2_with fail
    go_ret2
    exact ⟨rfl, HX.out⟩
  by_cases h3 : twoB n = true
  rotate_left
  · have hm : (bits BinOp.and IntKind.i64 n (n - 1) != 0) = true := by rw [twoB_iff (by omega) (by omega)]; simp [h3]
    clear hB h3
    go_enter Tryz.func70, Tryz.ntmps70
    go_wp2_with fail
    go_ret2
    exact ⟨rfl, HX.out⟩
  have hm : (bits BinOp.and IntKind.i64 n (n - 1) != 0) = false := by rw [twoB_iff (by omega) (by omega), h3]; rfl
  by_cases h4 : (p - 1) % (8 * n) = 0
  rotate_left
  · have hdb : ((p - 1) % (8 * n) != 0) = true := by rw [bne_iff_ne]; exact h4
    clear hB h3 h4
    go_enter Tryz.func70, Tryz.ntmps70
    go_wp2_with (go_at_call 119; first | (refine (p_any (C.out.ext HX.out)).mono ?_; rintro e w' ⟨rfl, m, rfl⟩) | (refine (p_any ((C.out.ext HX.out).drewN _)).mono ?_; rintro e w' ⟨rfl, m2, rfl⟩))
    go_ret2
    exact ⟨rfl, HX.out.trans (Ext.drewN _ _)⟩
  have hdb : ((p - 1) % (8 * n) != 0) = false := by rw [bne_eq_false_iff_eq]; exact h4
  by_cases h5 : p - 1 ≤ 8 * n
  · clear hB h3 h4
    go_enter Tryz.func70, Tryz.ntmps70
    go_wp2_with (go_at_call 119; first | (refine (p_any (C.out.ext HX.out)).mono ?_; rintro e w' ⟨rfl, m, rfl⟩) | (refine (p_any ((C.out.ext HX.out).drewN _)).mono ?_; rintro e w' ⟨rfl, m2, rfl⟩))
    go_ret2
    exact ⟨rfl, HX.out.trans (Ext.drewN _ _)⟩
  by_cases h6 : (cd.length : Int) < 1
  · clear hB h3 h4
    go_enter Tryz.func70, Tryz.ntmps70
    go_wp2_with (go_at_call 119; first | (refine (p_any (C.out.ext HX.out)).mono ?_; rintro e w' ⟨rfl, m, rfl⟩) | (refine (p_any ((C.out.ext HX.out).drewN _)).mono ?_; rintro e w' ⟨rfl, m2, rfl⟩))
    go_ret2
    exact ⟨rfl, HX.out.trans (Ext.drewN _ _)⟩
  by_cases h7 : (64 : Int) < cd.length
  · clear hB h3 h4
    go_enter Tryz.func70, Tryz.ntmps70
    go_wp2_with (go_at_call 119; first | (refine (p_any (C.out.ext HX.out)).mono ?_; rintro e w' ⟨rfl, m, rfl⟩) | (refine (p_any ((C.out.ext HX.out).drewN _)).mono ?_; rintro e w' ⟨rfl, m2, rfl⟩))
    go_ret2
    exact ⟨rfl, HX.out.trans (Ext.drewN _ _)⟩
  by_cases h8 : p < (cd.length : Int)
  · clear hB h3 h4
    go_enter Tryz.func70, Tryz.ntmps70
    go_wp2_with (go_at_call 119; first | (refine (p_any (C.out.ext HX.out)).mono ?_; rintro e w' ⟨rfl, m, rfl⟩) | (refine (p_any ((C.out.ext HX.out).drewN _)).mono ?_; rintro e w' ⟨rfl, m2, rfl⟩))
    go_ret2
    exact ⟨rfl, HX.out.trans (Ext.drewN _ _)⟩
  exfalso
  rw [show rowsB p n cd.length = true by
    simp only [rowsB, Bool.and_eq_true, decide_eq_true_eq]
    exact ⟨⟨⟨⟨⟨⟨⟨h3, by omega⟩, by omega⟩, h4⟩, by omega⟩, by omega⟩, by omega⟩, by omega⟩] at hB
  cases hB
set_option maxRecDepth 100000 in
set_option maxHeartbeats 4000000 in
theorem fit_ok {w : World} {bf : Nat} {p g : Int} (hf : FieldOf w (.pointer (some ⟨bf, 0, none⟩)) p g) (sz n : Int) (lv : Value) (cd : List In4) (hc : Inqs w lv cd) {K : Nat} (hB : FitOk p n cd.length K) :
    Calls Tryz.prog 70 #[.pointer (some ⟨bf, 0, none⟩), .agg #[.int .i64 sz, lv], .int .i64 n] w (Gives w fun v w' => ∃ pl dr dw, v = .tuple #[pl, .bool true] ∧ PlcAt w' pl bf p g sz n cd lv dr dw) := by
  obtain ⟨fs, hf1⟩ := hf.fld
  have lo := hf1.lo; have hi := hf1.hi
  have hg1 := hf.lo; have hg2 := hf.hi
  have hll := hc.run_len (P := Tryz.prog) slIns
  obtain ⟨al, cl, rfl⟩ := hc.shape
  have C := Lib.hid hf1
  have HF := Lib.hid hf
  have HC := Lib.hid hc
  have HX := Lib.hid (Ext.alloc w (Obj.cells #[.int .i64 sz, .slice al cd.length cl] 48))
  have HB := Lib.hid hB
  have hbd := hB.bd
  have hl1 := hB.l1; have hl2 := hB.l64; have hl3 := hB.lp; have h5 := hB.lt
  have hm : (bits BinOp.and IntKind.i64 n (n - 1) != 0) = false := by rw [twoB_iff (by omega) (by omega), hB.isTwo]; rfl
  have hdb : ((p - 1) % (8 * n) != 0) = false := by rw [bne_eq_false_iff_eq]; exact hB.div
  have HF1 := Lib.hid (show fof p 1 = 1 by unfold fof; exact one_mod (by omega))
  have HFG := Lib.hid (show fof p g = g by unfold fof; exact Int.emod_eq_of_lt (by omega) hg2)
  clear hf hf1 hc hB
  go_enter Tryz.func70, Tryz.ntmps70
  go_wp2_with (go_at_call 119; first | (refine (p_any (C.out.ext HX.out)).mono ?_; rintro e w' ⟨rfl, m, rfl⟩) | (refine (p_any ((C.out.ext HX.out).drewN _)).mono ?_; rintro e w' ⟨rfl, m2, rfl⟩))
  refine (dnew_ok (HF.out.ext (HX.out.trans (Ext.drewN _ _))) n 1 HB.out.dom1).mono ?_
  rintro e w2 ⟨v, rfl, hx2, d1, rfl, hd1⟩
  obtain ⟨b1, rfl⟩ := hd1.ptr
  rw [HF1.out] at hd1
  have HD1 := Lib.hid hd1
  have HX2 := Lib.hid ((HX.out.trans (Ext.drewN _ _)).trans hx2)
  have e0 := hx2.cell ((Ext.drewN _ _).cell (BlkOf.new w [.int .i64 sz, .slice al cd.length cl] 48 |>.cell 0))
  have e1 := hx2.cell ((Ext.drewN _ _).cell (BlkOf.new w [.int .i64 sz, .slice al cd.length cl] 48 |>.cell 1))
  clear hd1 hx2 hm hdb
  go_wp2_with (go_at_call 141; refine (gen_any (C.out.ext HX2.out)).mono ?_; rintro e w' ⟨rfl, m3, rfl⟩)
  refine (dnew_ok (HF.out.ext (HX2.out.trans (Ext.drewN _ _))) (8 * n) g (HB.out.dom8 hg1 hg2)).mono ?_
  rintro e w3 ⟨v, rfl, hx3, d2, rfl, hd2⟩
  obtain ⟨b2, rfl⟩ := hd2.ptr
  rw [HFG.out] at hd2
  have HD2 := Lib.hid hd2
  have HX3 := Lib.hid ((Ext.drewN _ _).trans hx3)
  replace e0 := HX3.out.cell e0
  replace e1 := HX3.out.cell e1
  clear hd2 hx3
  go_wp2_with fail
  go_ret2
  refine .mk _ rfl ((HX2.out.trans HX3.out).trans (Ext.alloc _ _)) ⟨_, _, _, rfl, ⟨_, rfl, by rw [cell_new]; rfl, by rw [cell_new]; rfl, by rw [cell_new]; rfl, by rw [cell_new]; rfl, by rw [cell_new]; rfl, by rw [cell_new]; rfl⟩, ?_, ?_, ?_, ?_⟩
  · exact HD1.out.ext (HX3.out.trans (Ext.alloc _ _))
  · exact HD2.out.ext (Ext.alloc _ _)
  · exact HC.out.ext ((HX2.out.trans HX3.out).trans (Ext.alloc _ _))
  · exact HF.out.ext ((HX2.out.trans HX3.out).trans (Ext.alloc _ _))
end Go.Proofs.YtnmjaddhbecopaaGreatDoor
