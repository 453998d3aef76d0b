/- Lists of numbers are written as bytes: contracts. -/
import Derived.Test.YthpgmjdepigihaaDoorY2
namespace Go.Att
open Go.RowKit
section
variable {α : Type} (e : α → List Int)
theorem flat_take_succ (l : List α) (i : Nat) (h : i < l.length) : (l.take (i + 1)).flatMap e = (l.take i).flatMap e ++ e l[i] := by
  rw [List.take_succ_eq_append_getElem h, List.flatMap_append]; simp
theorem flat_take_le (l : List α) (k : Nat) : ((l.take k).flatMap e).length ≤ (l.flatMap e).length := by
  conv => rhs; rw [← List.take_append_drop k l, List.flatMap_append, List.length_append]
  omega
theorem encL_len (l : List α) : (encL e l).length = (encI l.length).length + (l.flatMap e).length := by rw [encL, List.length_append]
end
end Go.Att
namespace Go.Proofs.YthpgmjdepigihaaDoor
open Go.RowKit Go.Att
set_option maxRecDepth 100000 in
set_option maxHeartbeats 2000000 in
theorem wlisti_any (w0 w : World) (hx : Ext w0 w) (v : Value) (bs : List Int) (HO : OwnB w0 w 5 v bs) (vl : Value) (l : List Int) (hl : Ints w0 vl l) (hv : ∀ x ∈ l, I64 x) (hb : bs.length + (encL encI l).length ≤ 4294967296) :
    Calls Tryd.prog 90 #[v, vl, .func (.func 35) #[] #[]] w (Wrote w0 w 5 v (bs ++ encL encI l)) := by
  have hlen := hl.len
  have hll := hl.run_len (P := Tryd.prog) slIntY
  rw [encL_len] at hb
  have H0 : I64 (l.length : Int) := by unfold I64; omega
  go_enter Tryd.func90, Tryd.ntmps90
  go_wp2_with (go_at_call 35; refine (wnum_any w0 _ hx v bs HO l.length H0 (by omega)).mono ?_; rintro _ w1 ⟨v1, rfl, HX1, HO1, HG1, HM1⟩)
  go_loopw [0, 15] (fun x0 x15 wr => ∃ (v' : Value) (i : Nat), i ≤ l.length ∧ x0 = v' ∧ x15 = .int .i64 i ∧ OwnB w0 wr 5 v' (bs ++ encI l.length ++ (l.take i).flatMap encI) ∧ Ext w0 wr ∧ w.grownBy wr v.ownBlock ∧ Moved w v v') (fun _ x15 _ => l.length - (intOf x15).toNat)
  case atStart => exact ⟨v1, 0, Nat.zero_le _, rfl, rfl, by simpa using HO1, HX1, HG1, HM1⟩
  case round =>
    obtain ⟨v', i, hi, rfl, rfl, HO2, HX2, HG2, HM2⟩ := hrel
    by_cases hil : i < l.length
    · have hix := hl.run_index (P := Tryd.prog) slIntY i hil
      have hc := (hl.ext HX2).cell i hil
      have hvi : I64 (nth l i) := by rw [nth_eq hil]; exact hv _ (List.getElem_mem hil)
      have h2 := flat_take_le encI l (i + 1)
      rw [flat_take_succ encI l i hil, ← nth_eq hil, List.length_append] at h2
      have h3 : (bs ++ encI l.length ++ (l.take i).flatMap encI).length + (encI (nth l i)).length ≤ 4294967296 := by simp only [List.length_append]; omega
      have h4 : (bs ++ encI l.length ++ (l.take i).flatMap encI) ++ encI (nth l i) = bs ++ encI l.length ++ (l.take (i + 1)).flatMap encI := by rw [flat_take_succ encI l i hil, nth_eq hil]; simp
      go_wp2_with (go_at_call 35; refine (wnum_any w0 _ HX2 _ _ HO2 (nth l i) hvi h3).mono ?_; rintro _ w3 ⟨v3, rfl, HX3, HO3, HG3, HM3⟩)
      go_roundw
      case rel => exact ⟨v3, i + 1, by omega, rfl, by go_num, by rw [← h4]; exact HO3, HX3, grown_trans HG2 HM2 HG3, HM2.trans HM3 HG2.size⟩
      case measure => simp [intOf]; omega
    · obtain rfl : i = l.length := by omega
      go_wp2_with fail
      go_ret
      exact ⟨_, rfl, HX2, by rw [List.take_length] at HO2; unfold encL; rw [← List.append_assoc]; exact HO2, HG2, HM2⟩

set_option maxRecDepth 100000 in
set_option maxHeartbeats 2000000 in
theorem wnums_any (w0 w : World) (hx : Ext w0 w) (v : Value) (bs : List Int) (HO : OwnB w0 w 5 v bs) (vl : Value) (l : List Int) (hl : Ints w0 vl l) (hv : ∀ x ∈ l, I64 x) (hb : bs.length + (encIs l).length ≤ 4294967296) :
    Calls Tryd.prog 34 #[v, vl] w (Wrote w0 w 5 v (bs ++ encIs l)) := by
  go_enter Tryd.func34, Tryd.ntmps34
  go_wp2_with (go_at_call 90; refine (wlisti_any w0 _ hx v bs HO vl l hl hv hb).mono ?_; rintro _ w1 ⟨v1, rfl, HX1, HO1, HG1, HM1⟩)
  go_ret
  exact ⟨_, rfl, HX1, HO1, HG1, HM1⟩
set_option maxRecDepth 100000 in
set_option maxHeartbeats 2000000 in
theorem wlistr_any (w0 w : World) (hx : Ext w0 w) (v : Value) (bs : List Int) (HO : OwnB w0 w 5 v bs) (vl : Value) (l : List (List Int)) (hl : Rws w0 vl l) (hv : ∀ x ∈ l, IsV x) (hb : bs.length + (encRs l).length ≤ 4294967296) :
    Calls Tryd.prog 36 #[v, vl, .func (.func 34) #[] #[]] w (Wrote w0 w 5 v (bs ++ encRs l)) := by
  obtain ⟨R, hl⟩ := hl
  have hlen := hl.len
  have hll := hl.run_len (P := Tryd.prog) slRowY
  rw [encRs, encL_len] at hb
  have H0 : I64 (l.length : Int) := by unfold I64; omega
  go_enter Tryd.func36, Tryd.ntmps36
  go_wp2_with (go_at_call 35; refine (wnum_any w0 _ hx v bs HO l.length H0 (by omega)).mono ?_; rintro _ w1 ⟨v1, rfl, HX1, HO1, HG1, HM1⟩)
  go_loopw [0, 15] (fun x0 x15 wr => ∃ (v' : Value) (i : Nat), i ≤ l.length ∧ x0 = v' ∧ x15 = .int .i64 i ∧ OwnB w0 wr 5 v' (bs ++ encI l.length ++ (l.take i).flatMap encIs) ∧ Ext w0 wr ∧ w.grownBy wr v.ownBlock ∧ Moved w v v') (fun _ x15 _ => l.length - (intOf x15).toNat)
  case atStart => exact ⟨v1, 0, Nat.zero_le _, rfl, rfl, by simpa using HO1, HX1, HG1, HM1⟩
  case round =>
    obtain ⟨v', i, hi, rfl, rfl, HO2, HX2, HG2, HM2⟩ := hrel
    by_cases hil : i < l.length
    · have hix := hl.run_index (P := Tryd.prog) slRowY i hil
      have hc := (hl.ext HX2).cell i hil
      have hvi : IsV (nthL l i) := by rw [nthL_eq hil]; exact hv _ (List.getElem_mem hil)
      have h2 := flat_take_le encIs l (i + 1)
      rw [flat_take_succ encIs l i hil, ← nthL_eq hil, List.length_append] at h2
      have h3 : (bs ++ encI l.length ++ (l.take i).flatMap encIs).length + (encIs (nthL l i)).length ≤ 4294967296 := by simp only [List.length_append]; omega
      have h4 : (bs ++ encI l.length ++ (l.take i).flatMap encIs) ++ encIs (nthL l i) = bs ++ encI l.length ++ (l.take (i + 1)).flatMap encIs := by rw [flat_take_succ encIs l i hil, nthL_eq hil]; simp
      have hr := hl.row i hil
      go_wp2_with (go_at_call 34; refine (wnums_any w0 _ HX2 _ _ HO2 (R i) (nthL l i) hr hvi.2 h3).mono ?_; rintro _ w3 ⟨v3, rfl, HX3, HO3, HG3, HM3⟩)
      go_roundw
      case rel => exact ⟨v3, i + 1, by omega, rfl, by go_num, by rw [← h4]; exact HO3, HX3, grown_trans HG2 HM2 HG3, HM2.trans HM3 HG2.size⟩
      case measure => simp [intOf]; omega
    · obtain rfl : i = l.length := by omega
      go_wp2_with fail
      go_ret
      exact ⟨_, rfl, HX2, by rw [List.take_length] at HO2; unfold encRs encL; rw [← List.append_assoc]; exact HO2, HG2, HM2⟩
end Go.Proofs.YthpgmjdepigihaaDoor
