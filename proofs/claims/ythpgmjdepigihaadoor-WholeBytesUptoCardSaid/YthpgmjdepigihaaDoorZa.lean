/- The document writes lists, openings, a voucher as bytes: contracts. -/
import Derived.Test.YthpgmjdepigihaaDoorZ2
namespace Go.Proofs.YthpgmjdepigihaaDoor
open Go.RowKit Go.Att

set_option maxRecDepth 100000 in
set_option maxHeartbeats 2000000 in
theorem bnums_any (w0 w : World) (bb : Nat) (bs : List Int) (hW : Wtr 5 w0 w bb bs) (vl : Value) (l : List Int) (hl : Ints w0 vl l) (hb : bs.length + (encIs l).length ≤ 4294967296) :
    Calls Tryd.prog 40 #[.pointer (some ⟨bb, 0, none⟩), vl] w (BWr 5 w0 w bb (bs ++ encIs l)) := by
  have hlen := hl.len
  have hll := hl.run_len (P := Tryd.prog) slIntY
  rw [show encIs l = encL encI l from rfl, encL_len] at hb
  have HR := Lib.hid (show encIs l = encI l.length ++ l.flatMap encI from rfl)
  have HW0 := Lib.hid hW; clear hW
  have HL := Lib.hid hl; clear hl
  go_enter Tryd.func40, Tryd.ntmps40
  go_wp2_with ((with_reducible refine (bnum_any w0 _ bb bs HW0.out l.length (by omega)).mono ?_); rintro _ w1 ⟨rfl, HW1, HK1⟩; have HWH := Lib.hid HW1; have HKH := Lib.hid HK1; clear HW1 HK1)
  go_loopw [4] (fun x4 wr => ∃ (i : Nat), i ≤ l.length ∧ x4 = .int .i64 i ∧ Hid (Wtr 5 w0 wr bb (bs ++ encI l.length ++ (l.take i).flatMap encI)) ∧ Hid (KeptB w wr bb)) (fun x4 _ => l.length - (intOf x4).toNat)
  case atStart => exact ⟨0, Nat.zero_le _, rfl, by simpa using HWH, HKH⟩
  case round =>
    obtain ⟨i, hi, rfl, HW2, HK2⟩ := hrel
    by_cases hil : i < l.length
    · have hix := HL.out.run_index (P := Tryd.prog) slIntY i hil
      have hc := (HL.out.ext HW2.out.ext).cell i hil
      have h2 := flat_take_le encI l (i + 1)
      rw [flat_take_succ encI l i hil, ← nth_eq hil, List.length_append] at h2
      have h3 : (bs ++ encI l.length ++ (l.take i).flatMap encI).length + (encI (nth l i)).length ≤ 4294967296 := by simp only [List.length_append]; omega
      have h4 : (bs ++ encI l.length ++ (l.take i).flatMap encI) ++ encI (nth l i) = bs ++ encI l.length ++ (l.take (i + 1)).flatMap encI := by rw [flat_take_succ encI l i hil, nth_eq hil]; simp
      have H3 := Lib.hid h3; have H4 := Lib.hid h4
      clear h2 h3 h4
      go_wp2_with ((with_reducible refine (bnum_any w0 _ bb _ HW2.out (nth l i) H3.out).mono ?_); rintro _ w3 ⟨rfl, k1, k2⟩; have HW3 := Lib.hid k1; have HK3 := Lib.hid k2; clear k1 k2)
      go_roundw
      case rel => exact ⟨i + 1, by omega, by go_num, by rw [← H4.out]; exact HW3, Lib.hid (HK2.out.trans HK3.out)⟩
      case measure => simp [intOf]; omega
    · obtain rfl : i = l.length := by omega
      go_wp2_with fail
      go_end0
      exact ⟨rfl, by have := HW2.out; rw [List.take_length] at this; rw [HR.out, ← List.append_assoc]; exact this, HK2.out⟩

set_option maxRecDepth 100000 in
set_option maxHeartbeats 2000000 in
theorem brows_any (w0 w : World) (bb : Nat) (bs : List Int) (hW : Wtr 5 w0 w bb bs) (vl : Value) (l : List (List Int)) (hl : Rws w0 vl l) (hb : bs.length + (encRs l).length ≤ 4294967296) :
    Calls Tryd.prog 42 #[.pointer (some ⟨bb, 0, none⟩), vl] w (BWr 5 w0 w bb (bs ++ encRs l)) := by
  obtain ⟨R, hl⟩ := hl
  have hlen := hl.len
  have hll := hl.run_len (P := Tryd.prog) slRowY
  rw [show encRs l = encL encIs l from rfl, encL_len] at hb
  have HR := Lib.hid (show encRs l = encI l.length ++ l.flatMap encIs from rfl)
  have HW0 := Lib.hid hW; clear hW
  have HL := Lib.hid hl; clear hl
  go_enter Tryd.func42, Tryd.ntmps42
  go_wp2_with ((with_reducible refine (bnum_any w0 _ bb bs HW0.out l.length (by omega)).mono ?_); rintro _ w1 ⟨rfl, HW1, HK1⟩; have HWH := Lib.hid HW1; have HKH := Lib.hid HK1; clear HW1 HK1)
  go_loopw [4] (fun x4 wr => ∃ (i : Nat), i ≤ l.length ∧ x4 = .int .i64 i ∧ Hid (Wtr 5 w0 wr bb (bs ++ encI l.length ++ (l.take i).flatMap encIs)) ∧ Hid (KeptB w wr bb)) (fun x4 _ => l.length - (intOf x4).toNat)
  case atStart => exact ⟨0, Nat.zero_le _, rfl, by simpa using HWH, HKH⟩
  case round =>
    obtain ⟨i, hi, rfl, HW2, HK2⟩ := hrel
    by_cases hil : i < l.length
    · have hix := HL.out.run_index (P := Tryd.prog) slRowY i hil
      have hc := (HL.out.ext HW2.out.ext).cell i hil
      have h2 := flat_take_le encIs l (i + 1)
      rw [flat_take_succ encIs l i hil, ← nthL_eq hil, List.length_append] at h2
      have h3 : (bs ++ encI l.length ++ (l.take i).flatMap encIs).length + (encIs (nthL l i)).length ≤ 4294967296 := by simp only [List.length_append]; omega
      have h4 : (bs ++ encI l.length ++ (l.take i).flatMap encIs) ++ encIs (nthL l i) = bs ++ encI l.length ++ (l.take (i + 1)).flatMap encIs := by rw [flat_take_succ encIs l i hil, nthL_eq hil]; simp
      have H3 := Lib.hid h3; have H4 := Lib.hid h4
      clear h2 h3 h4
      go_wp2_with ((with_reducible refine (bnums_any w0 _ bb _ HW2.out (R i) (nthL l i) (HL.out.row i hil) H3.out).mono ?_); rintro _ w3 ⟨rfl, k1, k2⟩; have HW3 := Lib.hid k1; have HK3 := Lib.hid k2; clear k1 k2)
      go_roundw
      case rel => exact ⟨i + 1, by omega, by go_num, by rw [← H4.out]; exact HW3, Lib.hid (HK2.out.trans HK3.out)⟩
      case measure => simp [intOf]; omega
    · obtain rfl : i = l.length := by omega
      go_wp2_with fail
      go_end0
      exact ⟨rfl, by have := HW2.out; rw [List.take_length] at this; rw [HR.out, ← List.append_assoc]; exact this, HK2.out⟩

set_option maxRecDepth 100000 in
set_option maxHeartbeats 2000000 in
theorem bopn_any (w0 w : World) (bb : Nat) (bs : List Int) (hW : Wtr 5 w0 w bb bs) (a b c : Value) (o : Opn) (ho : OpnAt w0 a b c o) (hb : bs.length + (encO o).length ≤ 4294967296) :
    Calls Tryd.prog 43 #[.pointer (some ⟨bb, 0, none⟩), .agg #[a, b, c]] w (BWr 5 w0 w bb (bs ++ encO o)) := by
  have HR := Lib.hid (show encO o = encIs o.1 ++ encRs o.2.1 ++ encRs o.2.2 from rfl)
  have hl : (encO o).length = (encIs o.1).length + (encRs o.2.1).length + (encRs o.2.2).length := by rw [HR.out, List.length_append, List.length_append]
  have HW0 := Lib.hid (hW.alloc (Obj.cells #[a, b, c] 28))
  have HA := Lib.hid (apart_new hW (Obj.cells #[a, b, c] 28))
  have HK0 := Lib.hid (KeptB.ext hW.lt (Ext.alloc w (Obj.cells #[a, b, c] 28)))
  have HC := Lib.hid (cell_new w #[a, b, c] 28)
  have H1 := Lib.hid (show bs.length + (encIs o.1).length ≤ 4294967296 by omega)
  have H2 := Lib.hid (show (bs ++ encIs o.1).length + (encRs o.2.1).length ≤ 4294967296 by rw [List.length_append]; omega)
  have H3 := Lib.hid (show (bs ++ encIs o.1 ++ encRs o.2.1).length + (encRs o.2.2).length ≤ 4294967296 by rw [List.length_append, List.length_append]; omega)
  have HO := Lib.hid ho
  have c0 : (w.alloc (Obj.cells #[a, b, c] 28)).cell? ⟨w.heap.size, 0, none⟩ = some a := HC.out 0
  clear hW hl hb ho
  go_enter Tryd.func43, Tryd.ntmps43
  go_wp2_with fail
  generalize w.alloc (Obj.cells #[a, b, c] 28) = W0 at *
  generalize w.heap.size = q at *
  (with_reducible refine (bnums_any w0 _ bb bs HW0.out a o.1 HO.out.places H1.out).mono ?_)
  rintro _ w1 ⟨rfl, k1, k2⟩
  have HW1 := Lib.hid k1; have HK1 := Lib.hid k2
  have HA1 := Lib.hid (HK1.out _ HA.out).1
  have c1 : w1.cell? ⟨q, 1, none⟩ = some b := (kept_cell HK1.out HA.out 1).trans (HC.out 1)
  clear k1 k2 c0
  go_wp2_with fail
  (with_reducible refine (brows_any w0 _ bb _ HW1.out b o.2.1 HO.out.rows H2.out).mono ?_)
  rintro _ w2 ⟨rfl, k1, k2⟩
  have HW2 := Lib.hid k1; have HK2 := Lib.hid (HK1.out.trans k2)
  have c2 : w2.cell? ⟨q, 2, none⟩ = some c := (kept_cell HK2.out HA.out 2).trans (HC.out 2)
  clear k1 k2 c1
  go_wp2_with fail
  (with_reducible refine (brows_any w0 _ bb _ HW2.out c o.2.2 HO.out.nodes H3.out).mono ?_)
  rintro _ w3 ⟨rfl, k1, k2⟩
  have HW3 := Lib.hid k1; have HK3 := Lib.hid (HK0.out.trans (HK2.out.trans k2))
  clear k1 k2 c2
  go_wp2_with fail
  go_end0
  exact ⟨rfl, by rw [HR.out, ← List.append_assoc, ← List.append_assoc]; exact HW3.out, HK3.out⟩
end Go.Proofs.YthpgmjdepigihaaDoor
