/- WholeComposes: have rows and a last column the right sizes? The law's own helper: contract. -/
import Derived.Test.YtnmjaddhbecopaaGreatDoorXd
namespace Go.Proofs.YtnmjaddhbecopaaGreatDoor
open Go.RowKit Go.Att
/-- The rows so far. -/
def shapeU (b : Bool) (cd : List In4) (L : List (List Int)) (i : Nat) : Bool := b && !((L.take i).any fun r => r.length != 20 + cd.length)
theorem shapeU_zero (b : Bool) (cd : List In4) (L : List (List Int)) : shapeU b cd L 0 = b := by simp [shapeU]
theorem shapeU_succ (b : Bool) (cd : List In4) (L : List (List Int)) {i : Nat} (h : i < L.length) : shapeU b cd L (i + 1) = (shapeU b cd L i && ((nthL L i).length == 20 + cd.length)) := by
  unfold shapeU
  rw [List.take_succ_eq_append_getElem h, List.any_append, ← nthL_eq h]
  simp only [List.any_cons, List.any_nil, Bool.or_false, Bool.not_or, bne, Bool.not_not, Bool.and_assoc]
theorem shapeU_all (b : Bool) (cd : List In4) (L : List (List Int)) : shapeU b cd L L.length = (b && !wrongB cd L) := by unfold shapeU wrongB; rw [List.take_length]
set_option maxRecDepth 100000 in
set_option maxHeartbeats 8000000 in
theorem shape_any (p sz : Int) (lv v vz : Value) (cd : List In4) (L : List (List Int)) (zs : List Int) (w : World) (hp : 3 ≤ p) (hp2 : p ≤ 2147483647) (hc : Inqs w lv cd) (hs : cd.length ≤ 1048576) (hv : Rws w v L) (hz : Ints w vz zs) (hLs : L.length ≤ 1048576) :
    Calls Tryz.prog 24 #[.int .i64 p, .agg #[.int .i64 sz, lv], v, vz] w fun e w' => e = .returned (.bool (sizesB p cd L zs)) ∧ Ext w w' := by
  obtain ⟨R, hv⟩ := hv
  have hll := hc.run_len (P := Tryz.prog) slIns
  have hlr := hv.run_len (P := Tryz.prog) slRowsK
  have hlz := hz.run_len (P := Tryz.prog) slInts
  have hzl := hz.len
  obtain ⟨al, cl, rfl⟩ := hc.shape
  have HC := Lib.hid hc; have HV := Lib.hid hv
  have HX := Lib.hid (Ext.alloc w (Obj.cells #[.int .i64 sz, .slice al cd.length cl] 48))
  have HBK := Lib.hid (BlkOf.new w [.int .i64 sz, .slice al cd.length cl] 48)
  have b0 : (w.alloc (Obj.cells #[.int .i64 sz, .slice al cd.length cl] 48)).cell? ⟨w.heap.size, 0, none⟩ = some (.int .i64 sz) := HBK.out.cell 0
  have b1 : (w.alloc (Obj.cells #[.int .i64 sz, .slice al cd.length cl] 48)).cell? ⟨w.heap.size, 1, none⟩ = some (.slice al cd.length cl) := HBK.out.cell 1
  clear hv hz hc
  go_enter Tryz.func24, Tryz.ntmps24
  go_wp2_with fail
  refine (dfits_any p sz _ _ cd _ (HC.out.ext HX.out) hp hp2).mono ?_
  rintro e w2 ⟨rfl, hx2⟩
  have HX2 := Lib.hid (HX.out.trans hx2)
  have HB2 := Lib.hid (HBK.out.ext hx2)
  have HSB := Lib.hid (show sizesB p cd L zs = (rowsB p L.length cd.length && !wrongB cd L && (zs.length == L.length)) from rfl)
  generalize rowsB p L.length cd.length = rb at *
  generalize hq : w.heap.size = q at *
  clear hq hx2 b0 b1 HBK HX
  go_wp2_with fail
  go_loopw [9, 10] (fun x9 x10 wr => ∃ i : Nat, i ≤ L.length ∧ x10 = .int .i64 i ∧ x9 = .bool (shapeU rb cd L i) ∧ Hid (Ext w2 wr)) (fun _ x10 _ => L.length - (intOf x10).toNat)
  case atStart => exact ⟨0, by omega, rfl, by rw [shapeU_zero], Lib.hid (Ext.refl _)⟩
  case round =>
    obtain ⟨i, hi, rfl, rfl, HXR⟩ := hrel
    by_cases hil : i < L.length
    · have hix := HV.out.run_index (P := Tryz.prog) slRowsK i hil
      have hci := (HX2.out.trans HXR.out).cell (HV.out.cell i hil)
      have hri := (HV.out.row i hil).run_len (P := Tryz.prog) slInts
      have hlen := (HV.out.row i hil).len
      have d1 : wr.cell? ⟨q, 1, none⟩ = some (.slice al cd.length cl) := (HB2.out.ext HXR.out).cell 1
      have HS := Lib.hid (shapeU_succ rb cd L hil)
      have HE := Lib.hid (show (((nthL L i).length : Int) == 20 + (cd.length : Int)) = ((nthL L i).length == 20 + cd.length) from by
        rw [Bool.eq_iff_iff, beq_iff_eq, beq_iff_eq]; omega)
      generalize shapeU rb cd L i = sb at *
      generalize (nthL L i).length = ln at *
      cases sb
      · go_wp2_with fail
        go_quiet ((fail))
        go_wp2_with fail
        go_roundw
        case rel => exact ⟨i + 1, by omega, by go_num, by rw [HS.out]; rfl, Lib.hid (HXR.out.trans (Ext.drewN _ nq))⟩
        case measure => simp [intOf]; omega
      · go_wp2_with fail
        go_quiet ((fail))
        go_wp2_with fail
        go_roundw
        case rel => exact ⟨i + 1, by omega, by go_num, by rw [HS.out, ← HE.out]; rfl, Lib.hid (HXR.out.trans (Ext.drewN _ nq))⟩
        case measure => simp [intOf]; omega
    · obtain rfl : i = L.length := by omega
      have HU := Lib.hid (shapeU_all rb cd L)
      have HE := Lib.hid (show ((zs.length : Int) == (L.length : Int)) = (zs.length == L.length) from by
        rw [Bool.eq_iff_iff, beq_iff_eq, beq_iff_eq]; omega)
      generalize shapeU rb cd L L.length = sb at *
      cases sb
      · go_wp2_with fail
        go_ret
        exact ⟨ret_bool (by rw [HSB.out, ← HU.out]; rfl), HX2.out.trans HXR.out⟩
      · go_wp2_with fail
        go_ret
        exact ⟨ret_bool (by rw [HSB.out, ← HU.out, ← HE.out]; rfl), HX2.out.trans HXR.out⟩
end Go.Proofs.YtnmjaddhbecopaaGreatDoor
