/- RulesBroken: the document's side: the first rule that does not hold: rows of another shape. -/
import Derived.Test.YtionlicgaifblaaDoorKh
import Derived.Test.YtionlicgaifblaaDoorKb
import Derived.Test.YtionlicgaifblaaDoorKi
namespace Go.Proofs.YtionlicgaifblaaDoor
open Go.RowKit Go.Att
theorem slRowsK : SlT Tryd.prog 25 64 1 24 (.slice none 0 0) := .mk' Tryd.underlying25 (by kernel_rfl) (by decide)
set_option maxRecDepth 100000 in
set_option maxHeartbeats 4000000 in
theorem dbroken_none (p sz out : Int) (lv v : Value) (cd : List In4) (w : World) (_hc : Inqs w lv cd) (hv : Rws w v []) : Calls Tryd.prog 10 #[.int .i64 p, .agg #[.int .i64 sz, lv], .int .i64 out, v] w fun e w' => BrkGot p sz out cd [] e ∧ Ext w w' := by
  obtain ⟨R, hv⟩ := hv
  have hlr : ∀ (ty : TypeId) (w' : World), (Builtin.len_ #[25] ty #[v]).run Tryd.prog w' = .ok (.int .i64 0) w' := fun ty w' => hv.run_len (P := Tryd.prog) slRowsK ty w'
  have HSH := Lib.hid (shapeB_nil (cd := cd) (L := []) (.inl rfl))
  have HB := Lib.hid (bx_new w (.int .i64 sz) lv (.int .i64 0) (.int .i64 0) 24 31)
  clear hv _hc
  go_enter Tryd.func10, Tryd.ntmps10
  go_wp2_with fail
  have HW := Lib.hid HB.out.2.2
  have HR := HB.out.2.1
  generalize (w.alloc (Obj.cells #[.int .i64 sz, lv] 24)).alloc (Obj.cells #[.int .i64 0, .int .i64 0] 31) = W at *
  clear HB
  go_loop [9, 10] (fun x9 x10 => x9 = .bool true ∧ x10 = .int .i64 0) (fun _ _ => 0)
  case atStart => exact ⟨rfl, rfl⟩
  case round =>
    obtain ⟨rfl, rfl⟩ := hrel
    have HRR := Lib.hid HR
    obtain ⟨c0, c1, f0, f1⟩ := HR
    go_wp2_with fail
    have HF := Lib.hid (HRR.out.both HW.out (show w.heap.size ≤ w.heap.size + 1 by omega) (.int .i64 (-2)) (.int .i64 0))
    generalize ((W.setCell ⟨w.heap.size + 1, 0, none⟩ (.int .i64 (-2))).setCell ⟨w.heap.size + 1, 1, none⟩ (.int .i64 0)) = W2 at *
    have k0 := HF.out.1.c0
    have k1 := HF.out.1.c1
    refine bodyPost_ret (v := .agg #[.int .i64 (-2), .int .i64 0]) ?_ rfl ⟨.inl ⟨HSH.out, rfl⟩, HF.out.2⟩
    simp [results, Tryd.results10, go_sem, k0, k1]
set_option maxRecDepth 100000 in
set_option maxHeartbeats 4000000 in
theorem dbroken_zero (p sz out : Int) (lv v : Value) (L : List (List Int)) (w : World) (hc : Inqs w lv []) (hv : Rws w v L) (hN : L.length ≤ 1048576) (h0 : 0 < L.length) : Calls Tryd.prog 10 #[.int .i64 p, .agg #[.int .i64 sz, lv], .int .i64 out, v] w fun e w' => BrkGot p sz out [] L e ∧ Ext w w' := by
  obtain ⟨R, hv⟩ := hv
  have hll : ∀ (ty : TypeId) (w' : World), (Builtin.len_ #[22] ty #[lv]).run Tryd.prog w' = .ok (.int .i64 0) w' := fun ty w' => hc.run_len (P := Tryd.prog) slIns ty w'
  have hlr := hv.run_len (P := Tryd.prog) slRowsK
  have HSH := Lib.hid (shapeB_nil (cd := []) (L := L) (.inr rfl))
  have HB := Lib.hid (bx_new w (.int .i64 sz) lv (.int .i64 0) (.int .i64 0) 24 31)
  have hz : ((L.length : Int) == 0) = false := beq_eq_false_iff_ne.2 (by omega)
  clear hv hc
  go_enter Tryd.func10, Tryd.ntmps10
  go_wp2_with fail
  have HW := Lib.hid HB.out.2.2
  have HR := Lib.hid HB.out.2.1
  generalize (w.alloc (Obj.cells #[.int .i64 sz, lv] 24)).alloc (Obj.cells #[.int .i64 0, .int .i64 0] 31) = W at *
  clear HB hz
  go_loopw [9, 10] (fun x9 x10 wr => ∃ i : Nat, i ≤ L.length ∧ x10 = .int .i64 i ∧ x9 = .bool true ∧ Hid (Ext W wr)) (fun _ x10 _ => L.length - (intOf x10).toNat)
  case atStart => exact ⟨0, by omega, rfl, rfl, Lib.hid (Ext.refl _)⟩
  case round =>
    obtain ⟨i, hi, rfl, rfl, HX⟩ := hrel
    by_cases hil : i < L.length
    · go_wp2_with fail
      go_quiet (fail)
      go_wp2_with fail
      go_roundw
      case rel => exact ⟨i + 1, by omega, by go_num, rfl, Lib.hid (HX.out.trans (Ext.drewN _ _))⟩
      case measure => simp [intOf]; omega
    · obtain rfl : i = L.length := by omega
      have HRR := Lib.hid (HR.out.ext HX.out)
      have HWX := Lib.hid (HW.out.trans HX.out)
      obtain ⟨c0, c1, f0, f1⟩ := HRR.out
      clear HX HR HW
      go_wp2_with fail
      have HF := Lib.hid (HRR.out.both HWX.out (show w.heap.size ≤ w.heap.size + 1 by omega) (.int .i64 (-2)) (.int .i64 0))
      generalize ((wr.setCell ⟨w.heap.size + 1, 0, none⟩ (.int .i64 (-2))).setCell ⟨w.heap.size + 1, 1, none⟩ (.int .i64 0)) = W2 at *
      have k0 := HF.out.1.c0
      have k1 := HF.out.1.c1
      refine bodyPost_ret (v := .agg #[.int .i64 (-2), .int .i64 0]) ?_ rfl ⟨.inl ⟨HSH.out, rfl⟩, HF.out.2⟩
      simp [results, Tryd.results10, go_sem, k0, k1]
end Go.Proofs.YtionlicgaifblaaDoor
