/- RulesBroken: the program's side: sums over all instructions. -/
import Derived.Test.YtnmjaddhbecopaaGreatDoorZx5
import Derived.Test.YtnmjaddhbecopaaGreatDoorKo
import Derived.Deep.RegionHeld3
import Derived.Deep.DrawnRows
attribute [local go_sem ↓] Go.wp_at_zero Go.wp_at_succ
namespace Go.Proofs.YtnmjaddhbecopaaGreatDoor
open Go.RowKit Go.Att
section
variable {w : World} {q : Nat} {f : Value} {p g : Int} {fs : List Int} {sz out : Int} {cd : List In4} {lv rv nv : Value} {r n : List Int}
set_option maxRecDepth 100000 in
set_option maxHeartbeats 4000000 in
theorem jsum_one (h : JAt w q f p g fs sz out cd lv rv nv r n) (hs : cd.length ≤ 1048576) : Calls Tryz.prog 183 #[.pointer (some ⟨q, 0, none⟩), .func (.func 184) #[] #[]] w fun e w' => e = .returned (.int .i64 (sumK p r cd oneK cd.length)) ∧ Ext w w' := by
  have hll := h.code.run_len (P := Tryz.prog) slIns
  have hlr := h.lr
  have HJ := Lib.hid h
  have c2 := h.c2
  clear h
  go_enter Tryz.func183, Tryz.ntmps183
  go_wp2_with fail
  clear c2
  go_loopw [5, 14] (fun x5 x14 wr => ∃ i : Nat, i ≤ cd.length ∧ x14 = .int .i64 i ∧ x5 = .int .i64 (sumK p r cd oneK i) ∧ Hid (Ext w wr)) (fun _ x14 _ => cd.length - (intOf x14).toNat)
  case atStart => exact ⟨0, Nat.zero_le _, rfl, rfl, Lib.hid (Ext.refl _)⟩
  case round =>
    obtain ⟨i, hi, rfl, rfl, HX⟩ := hrel
    by_cases hil : i < cd.length
    · have hix := HJ.out.code.run_index (P := Tryz.prog) slIns i hil
      have hri : ∀ w', (Instr.indexAt 23 rv (.int .i64 (20 + (i : Int)))).run Tryz.prog w' = .ok (.pointer (some (elt rv (20 + i) 1))) w' := by
        intro w'
        have := HJ.out.row.run_index (P := Tryz.prog) slInts (20 + i) (by omega) w'
        simpa using this
      have e0 := HX.out.cell (HJ.out.code.c0 i hil)
      have e1 := HX.out.cell (HJ.out.code.c1 i hil)
      have e2 := HX.out.cell (HJ.out.code.c2 i hil)
      have e3 := HX.out.cell (HJ.out.code.c3 i hil)
      have HC : Hid (∀ w', Ext w w' → Calls Tryz.prog 184 (#[] ++ #[.int .i64 i, .agg #[.int .i64 (nthI cd i).op, .int .i64 (nthI cd i).a, .int .i64 (nthI cd i).b, .int .i64 (nthI cd i).c]] ++ #[]) w' fun e w'' => e = .returned (.int .i64 (oneK i (nthI cd i))) ∧ Ext w' w'') := Lib.hid (fun w' HE => (pone_any _ _))
      have HS := Lib.hid (show sumK p r cd oneK (i + 1) = fadd p (sumK p r cd oneK i) (fmul p (nth r (20 + i)) (oneK i (nthI cd i))) from rfl)
      generalize sumK p r cd oneK i = s at *
      generalize nthI cd i = x at *
      generalize oneK i x = y' at *
      go_wp2_with fail
      have HXb := Lib.hid (HX.out.trans (Ext.alloc wr (Obj.cells #[.int .i64 x.op, .int .i64 x.a, .int .i64 x.b, .int .i64 x.c] 169)))
      have b0 : (wr.alloc (Obj.cells #[.int .i64 x.op, .int .i64 x.a, .int .i64 x.b, .int .i64 x.c] 169)).cell? ⟨wr.heap.size, 0, none⟩ = some (.int .i64 x.op) := by simp
      have b1 : (wr.alloc (Obj.cells #[.int .i64 x.op, .int .i64 x.a, .int .i64 x.b, .int .i64 x.c] 169)).cell? ⟨wr.heap.size, 1, none⟩ = some (.int .i64 x.a) := by simp
      have b2 : (wr.alloc (Obj.cells #[.int .i64 x.op, .int .i64 x.a, .int .i64 x.b, .int .i64 x.c] 169)).cell? ⟨wr.heap.size, 2, none⟩ = some (.int .i64 x.b) := by simp
      have b3 : (wr.alloc (Obj.cells #[.int .i64 x.op, .int .i64 x.a, .int .i64 x.b, .int .i64 x.c] 169)).cell? ⟨wr.heap.size, 3, none⟩ = some (.int .i64 x.c) := by simp
      have c0 := HXb.out.cell HJ.out.c0
      have c4 := HXb.out.cell HJ.out.c4
      have d := HXb.out.cell (HJ.out.row.cell (20 + i) (by omega))
      have HF := Lib.hid (HJ.out.fld.ext HXb.out)
      have hwr : IntKind.i64.wrap (20 + (i : Int)) = 20 + (i : Int) := IntWalk.i64_in _ (by omega)
      generalize hzb : wr.heap.size = zb at *
      clear hzb e0 e1 e2 e3 hix hll
      generalize wr.alloc (Obj.cells #[.int .i64 x.op, .int .i64 x.a, .int .i64 x.b, .int .i64 x.c] 169) = W at *
      go_region_held3 (fun w' => w'.cell? ⟨q, 0, none⟩ = some f ∧ w'.cell? ⟨q, 4, none⟩ = some rv ∧ w'.cell? (elt rv (20 + i) 1) = some (.int .i64 (nth r (20 + i))) ∧ w'.cell? ⟨zb, 0, none⟩ = some (.int .i64 x.op) ∧ w'.cell? ⟨zb, 1, none⟩ = some (.int .i64 x.a) ∧ w'.cell? ⟨zb, 2, none⟩ = some (.int .i64 x.b) ∧ w'.cell? ⟨zb, 3, none⟩ = some (.int .i64 x.c)) (first | exact ⟨hx3.cell c0, hx3.cell c4, hx3.cell d, hx3.cell b0, hx3.cell b1, hx3.cell b2, hx3.cell b3⟩ | exact ⟨hx2.cell c0, hx2.cell c4, hx2.cell d, hx2.cell b0, hx2.cell b1, hx2.cell b2, hx2.cell b3⟩ | exact ⟨hxc.cell c0, hxc.cell c4, hxc.cell d, hxc.cell b0, hxc.cell b1, hxc.cell b2, hxc.cell b3⟩ | go_keep) (first | (go_at_call 184; refine (HC.out _ (HXb.out.trans (Ext.drew _))).mono ?_; rintro e w1 ⟨rfl, hxa⟩; have hxc := (Ext.drew W).trans hxa) | (go_at_call 123; refine (mul_any (HF.out.ext hxc) _ _).mono ?_; rintro e w2 ⟨rfl, z1, rfl⟩; have hx2 := hxc.trans (Ext.drewN w1 z1)) | (go_at_call 122; refine (add_any (HF.out.ext hx2) _ _).mono ?_; rintro e w3 ⟨rfl, z2, rfl⟩; have hx3 := hxc.trans (Ext.drewN w1 (z1 + z2))))
      have HXR := Lib.hid (HXb.out.trans hx3)
      clear hxa hxc hx2 hx3 c0 c4 d b0 b1 b2 b3 hwr hri
      go_wp2_with fail
      go_roundw
      case rel => exact ⟨i + 1, by omega, by go_num, by rw [HS.out], HXR⟩
      case measure => simp [intOf]; omega
    · obtain rfl : i = cd.length := by omega
      go_wp2_with fail
      go_ret
      exact ⟨rfl, HX.out⟩
set_option maxRecDepth 100000 in
set_option maxHeartbeats 4000000 in
theorem jsum_halts (h : JAt w q f p g fs sz out cd lv rv nv r n) (hs : cd.length ≤ 1048576) : Calls Tryz.prog 183 #[.pointer (some ⟨q, 0, none⟩), .func (.func 193) #[] #[]] w fun e w' => e = .returned (.int .i64 (sumK p r cd haltK cd.length)) ∧ Ext w w' := by
  have hll := h.code.run_len (P := Tryz.prog) slIns
  have hlr := h.lr
  have HJ := Lib.hid h
  have c2 := h.c2
  clear h
  go_enter Tryz.func183, Tryz.ntmps183
  go_wp2_with fail
  clear c2
  go_loopw [5, 14] (fun x5 x14 wr => ∃ i : Nat, i ≤ cd.length ∧ x14 = .int .i64 i ∧ x5 = .int .i64 (sumK p r cd haltK i) ∧ Hid (Ext w wr)) (fun _ x14 _ => cd.length - (intOf x14).toNat)
  case atStart => exact ⟨0, Nat.zero_le _, rfl, rfl, Lib.hid (Ext.refl _)⟩
  case round =>
    obtain ⟨i, hi, rfl, rfl, HX⟩ := hrel
    by_cases hil : i < cd.length
    · have hix := HJ.out.code.run_index (P := Tryz.prog) slIns i hil
      have hri : ∀ w', (Instr.indexAt 23 rv (.int .i64 (20 + (i : Int)))).run Tryz.prog w' = .ok (.pointer (some (elt rv (20 + i) 1))) w' := by
        intro w'
        have := HJ.out.row.run_index (P := Tryz.prog) slInts (20 + i) (by omega) w'
        simpa using this
      have e0 := HX.out.cell (HJ.out.code.c0 i hil)
      have e1 := HX.out.cell (HJ.out.code.c1 i hil)
      have e2 := HX.out.cell (HJ.out.code.c2 i hil)
      have e3 := HX.out.cell (HJ.out.code.c3 i hil)
      have HC : Hid (∀ w', Ext w w' → Calls Tryz.prog 193 (#[] ++ #[.int .i64 i, .agg #[.int .i64 (nthI cd i).op, .int .i64 (nthI cd i).a, .int .i64 (nthI cd i).b, .int .i64 (nthI cd i).c]] ++ #[]) w' fun e w'' => e = .returned (.int .i64 (haltK i (nthI cd i))) ∧ Ext w' w'') := Lib.hid (fun w' HE => (phalts_any _ _))
      have HS := Lib.hid (show sumK p r cd haltK (i + 1) = fadd p (sumK p r cd haltK i) (fmul p (nth r (20 + i)) (haltK i (nthI cd i))) from rfl)
      generalize sumK p r cd haltK i = s at *
      generalize nthI cd i = x at *
      generalize haltK i x = y' at *
      go_wp2_with fail
      have HXb := Lib.hid (HX.out.trans (Ext.alloc wr (Obj.cells #[.int .i64 x.op, .int .i64 x.a, .int .i64 x.b, .int .i64 x.c] 169)))
      have b0 : (wr.alloc (Obj.cells #[.int .i64 x.op, .int .i64 x.a, .int .i64 x.b, .int .i64 x.c] 169)).cell? ⟨wr.heap.size, 0, none⟩ = some (.int .i64 x.op) := by simp
      have b1 : (wr.alloc (Obj.cells #[.int .i64 x.op, .int .i64 x.a, .int .i64 x.b, .int .i64 x.c] 169)).cell? ⟨wr.heap.size, 1, none⟩ = some (.int .i64 x.a) := by simp
      have b2 : (wr.alloc (Obj.cells #[.int .i64 x.op, .int .i64 x.a, .int .i64 x.b, .int .i64 x.c] 169)).cell? ⟨wr.heap.size, 2, none⟩ = some (.int .i64 x.b) := by simp
      have b3 : (wr.alloc (Obj.cells #[.int .i64 x.op, .int .i64 x.a, .int .i64 x.b, .int .i64 x.c] 169)).cell? ⟨wr.heap.size, 3, none⟩ = some (.int .i64 x.c) := by simp
      have c0 := HXb.out.cell HJ.out.c0
      have c4 := HXb.out.cell HJ.out.c4
      have d := HXb.out.cell (HJ.out.row.cell (20 + i) (by omega))
      have HF := Lib.hid (HJ.out.fld.ext HXb.out)
      have hwr : IntKind.i64.wrap (20 + (i : Int)) = 20 + (i : Int) := IntWalk.i64_in _ (by omega)
      generalize hzb : wr.heap.size = zb at *
      clear hzb e0 e1 e2 e3 hix hll
      generalize wr.alloc (Obj.cells #[.int .i64 x.op, .int .i64 x.a, .int .i64 x.b, .int .i64 x.c] 169) = W at *
      go_region_held3 (fun w' => w'.cell? ⟨q, 0, none⟩ = some f ∧ w'.cell? ⟨q, 4, none⟩ = some rv ∧ w'.cell? (elt rv (20 + i) 1) = some (.int .i64 (nth r (20 + i))) ∧ w'.cell? ⟨zb, 0, none⟩ = some (.int .i64 x.op) ∧ w'.cell? ⟨zb, 1, none⟩ = some (.int .i64 x.a) ∧ w'.cell? ⟨zb, 2, none⟩ = some (.int .i64 x.b) ∧ w'.cell? ⟨zb, 3, none⟩ = some (.int .i64 x.c)) (first | exact ⟨hx3.cell c0, hx3.cell c4, hx3.cell d, hx3.cell b0, hx3.cell b1, hx3.cell b2, hx3.cell b3⟩ | exact ⟨hx2.cell c0, hx2.cell c4, hx2.cell d, hx2.cell b0, hx2.cell b1, hx2.cell b2, hx2.cell b3⟩ | exact ⟨hxc.cell c0, hxc.cell c4, hxc.cell d, hxc.cell b0, hxc.cell b1, hxc.cell b2, hxc.cell b3⟩ | go_keep) (first | (go_at_call 193; refine (HC.out _ (HXb.out.trans (Ext.drew _))).mono ?_; rintro e w1 ⟨rfl, hxa⟩; have hxc := (Ext.drew W).trans hxa) | (go_at_call 123; refine (mul_any (HF.out.ext hxc) _ _).mono ?_; rintro e w2 ⟨rfl, z1, rfl⟩; have hx2 := hxc.trans (Ext.drewN w1 z1)) | (go_at_call 122; refine (add_any (HF.out.ext hx2) _ _).mono ?_; rintro e w3 ⟨rfl, z2, rfl⟩; have hx3 := hxc.trans (Ext.drewN w1 (z1 + z2))))
      have HXR := Lib.hid (HXb.out.trans hx3)
      clear hxa hxc hx2 hx3 c0 c4 d b0 b1 b2 b3 hwr hri
      go_wp2_with fail
      go_roundw
      case rel => exact ⟨i + 1, by omega, by go_num, by rw [HS.out], HXR⟩
      case measure => simp [intOf]; omega
    · obtain rfl : i = cd.length := by omega
      go_wp2_with fail
      go_ret
      exact ⟨rfl, HX.out⟩
set_option maxRecDepth 100000 in
set_option maxHeartbeats 4000000 in
theorem jsum_does (h : JAt w q f p g fs sz out cd lv rv nv r n) (hs : cd.length ≤ 1048576) : Calls Tryz.prog 183 #[.pointer (some ⟨q, 0, none⟩), .func (.func 186) #[.pointer (some ⟨q, 0, none⟩)] #[]] w fun e w' => e = .returned (.int .i64 (sumK p r cd (doesK p r) cd.length)) ∧ Ext w w' := by
  have hll := h.code.run_len (P := Tryz.prog) slIns
  have hlr := h.lr
  have HJ := Lib.hid h
  have c2 := h.c2
  clear h
  go_enter Tryz.func183, Tryz.ntmps183
  go_wp2_with fail
  clear c2
  go_loopw [5, 14] (fun x5 x14 wr => ∃ i : Nat, i ≤ cd.length ∧ x14 = .int .i64 i ∧ x5 = .int .i64 (sumK p r cd (doesK p r) i) ∧ Hid (Ext w wr)) (fun _ x14 _ => cd.length - (intOf x14).toNat)
  case atStart => exact ⟨0, Nat.zero_le _, rfl, rfl, Lib.hid (Ext.refl _)⟩
  case round =>
    obtain ⟨i, hi, rfl, rfl, HX⟩ := hrel
    by_cases hil : i < cd.length
    · have hix := HJ.out.code.run_index (P := Tryz.prog) slIns i hil
      have hri : ∀ w', (Instr.indexAt 23 rv (.int .i64 (20 + (i : Int)))).run Tryz.prog w' = .ok (.pointer (some (elt rv (20 + i) 1))) w' := by
        intro w'
        have := HJ.out.row.run_index (P := Tryz.prog) slInts (20 + i) (by omega) w'
        simpa using this
      have e0 := HX.out.cell (HJ.out.code.c0 i hil)
      have e1 := HX.out.cell (HJ.out.code.c1 i hil)
      have e2 := HX.out.cell (HJ.out.code.c2 i hil)
      have e3 := HX.out.cell (HJ.out.code.c3 i hil)
      have HC : Hid (∀ w', Ext w w' → Calls Tryz.prog 186 (#[.pointer (some ⟨q, 0, none⟩)] ++ #[.int .i64 i, .agg #[.int .i64 (nthI cd i).op, .int .i64 (nthI cd i).a, .int .i64 (nthI cd i).b, .int .i64 (nthI cd i).c]] ++ #[]) w' fun e w'' => e = .returned (.int .i64 ((doesK p r) i (nthI cd i))) ∧ Ext w' w'') := Lib.hid (fun w' HE => (jdoes_any (HJ.out.ext HE) _ (by omega) _))
      have HS := Lib.hid (show sumK p r cd (doesK p r) (i + 1) = fadd p (sumK p r cd (doesK p r) i) (fmul p (nth r (20 + i)) ((doesK p r) i (nthI cd i))) from rfl)
      generalize sumK p r cd (doesK p r) i = s at *
      generalize nthI cd i = x at *
      generalize (doesK p r) i x = y' at *
      go_wp2_with fail
      have HXb := Lib.hid (HX.out.trans (Ext.alloc wr (Obj.cells #[.int .i64 x.op, .int .i64 x.a, .int .i64 x.b, .int .i64 x.c] 169)))
      have b0 : (wr.alloc (Obj.cells #[.int .i64 x.op, .int .i64 x.a, .int .i64 x.b, .int .i64 x.c] 169)).cell? ⟨wr.heap.size, 0, none⟩ = some (.int .i64 x.op) := by simp
      have b1 : (wr.alloc (Obj.cells #[.int .i64 x.op, .int .i64 x.a, .int .i64 x.b, .int .i64 x.c] 169)).cell? ⟨wr.heap.size, 1, none⟩ = some (.int .i64 x.a) := by simp
      have b2 : (wr.alloc (Obj.cells #[.int .i64 x.op, .int .i64 x.a, .int .i64 x.b, .int .i64 x.c] 169)).cell? ⟨wr.heap.size, 2, none⟩ = some (.int .i64 x.b) := by simp
      have b3 : (wr.alloc (Obj.cells #[.int .i64 x.op, .int .i64 x.a, .int .i64 x.b, .int .i64 x.c] 169)).cell? ⟨wr.heap.size, 3, none⟩ = some (.int .i64 x.c) := by simp
      have c0 := HXb.out.cell HJ.out.c0
      have c4 := HXb.out.cell HJ.out.c4
      have d := HXb.out.cell (HJ.out.row.cell (20 + i) (by omega))
      have HF := Lib.hid (HJ.out.fld.ext HXb.out)
      have hwr : IntKind.i64.wrap (20 + (i : Int)) = 20 + (i : Int) := IntWalk.i64_in _ (by omega)
      generalize hzb : wr.heap.size = zb at *
      clear hzb e0 e1 e2 e3 hix hll
      generalize wr.alloc (Obj.cells #[.int .i64 x.op, .int .i64 x.a, .int .i64 x.b, .int .i64 x.c] 169) = W at *
      go_region_held3 (fun w' => w'.cell? ⟨q, 0, none⟩ = some f ∧ w'.cell? ⟨q, 4, none⟩ = some rv ∧ w'.cell? (elt rv (20 + i) 1) = some (.int .i64 (nth r (20 + i))) ∧ w'.cell? ⟨zb, 0, none⟩ = some (.int .i64 x.op) ∧ w'.cell? ⟨zb, 1, none⟩ = some (.int .i64 x.a) ∧ w'.cell? ⟨zb, 2, none⟩ = some (.int .i64 x.b) ∧ w'.cell? ⟨zb, 3, none⟩ = some (.int .i64 x.c)) (first | exact ⟨hx3.cell c0, hx3.cell c4, hx3.cell d, hx3.cell b0, hx3.cell b1, hx3.cell b2, hx3.cell b3⟩ | exact ⟨hx2.cell c0, hx2.cell c4, hx2.cell d, hx2.cell b0, hx2.cell b1, hx2.cell b2, hx2.cell b3⟩ | exact ⟨hxc.cell c0, hxc.cell c4, hxc.cell d, hxc.cell b0, hxc.cell b1, hxc.cell b2, hxc.cell b3⟩ | go_keep) (first | (go_at_call 186; refine (HC.out _ (HXb.out.trans (Ext.drew _))).mono ?_; rintro e w1 ⟨rfl, hxa⟩; have hxc := (Ext.drew W).trans hxa) | (go_at_call 123; refine (mul_any (HF.out.ext hxc) _ _).mono ?_; rintro e w2 ⟨rfl, z1, rfl⟩; have hx2 := hxc.trans (Ext.drewN w1 z1)) | (go_at_call 122; refine (add_any (HF.out.ext hx2) _ _).mono ?_; rintro e w3 ⟨rfl, z2, rfl⟩; have hx3 := hxc.trans (Ext.drewN w1 (z1 + z2))))
      have HXR := Lib.hid (HXb.out.trans hx3)
      clear hxa hxc hx2 hx3 c0 c4 d b0 b1 b2 b3 hwr hri
      go_wp2_with fail
      go_roundw
      case rel => exact ⟨i + 1, by omega, by go_num, by rw [HS.out], HXR⟩
      case measure => simp [intOf]; omega
    · obtain rfl : i = cd.length := by omega
      go_wp2_with fail
      go_ret
      exact ⟨rfl, HX.out⟩
set_option maxRecDepth 100000 in
set_option maxHeartbeats 4000000 in
theorem jsum_more (h : JAt w q f p g fs sz out cd lv rv nv r n) (hs : cd.length ≤ 1048576) : Calls Tryz.prog 183 #[.pointer (some ⟨q, 0, none⟩), .func (.func 187) #[.pointer (some ⟨q, 0, none⟩)] #[]] w fun e w' => e = .returned (.int .i64 (sumK p r cd (moreK p r) cd.length)) ∧ Ext w w' := by
  have hll := h.code.run_len (P := Tryz.prog) slIns
  have hlr := h.lr
  have HJ := Lib.hid h
  have c2 := h.c2
  clear h
  go_enter Tryz.func183, Tryz.ntmps183
  go_wp2_with fail
  clear c2
  go_loopw [5, 14] (fun x5 x14 wr => ∃ i : Nat, i ≤ cd.length ∧ x14 = .int .i64 i ∧ x5 = .int .i64 (sumK p r cd (moreK p r) i) ∧ Hid (Ext w wr)) (fun _ x14 _ => cd.length - (intOf x14).toNat)
  case atStart => exact ⟨0, Nat.zero_le _, rfl, rfl, Lib.hid (Ext.refl _)⟩
  case round =>
    obtain ⟨i, hi, rfl, rfl, HX⟩ := hrel
    by_cases hil : i < cd.length
    · have hix := HJ.out.code.run_index (P := Tryz.prog) slIns i hil
      have hri : ∀ w', (Instr.indexAt 23 rv (.int .i64 (20 + (i : Int)))).run Tryz.prog w' = .ok (.pointer (some (elt rv (20 + i) 1))) w' := by
        intro w'
        have := HJ.out.row.run_index (P := Tryz.prog) slInts (20 + i) (by omega) w'
        simpa using this
      have e0 := HX.out.cell (HJ.out.code.c0 i hil)
      have e1 := HX.out.cell (HJ.out.code.c1 i hil)
      have e2 := HX.out.cell (HJ.out.code.c2 i hil)
      have e3 := HX.out.cell (HJ.out.code.c3 i hil)
      have HC : Hid (∀ w', Ext w w' → Calls Tryz.prog 187 (#[.pointer (some ⟨q, 0, none⟩)] ++ #[.int .i64 i, .agg #[.int .i64 (nthI cd i).op, .int .i64 (nthI cd i).a, .int .i64 (nthI cd i).b, .int .i64 (nthI cd i).c]] ++ #[]) w' fun e w'' => e = .returned (.int .i64 ((moreK p r) i (nthI cd i))) ∧ Ext w' w'') := Lib.hid (fun w' HE => (jmore_any (HJ.out.ext HE) _ (by omega) _))
      have HS := Lib.hid (show sumK p r cd (moreK p r) (i + 1) = fadd p (sumK p r cd (moreK p r) i) (fmul p (nth r (20 + i)) ((moreK p r) i (nthI cd i))) from rfl)
      generalize sumK p r cd (moreK p r) i = s at *
      generalize nthI cd i = x at *
      generalize (moreK p r) i x = y' at *
      go_wp2_with fail
      have HXb := Lib.hid (HX.out.trans (Ext.alloc wr (Obj.cells #[.int .i64 x.op, .int .i64 x.a, .int .i64 x.b, .int .i64 x.c] 169)))
      have b0 : (wr.alloc (Obj.cells #[.int .i64 x.op, .int .i64 x.a, .int .i64 x.b, .int .i64 x.c] 169)).cell? ⟨wr.heap.size, 0, none⟩ = some (.int .i64 x.op) := by simp
      have b1 : (wr.alloc (Obj.cells #[.int .i64 x.op, .int .i64 x.a, .int .i64 x.b, .int .i64 x.c] 169)).cell? ⟨wr.heap.size, 1, none⟩ = some (.int .i64 x.a) := by simp
      have b2 : (wr.alloc (Obj.cells #[.int .i64 x.op, .int .i64 x.a, .int .i64 x.b, .int .i64 x.c] 169)).cell? ⟨wr.heap.size, 2, none⟩ = some (.int .i64 x.b) := by simp
      have b3 : (wr.alloc (Obj.cells #[.int .i64 x.op, .int .i64 x.a, .int .i64 x.b, .int .i64 x.c] 169)).cell? ⟨wr.heap.size, 3, none⟩ = some (.int .i64 x.c) := by simp
      have c0 := HXb.out.cell HJ.out.c0
      have c4 := HXb.out.cell HJ.out.c4
      have d := HXb.out.cell (HJ.out.row.cell (20 + i) (by omega))
      have HF := Lib.hid (HJ.out.fld.ext HXb.out)
      have hwr : IntKind.i64.wrap (20 + (i : Int)) = 20 + (i : Int) := IntWalk.i64_in _ (by omega)
      generalize hzb : wr.heap.size = zb at *
      clear hzb e0 e1 e2 e3 hix hll
      generalize wr.alloc (Obj.cells #[.int .i64 x.op, .int .i64 x.a, .int .i64 x.b, .int .i64 x.c] 169) = W at *
      go_region_held3 (fun w' => w'.cell? ⟨q, 0, none⟩ = some f ∧ w'.cell? ⟨q, 4, none⟩ = some rv ∧ w'.cell? (elt rv (20 + i) 1) = some (.int .i64 (nth r (20 + i))) ∧ w'.cell? ⟨zb, 0, none⟩ = some (.int .i64 x.op) ∧ w'.cell? ⟨zb, 1, none⟩ = some (.int .i64 x.a) ∧ w'.cell? ⟨zb, 2, none⟩ = some (.int .i64 x.b) ∧ w'.cell? ⟨zb, 3, none⟩ = some (.int .i64 x.c)) (first | exact ⟨hx3.cell c0, hx3.cell c4, hx3.cell d, hx3.cell b0, hx3.cell b1, hx3.cell b2, hx3.cell b3⟩ | exact ⟨hx2.cell c0, hx2.cell c4, hx2.cell d, hx2.cell b0, hx2.cell b1, hx2.cell b2, hx2.cell b3⟩ | exact ⟨hxc.cell c0, hxc.cell c4, hxc.cell d, hxc.cell b0, hxc.cell b1, hxc.cell b2, hxc.cell b3⟩ | go_keep) (first | (go_at_call 187; refine (HC.out _ (HXb.out.trans (Ext.drew _))).mono ?_; rintro e w1 ⟨rfl, hxa⟩; have hxc := (Ext.drew W).trans hxa) | (go_at_call 123; refine (mul_any (HF.out.ext hxc) _ _).mono ?_; rintro e w2 ⟨rfl, z1, rfl⟩; have hx2 := hxc.trans (Ext.drewN w1 z1)) | (go_at_call 122; refine (add_any (HF.out.ext hx2) _ _).mono ?_; rintro e w3 ⟨rfl, z2, rfl⟩; have hx3 := hxc.trans (Ext.drewN w1 (z1 + z2))))
      have HXR := Lib.hid (HXb.out.trans hx3)
      clear hxa hxc hx2 hx3 c0 c4 d b0 b1 b2 b3 hwr hri
      go_wp2_with fail
      go_roundw
      case rel => exact ⟨i + 1, by omega, by go_num, by rw [HS.out], HXR⟩
      case measure => simp [intOf]; omega
    · obtain rfl : i = cd.length := by omega
      go_wp2_with fail
      go_ret
      exact ⟨rfl, HX.out⟩
set_option maxRecDepth 100000 in
set_option maxHeartbeats 4000000 in
theorem jsum_goes (h : JAt w q f p g fs sz out cd lv rv nv r n) (hs : cd.length ≤ 1048576) : Calls Tryz.prog 183 #[.pointer (some ⟨q, 0, none⟩), .func (.func 189) #[.pointer (some ⟨q, 0, none⟩)] #[]] w fun e w' => e = .returned (.int .i64 (sumK p r cd (goesK p r) cd.length)) ∧ Ext w w' := by
  have hll := h.code.run_len (P := Tryz.prog) slIns
  have hlr := h.lr
  have HJ := Lib.hid h
  have c2 := h.c2
  clear h
  go_enter Tryz.func183, Tryz.ntmps183
  go_wp2_with fail
  clear c2
  go_loopw [5, 14] (fun x5 x14 wr => ∃ i : Nat, i ≤ cd.length ∧ x14 = .int .i64 i ∧ x5 = .int .i64 (sumK p r cd (goesK p r) i) ∧ Hid (Ext w wr)) (fun _ x14 _ => cd.length - (intOf x14).toNat)
  case atStart => exact ⟨0, Nat.zero_le _, rfl, rfl, Lib.hid (Ext.refl _)⟩
  case round =>
    obtain ⟨i, hi, rfl, rfl, HX⟩ := hrel
    by_cases hil : i < cd.length
    · have hix := HJ.out.code.run_index (P := Tryz.prog) slIns i hil
      have hri : ∀ w', (Instr.indexAt 23 rv (.int .i64 (20 + (i : Int)))).run Tryz.prog w' = .ok (.pointer (some (elt rv (20 + i) 1))) w' := by
        intro w'
        have := HJ.out.row.run_index (P := Tryz.prog) slInts (20 + i) (by omega) w'
        simpa using this
      have e0 := HX.out.cell (HJ.out.code.c0 i hil)
      have e1 := HX.out.cell (HJ.out.code.c1 i hil)
      have e2 := HX.out.cell (HJ.out.code.c2 i hil)
      have e3 := HX.out.cell (HJ.out.code.c3 i hil)
      have HC : Hid (∀ w', Ext w w' → Calls Tryz.prog 189 (#[.pointer (some ⟨q, 0, none⟩)] ++ #[.int .i64 i, .agg #[.int .i64 (nthI cd i).op, .int .i64 (nthI cd i).a, .int .i64 (nthI cd i).b, .int .i64 (nthI cd i).c]] ++ #[]) w' fun e w'' => e = .returned (.int .i64 ((goesK p r) i (nthI cd i))) ∧ Ext w' w'') := Lib.hid (fun w' HE => (jgoes_any (HJ.out.ext HE) _ (by omega) _))
      have HS := Lib.hid (show sumK p r cd (goesK p r) (i + 1) = fadd p (sumK p r cd (goesK p r) i) (fmul p (nth r (20 + i)) ((goesK p r) i (nthI cd i))) from rfl)
      generalize sumK p r cd (goesK p r) i = s at *
      generalize nthI cd i = x at *
      generalize (goesK p r) i x = y' at *
      go_wp2_with fail
      have HXb := Lib.hid (HX.out.trans (Ext.alloc wr (Obj.cells #[.int .i64 x.op, .int .i64 x.a, .int .i64 x.b, .int .i64 x.c] 169)))
      have b0 : (wr.alloc (Obj.cells #[.int .i64 x.op, .int .i64 x.a, .int .i64 x.b, .int .i64 x.c] 169)).cell? ⟨wr.heap.size, 0, none⟩ = some (.int .i64 x.op) := by simp
      have b1 : (wr.alloc (Obj.cells #[.int .i64 x.op, .int .i64 x.a, .int .i64 x.b, .int .i64 x.c] 169)).cell? ⟨wr.heap.size, 1, none⟩ = some (.int .i64 x.a) := by simp
      have b2 : (wr.alloc (Obj.cells #[.int .i64 x.op, .int .i64 x.a, .int .i64 x.b, .int .i64 x.c] 169)).cell? ⟨wr.heap.size, 2, none⟩ = some (.int .i64 x.b) := by simp
      have b3 : (wr.alloc (Obj.cells #[.int .i64 x.op, .int .i64 x.a, .int .i64 x.b, .int .i64 x.c] 169)).cell? ⟨wr.heap.size, 3, none⟩ = some (.int .i64 x.c) := by simp
      have c0 := HXb.out.cell HJ.out.c0
      have c4 := HXb.out.cell HJ.out.c4
      have d := HXb.out.cell (HJ.out.row.cell (20 + i) (by omega))
      have HF := Lib.hid (HJ.out.fld.ext HXb.out)
      have hwr : IntKind.i64.wrap (20 + (i : Int)) = 20 + (i : Int) := IntWalk.i64_in _ (by omega)
      generalize hzb : wr.heap.size = zb at *
      clear hzb e0 e1 e2 e3 hix hll
      generalize wr.alloc (Obj.cells #[.int .i64 x.op, .int .i64 x.a, .int .i64 x.b, .int .i64 x.c] 169) = W at *
      go_region_held3 (fun w' => w'.cell? ⟨q, 0, none⟩ = some f ∧ w'.cell? ⟨q, 4, none⟩ = some rv ∧ w'.cell? (elt rv (20 + i) 1) = some (.int .i64 (nth r (20 + i))) ∧ w'.cell? ⟨zb, 0, none⟩ = some (.int .i64 x.op) ∧ w'.cell? ⟨zb, 1, none⟩ = some (.int .i64 x.a) ∧ w'.cell? ⟨zb, 2, none⟩ = some (.int .i64 x.b) ∧ w'.cell? ⟨zb, 3, none⟩ = some (.int .i64 x.c)) (first | exact ⟨hx3.cell c0, hx3.cell c4, hx3.cell d, hx3.cell b0, hx3.cell b1, hx3.cell b2, hx3.cell b3⟩ | exact ⟨hx2.cell c0, hx2.cell c4, hx2.cell d, hx2.cell b0, hx2.cell b1, hx2.cell b2, hx2.cell b3⟩ | exact ⟨hxc.cell c0, hxc.cell c4, hxc.cell d, hxc.cell b0, hxc.cell b1, hxc.cell b2, hxc.cell b3⟩ | go_keep) (first | (go_at_call 189; refine (HC.out _ (HXb.out.trans (Ext.drew _))).mono ?_; rintro e w1 ⟨rfl, hxa⟩; have hxc := (Ext.drew W).trans hxa) | (go_at_call 123; refine (mul_any (HF.out.ext hxc) _ _).mono ?_; rintro e w2 ⟨rfl, z1, rfl⟩; have hx2 := hxc.trans (Ext.drewN w1 z1)) | (go_at_call 122; refine (add_any (HF.out.ext hx2) _ _).mono ?_; rintro e w3 ⟨rfl, z2, rfl⟩; have hx3 := hxc.trans (Ext.drewN w1 (z1 + z2))))
      have HXR := Lib.hid (HXb.out.trans hx3)
      clear hxa hxc hx2 hx3 c0 c4 d b0 b1 b2 b3 hwr hri
      go_wp2_with fail
      go_roundw
      case rel => exact ⟨i + 1, by omega, by go_num, by rw [HS.out], HXR⟩
      case measure => simp [intOf]; omega
    · obtain rfl : i = cd.length := by omega
      go_wp2_with fail
      go_ret
      exact ⟨rfl, HX.out⟩
set_option maxRecDepth 100000 in
set_option maxHeartbeats 4000000 in
theorem jsum_fp (h : JAt w q f p g fs sz out cd lv rv nv r n) (hs : cd.length ≤ 1048576) : Calls Tryz.prog 183 #[.pointer (some ⟨q, 0, none⟩), .func (.func 190) #[.pointer (some ⟨q, 0, none⟩)] #[]] w fun e w' => e = .returned (.int .i64 (sumK p r cd (fpK p r) cd.length)) ∧ Ext w w' := by
  have hll := h.code.run_len (P := Tryz.prog) slIns
  have hlr := h.lr
  have HJ := Lib.hid h
  have c2 := h.c2
  clear h
  go_enter Tryz.func183, Tryz.ntmps183
  go_wp2_with fail
  clear c2
  go_loopw [5, 14] (fun x5 x14 wr => ∃ i : Nat, i ≤ cd.length ∧ x14 = .int .i64 i ∧ x5 = .int .i64 (sumK p r cd (fpK p r) i) ∧ Hid (Ext w wr)) (fun _ x14 _ => cd.length - (intOf x14).toNat)
  case atStart => exact ⟨0, Nat.zero_le _, rfl, rfl, Lib.hid (Ext.refl _)⟩
  case round =>
    obtain ⟨i, hi, rfl, rfl, HX⟩ := hrel
    by_cases hil : i < cd.length
    · have hix := HJ.out.code.run_index (P := Tryz.prog) slIns i hil
      have hri : ∀ w', (Instr.indexAt 23 rv (.int .i64 (20 + (i : Int)))).run Tryz.prog w' = .ok (.pointer (some (elt rv (20 + i) 1))) w' := by
        intro w'
        have := HJ.out.row.run_index (P := Tryz.prog) slInts (20 + i) (by omega) w'
        simpa using this
      have e0 := HX.out.cell (HJ.out.code.c0 i hil)
      have e1 := HX.out.cell (HJ.out.code.c1 i hil)
      have e2 := HX.out.cell (HJ.out.code.c2 i hil)
      have e3 := HX.out.cell (HJ.out.code.c3 i hil)
      have HC : Hid (∀ w', Ext w w' → Calls Tryz.prog 190 (#[.pointer (some ⟨q, 0, none⟩)] ++ #[.int .i64 i, .agg #[.int .i64 (nthI cd i).op, .int .i64 (nthI cd i).a, .int .i64 (nthI cd i).b, .int .i64 (nthI cd i).c]] ++ #[]) w' fun e w'' => e = .returned (.int .i64 ((fpK p r) i (nthI cd i))) ∧ Ext w' w'') := Lib.hid (fun w' HE => (jfp_any (HJ.out.ext HE) _ (by omega) _))
      have HS := Lib.hid (show sumK p r cd (fpK p r) (i + 1) = fadd p (sumK p r cd (fpK p r) i) (fmul p (nth r (20 + i)) ((fpK p r) i (nthI cd i))) from rfl)
      generalize sumK p r cd (fpK p r) i = s at *
      generalize nthI cd i = x at *
      generalize (fpK p r) i x = y' at *
      go_wp2_with fail
      have HXb := Lib.hid (HX.out.trans (Ext.alloc wr (Obj.cells #[.int .i64 x.op, .int .i64 x.a, .int .i64 x.b, .int .i64 x.c] 169)))
      have b0 : (wr.alloc (Obj.cells #[.int .i64 x.op, .int .i64 x.a, .int .i64 x.b, .int .i64 x.c] 169)).cell? ⟨wr.heap.size, 0, none⟩ = some (.int .i64 x.op) := by simp
      have b1 : (wr.alloc (Obj.cells #[.int .i64 x.op, .int .i64 x.a, .int .i64 x.b, .int .i64 x.c] 169)).cell? ⟨wr.heap.size, 1, none⟩ = some (.int .i64 x.a) := by simp
      have b2 : (wr.alloc (Obj.cells #[.int .i64 x.op, .int .i64 x.a, .int .i64 x.b, .int .i64 x.c] 169)).cell? ⟨wr.heap.size, 2, none⟩ = some (.int .i64 x.b) := by simp
      have b3 : (wr.alloc (Obj.cells #[.int .i64 x.op, .int .i64 x.a, .int .i64 x.b, .int .i64 x.c] 169)).cell? ⟨wr.heap.size, 3, none⟩ = some (.int .i64 x.c) := by simp
      have c0 := HXb.out.cell HJ.out.c0
      have c4 := HXb.out.cell HJ.out.c4
      have d := HXb.out.cell (HJ.out.row.cell (20 + i) (by omega))
      have HF := Lib.hid (HJ.out.fld.ext HXb.out)
      have hwr : IntKind.i64.wrap (20 + (i : Int)) = 20 + (i : Int) := IntWalk.i64_in _ (by omega)
      generalize hzb : wr.heap.size = zb at *
      clear hzb e0 e1 e2 e3 hix hll
      generalize wr.alloc (Obj.cells #[.int .i64 x.op, .int .i64 x.a, .int .i64 x.b, .int .i64 x.c] 169) = W at *
      go_region_held3 (fun w' => w'.cell? ⟨q, 0, none⟩ = some f ∧ w'.cell? ⟨q, 4, none⟩ = some rv ∧ w'.cell? (elt rv (20 + i) 1) = some (.int .i64 (nth r (20 + i))) ∧ w'.cell? ⟨zb, 0, none⟩ = some (.int .i64 x.op) ∧ w'.cell? ⟨zb, 1, none⟩ = some (.int .i64 x.a) ∧ w'.cell? ⟨zb, 2, none⟩ = some (.int .i64 x.b) ∧ w'.cell? ⟨zb, 3, none⟩ = some (.int .i64 x.c)) (first | exact ⟨hx3.cell c0, hx3.cell c4, hx3.cell d, hx3.cell b0, hx3.cell b1, hx3.cell b2, hx3.cell b3⟩ | exact ⟨hx2.cell c0, hx2.cell c4, hx2.cell d, hx2.cell b0, hx2.cell b1, hx2.cell b2, hx2.cell b3⟩ | exact ⟨hxc.cell c0, hxc.cell c4, hxc.cell d, hxc.cell b0, hxc.cell b1, hxc.cell b2, hxc.cell b3⟩ | go_keep) (first | (go_at_call 190; refine (HC.out _ (HXb.out.trans (Ext.drew _))).mono ?_; rintro e w1 ⟨rfl, hxa⟩; have hxc := (Ext.drew W).trans hxa) | (go_at_call 123; refine (mul_any (HF.out.ext hxc) _ _).mono ?_; rintro e w2 ⟨rfl, z1, rfl⟩; have hx2 := hxc.trans (Ext.drewN w1 z1)) | (go_at_call 122; refine (add_any (HF.out.ext hx2) _ _).mono ?_; rintro e w3 ⟨rfl, z2, rfl⟩; have hx3 := hxc.trans (Ext.drewN w1 (z1 + z2))))
      have HXR := Lib.hid (HXb.out.trans hx3)
      clear hxa hxc hx2 hx3 c0 c4 d b0 b1 b2 b3 hwr hri
      go_wp2_with fail
      go_roundw
      case rel => exact ⟨i + 1, by omega, by go_num, by rw [HS.out], HXR⟩
      case measure => simp [intOf]; omega
    · obtain rfl : i = cd.length := by omega
      go_wp2_with fail
      go_ret
      exact ⟨rfl, HX.out⟩
set_option maxRecDepth 100000 in
set_option maxHeartbeats 4000000 in
theorem jsum_ap (h : JAt w q f p g fs sz out cd lv rv nv r n) (hs : cd.length ≤ 1048576) : Calls Tryz.prog 183 #[.pointer (some ⟨q, 0, none⟩), .func (.func 191) #[.pointer (some ⟨q, 0, none⟩)] #[]] w fun e w' => e = .returned (.int .i64 (sumK p r cd (apK p r) cd.length)) ∧ Ext w w' := by
  have hll := h.code.run_len (P := Tryz.prog) slIns
  have hlr := h.lr
  have HJ := Lib.hid h
  have c2 := h.c2
  clear h
  go_enter Tryz.func183, Tryz.ntmps183
  go_wp2_with fail
  clear c2
  go_loopw [5, 14] (fun x5 x14 wr => ∃ i : Nat, i ≤ cd.length ∧ x14 = .int .i64 i ∧ x5 = .int .i64 (sumK p r cd (apK p r) i) ∧ Hid (Ext w wr)) (fun _ x14 _ => cd.length - (intOf x14).toNat)
  case atStart => exact ⟨0, Nat.zero_le _, rfl, rfl, Lib.hid (Ext.refl _)⟩
  case round =>
    obtain ⟨i, hi, rfl, rfl, HX⟩ := hrel
    by_cases hil : i < cd.length
    · have hix := HJ.out.code.run_index (P := Tryz.prog) slIns i hil
      have hri : ∀ w', (Instr.indexAt 23 rv (.int .i64 (20 + (i : Int)))).run Tryz.prog w' = .ok (.pointer (some (elt rv (20 + i) 1))) w' := by
        intro w'
        have := HJ.out.row.run_index (P := Tryz.prog) slInts (20 + i) (by omega) w'
        simpa using this
      have e0 := HX.out.cell (HJ.out.code.c0 i hil)
      have e1 := HX.out.cell (HJ.out.code.c1 i hil)
      have e2 := HX.out.cell (HJ.out.code.c2 i hil)
      have e3 := HX.out.cell (HJ.out.code.c3 i hil)
      have HC : Hid (∀ w', Ext w w' → Calls Tryz.prog 191 (#[.pointer (some ⟨q, 0, none⟩)] ++ #[.int .i64 i, .agg #[.int .i64 (nthI cd i).op, .int .i64 (nthI cd i).a, .int .i64 (nthI cd i).b, .int .i64 (nthI cd i).c]] ++ #[]) w' fun e w'' => e = .returned (.int .i64 ((apK p r) i (nthI cd i))) ∧ Ext w' w'') := Lib.hid (fun w' HE => (jap_any (HJ.out.ext HE) _ (by omega) _))
      have HS := Lib.hid (show sumK p r cd (apK p r) (i + 1) = fadd p (sumK p r cd (apK p r) i) (fmul p (nth r (20 + i)) ((apK p r) i (nthI cd i))) from rfl)
      generalize sumK p r cd (apK p r) i = s at *
      generalize nthI cd i = x at *
      generalize (apK p r) i x = y' at *
      go_wp2_with fail
      have HXb := Lib.hid (HX.out.trans (Ext.alloc wr (Obj.cells #[.int .i64 x.op, .int .i64 x.a, .int .i64 x.b, .int .i64 x.c] 169)))
      have b0 : (wr.alloc (Obj.cells #[.int .i64 x.op, .int .i64 x.a, .int .i64 x.b, .int .i64 x.c] 169)).cell? ⟨wr.heap.size, 0, none⟩ = some (.int .i64 x.op) := by simp
      have b1 : (wr.alloc (Obj.cells #[.int .i64 x.op, .int .i64 x.a, .int .i64 x.b, .int .i64 x.c] 169)).cell? ⟨wr.heap.size, 1, none⟩ = some (.int .i64 x.a) := by simp
      have b2 : (wr.alloc (Obj.cells #[.int .i64 x.op, .int .i64 x.a, .int .i64 x.b, .int .i64 x.c] 169)).cell? ⟨wr.heap.size, 2, none⟩ = some (.int .i64 x.b) := by simp
      have b3 : (wr.alloc (Obj.cells #[.int .i64 x.op, .int .i64 x.a, .int .i64 x.b, .int .i64 x.c] 169)).cell? ⟨wr.heap.size, 3, none⟩ = some (.int .i64 x.c) := by simp
      have c0 := HXb.out.cell HJ.out.c0
      have c4 := HXb.out.cell HJ.out.c4
      have d := HXb.out.cell (HJ.out.row.cell (20 + i) (by omega))
      have HF := Lib.hid (HJ.out.fld.ext HXb.out)
      have hwr : IntKind.i64.wrap (20 + (i : Int)) = 20 + (i : Int) := IntWalk.i64_in _ (by omega)
      generalize hzb : wr.heap.size = zb at *
      clear hzb e0 e1 e2 e3 hix hll
      generalize wr.alloc (Obj.cells #[.int .i64 x.op, .int .i64 x.a, .int .i64 x.b, .int .i64 x.c] 169) = W at *
      go_region_held3 (fun w' => w'.cell? ⟨q, 0, none⟩ = some f ∧ w'.cell? ⟨q, 4, none⟩ = some rv ∧ w'.cell? (elt rv (20 + i) 1) = some (.int .i64 (nth r (20 + i))) ∧ w'.cell? ⟨zb, 0, none⟩ = some (.int .i64 x.op) ∧ w'.cell? ⟨zb, 1, none⟩ = some (.int .i64 x.a) ∧ w'.cell? ⟨zb, 2, none⟩ = some (.int .i64 x.b) ∧ w'.cell? ⟨zb, 3, none⟩ = some (.int .i64 x.c)) (first | exact ⟨hx3.cell c0, hx3.cell c4, hx3.cell d, hx3.cell b0, hx3.cell b1, hx3.cell b2, hx3.cell b3⟩ | exact ⟨hx2.cell c0, hx2.cell c4, hx2.cell d, hx2.cell b0, hx2.cell b1, hx2.cell b2, hx2.cell b3⟩ | exact ⟨hxc.cell c0, hxc.cell c4, hxc.cell d, hxc.cell b0, hxc.cell b1, hxc.cell b2, hxc.cell b3⟩ | go_keep) (first | (go_at_call 191; refine (HC.out _ (HXb.out.trans (Ext.drew _))).mono ?_; rintro e w1 ⟨rfl, hxa⟩; have hxc := (Ext.drew W).trans hxa) | (go_at_call 123; refine (mul_any (HF.out.ext hxc) _ _).mono ?_; rintro e w2 ⟨rfl, z1, rfl⟩; have hx2 := hxc.trans (Ext.drewN w1 z1)) | (go_at_call 122; refine (add_any (HF.out.ext hx2) _ _).mono ?_; rintro e w3 ⟨rfl, z2, rfl⟩; have hx3 := hxc.trans (Ext.drewN w1 (z1 + z2))))
      have HXR := Lib.hid (HXb.out.trans hx3)
      clear hxa hxc hx2 hx3 c0 c4 d b0 b1 b2 b3 hwr hri
      go_wp2_with fail
      go_roundw
      case rel => exact ⟨i + 1, by omega, by go_num, by rw [HS.out], HXR⟩
      case measure => simp [intOf]; omega
    · obtain rfl : i = cd.length := by omega
      go_wp2_with fail
      go_ret
      exact ⟨rfl, HX.out⟩
set_option maxRecDepth 100000 in
set_option maxHeartbeats 4000000 in
theorem jsum_rv (h : JAt w q f p g fs sz out cd lv rv nv r n) (hs : cd.length ≤ 1048576) : Calls Tryz.prog 183 #[.pointer (some ⟨q, 0, none⟩), .func (.func 192) #[.pointer (some ⟨q, 0, none⟩)] #[]] w fun e w' => e = .returned (.int .i64 (sumK p r cd (rvK r) cd.length)) ∧ Ext w w' := by
  have hll := h.code.run_len (P := Tryz.prog) slIns
  have hlr := h.lr
  have HJ := Lib.hid h
  have c2 := h.c2
  clear h
  go_enter Tryz.func183, Tryz.ntmps183
  go_wp2_with fail
  clear c2
  go_loopw [5, 14] (fun x5 x14 wr => ∃ i : Nat, i ≤ cd.length ∧ x14 = .int .i64 i ∧ x5 = .int .i64 (sumK p r cd (rvK r) i) ∧ Hid (Ext w wr)) (fun _ x14 _ => cd.length - (intOf x14).toNat)
  case atStart => exact ⟨0, Nat.zero_le _, rfl, rfl, Lib.hid (Ext.refl _)⟩
  case round =>
    obtain ⟨i, hi, rfl, rfl, HX⟩ := hrel
    by_cases hil : i < cd.length
    · have hix := HJ.out.code.run_index (P := Tryz.prog) slIns i hil
      have hri : ∀ w', (Instr.indexAt 23 rv (.int .i64 (20 + (i : Int)))).run Tryz.prog w' = .ok (.pointer (some (elt rv (20 + i) 1))) w' := by
        intro w'
        have := HJ.out.row.run_index (P := Tryz.prog) slInts (20 + i) (by omega) w'
        simpa using this
      have e0 := HX.out.cell (HJ.out.code.c0 i hil)
      have e1 := HX.out.cell (HJ.out.code.c1 i hil)
      have e2 := HX.out.cell (HJ.out.code.c2 i hil)
      have e3 := HX.out.cell (HJ.out.code.c3 i hil)
      have HC : Hid (∀ w', Ext w w' → Calls Tryz.prog 192 (#[.pointer (some ⟨q, 0, none⟩)] ++ #[.int .i64 i, .agg #[.int .i64 (nthI cd i).op, .int .i64 (nthI cd i).a, .int .i64 (nthI cd i).b, .int .i64 (nthI cd i).c]] ++ #[]) w' fun e w'' => e = .returned (.int .i64 ((rvK r) i (nthI cd i))) ∧ Ext w' w'') := Lib.hid (fun w' HE => (jrv_any (HJ.out.ext HE) _ (by omega) _))
      have HS := Lib.hid (show sumK p r cd (rvK r) (i + 1) = fadd p (sumK p r cd (rvK r) i) (fmul p (nth r (20 + i)) ((rvK r) i (nthI cd i))) from rfl)
      generalize sumK p r cd (rvK r) i = s at *
      generalize nthI cd i = x at *
      generalize (rvK r) i x = y' at *
      go_wp2_with fail
      have HXb := Lib.hid (HX.out.trans (Ext.alloc wr (Obj.cells #[.int .i64 x.op, .int .i64 x.a, .int .i64 x.b, .int .i64 x.c] 169)))
      have b0 : (wr.alloc (Obj.cells #[.int .i64 x.op, .int .i64 x.a, .int .i64 x.b, .int .i64 x.c] 169)).cell? ⟨wr.heap.size, 0, none⟩ = some (.int .i64 x.op) := by simp
      have b1 : (wr.alloc (Obj.cells #[.int .i64 x.op, .int .i64 x.a, .int .i64 x.b, .int .i64 x.c] 169)).cell? ⟨wr.heap.size, 1, none⟩ = some (.int .i64 x.a) := by simp
      have b2 : (wr.alloc (Obj.cells #[.int .i64 x.op, .int .i64 x.a, .int .i64 x.b, .int .i64 x.c] 169)).cell? ⟨wr.heap.size, 2, none⟩ = some (.int .i64 x.b) := by simp
      have b3 : (wr.alloc (Obj.cells #[.int .i64 x.op, .int .i64 x.a, .int .i64 x.b, .int .i64 x.c] 169)).cell? ⟨wr.heap.size, 3, none⟩ = some (.int .i64 x.c) := by simp
      have c0 := HXb.out.cell HJ.out.c0
      have c4 := HXb.out.cell HJ.out.c4
      have d := HXb.out.cell (HJ.out.row.cell (20 + i) (by omega))
      have HF := Lib.hid (HJ.out.fld.ext HXb.out)
      have hwr : IntKind.i64.wrap (20 + (i : Int)) = 20 + (i : Int) := IntWalk.i64_in _ (by omega)
      generalize hzb : wr.heap.size = zb at *
      clear hzb e0 e1 e2 e3 hix hll
      generalize wr.alloc (Obj.cells #[.int .i64 x.op, .int .i64 x.a, .int .i64 x.b, .int .i64 x.c] 169) = W at *
      go_region_held3 (fun w' => w'.cell? ⟨q, 0, none⟩ = some f ∧ w'.cell? ⟨q, 4, none⟩ = some rv ∧ w'.cell? (elt rv (20 + i) 1) = some (.int .i64 (nth r (20 + i))) ∧ w'.cell? ⟨zb, 0, none⟩ = some (.int .i64 x.op) ∧ w'.cell? ⟨zb, 1, none⟩ = some (.int .i64 x.a) ∧ w'.cell? ⟨zb, 2, none⟩ = some (.int .i64 x.b) ∧ w'.cell? ⟨zb, 3, none⟩ = some (.int .i64 x.c)) (first | exact ⟨hx3.cell c0, hx3.cell c4, hx3.cell d, hx3.cell b0, hx3.cell b1, hx3.cell b2, hx3.cell b3⟩ | exact ⟨hx2.cell c0, hx2.cell c4, hx2.cell d, hx2.cell b0, hx2.cell b1, hx2.cell b2, hx2.cell b3⟩ | exact ⟨hxc.cell c0, hxc.cell c4, hxc.cell d, hxc.cell b0, hxc.cell b1, hxc.cell b2, hxc.cell b3⟩ | go_keep) (first | (go_at_call 192; refine (HC.out _ (HXb.out.trans (Ext.drew _))).mono ?_; rintro e w1 ⟨rfl, hxa⟩; have hxc := (Ext.drew W).trans hxa) | (go_at_call 123; refine (mul_any (HF.out.ext hxc) _ _).mono ?_; rintro e w2 ⟨rfl, z1, rfl⟩; have hx2 := hxc.trans (Ext.drewN w1 z1)) | (go_at_call 122; refine (add_any (HF.out.ext hx2) _ _).mono ?_; rintro e w3 ⟨rfl, z2, rfl⟩; have hx3 := hxc.trans (Ext.drewN w1 (z1 + z2))))
      have HXR := Lib.hid (HXb.out.trans hx3)
      clear hxa hxc hx2 hx3 c0 c4 d b0 b1 b2 b3 hwr hri
      go_wp2_with fail
      go_roundw
      case rel => exact ⟨i + 1, by omega, by go_num, by rw [HS.out], HXR⟩
      case measure => simp [intOf]; omega
    · obtain rfl : i = cd.length := by omega
      go_wp2_with fail
      go_ret
      exact ⟨rfl, HX.out⟩
set_option maxRecDepth 100000 in
set_option maxHeartbeats 4000000 in
theorem jsum_cell (h : JAt w q f p g fs sz out cd lv rv nv r n) (q1 q2 : Nat) (hq1 : w.cell? ⟨q1, 0, none⟩ = some (.pointer (some ⟨q, 0, none⟩))) (j : Nat) (ji : Int) (hq2 : w.cell? ⟨q2, 0, none⟩ = some (.int .i64 ji)) (hj : (j = 0 ∧ ji = 0) ∨ (j = 1 ∧ ji = 1) ∨ (j = 2 ∧ ji = 2)) (hs : cd.length ≤ 1048576) : Calls Tryz.prog 183 #[.pointer (some ⟨q, 0, none⟩), .func (.func 241) #[] #[.pointer (some ⟨q1, 0, none⟩), .pointer (some ⟨q2, 0, none⟩)]] w fun e w' => e = .returned (.int .i64 (sumK p r cd (cellK p r j) cd.length)) ∧ Ext w w' := by
  have hll := h.code.run_len (P := Tryz.prog) slIns
  have hlr := h.lr
  have HJ := Lib.hid h
  have c2 := h.c2
  have HQ1 := Lib.hid hq1; have HQ2 := Lib.hid hq2; have HJJ := Lib.hid hj
  clear hq1 hq2 hj
  clear h
  go_enter Tryz.func183, Tryz.ntmps183
  go_wp2_with fail
  clear c2
  go_loopw [5, 14] (fun x5 x14 wr => ∃ i : Nat, i ≤ cd.length ∧ x14 = .int .i64 i ∧ x5 = .int .i64 (sumK p r cd (cellK p r j) i) ∧ Hid (Ext w wr)) (fun _ x14 _ => cd.length - (intOf x14).toNat)
  case atStart => exact ⟨0, Nat.zero_le _, rfl, rfl, Lib.hid (Ext.refl _)⟩
  case round =>
    obtain ⟨i, hi, rfl, rfl, HX⟩ := hrel
    by_cases hil : i < cd.length
    · have hix := HJ.out.code.run_index (P := Tryz.prog) slIns i hil
      have hri : ∀ w', (Instr.indexAt 23 rv (.int .i64 (20 + (i : Int)))).run Tryz.prog w' = .ok (.pointer (some (elt rv (20 + i) 1))) w' := by
        intro w'
        have := HJ.out.row.run_index (P := Tryz.prog) slInts (20 + i) (by omega) w'
        simpa using this
      have e0 := HX.out.cell (HJ.out.code.c0 i hil)
      have e1 := HX.out.cell (HJ.out.code.c1 i hil)
      have e2 := HX.out.cell (HJ.out.code.c2 i hil)
      have e3 := HX.out.cell (HJ.out.code.c3 i hil)
      have HC : Hid (∀ w', Ext w w' → Calls Tryz.prog 241 (#[] ++ #[.int .i64 i, .agg #[.int .i64 (nthI cd i).op, .int .i64 (nthI cd i).a, .int .i64 (nthI cd i).b, .int .i64 (nthI cd i).c]] ++ #[.pointer (some ⟨q1, 0, none⟩), .pointer (some ⟨q2, 0, none⟩)]) w' fun e w'' => e = .returned (.int .i64 ((cellK p r j) i (nthI cd i))) ∧ Ext w' w'') := Lib.hid (fun w' HE => (jcell_any (HJ.out.ext HE) q1 q2 (HE.cell HQ1.out) j ji (HE.cell HQ2.out) HJJ.out _ _ _))
      have HS := Lib.hid (show sumK p r cd (cellK p r j) (i + 1) = fadd p (sumK p r cd (cellK p r j) i) (fmul p (nth r (20 + i)) ((cellK p r j) i (nthI cd i))) from rfl)
      generalize sumK p r cd (cellK p r j) i = s at *
      generalize nthI cd i = x at *
      generalize (cellK p r j) i x = y' at *
      go_wp2_with fail
      have HXb := Lib.hid (HX.out.trans (Ext.alloc wr (Obj.cells #[.int .i64 x.op, .int .i64 x.a, .int .i64 x.b, .int .i64 x.c] 169)))
      have b0 : (wr.alloc (Obj.cells #[.int .i64 x.op, .int .i64 x.a, .int .i64 x.b, .int .i64 x.c] 169)).cell? ⟨wr.heap.size, 0, none⟩ = some (.int .i64 x.op) := by simp
      have b1 : (wr.alloc (Obj.cells #[.int .i64 x.op, .int .i64 x.a, .int .i64 x.b, .int .i64 x.c] 169)).cell? ⟨wr.heap.size, 1, none⟩ = some (.int .i64 x.a) := by simp
      have b2 : (wr.alloc (Obj.cells #[.int .i64 x.op, .int .i64 x.a, .int .i64 x.b, .int .i64 x.c] 169)).cell? ⟨wr.heap.size, 2, none⟩ = some (.int .i64 x.b) := by simp
      have b3 : (wr.alloc (Obj.cells #[.int .i64 x.op, .int .i64 x.a, .int .i64 x.b, .int .i64 x.c] 169)).cell? ⟨wr.heap.size, 3, none⟩ = some (.int .i64 x.c) := by simp
      have c0 := HXb.out.cell HJ.out.c0
      have c4 := HXb.out.cell HJ.out.c4
      have d := HXb.out.cell (HJ.out.row.cell (20 + i) (by omega))
      have HF := Lib.hid (HJ.out.fld.ext HXb.out)
      have hwr : IntKind.i64.wrap (20 + (i : Int)) = 20 + (i : Int) := IntWalk.i64_in _ (by omega)
      generalize hzb : wr.heap.size = zb at *
      clear hzb e0 e1 e2 e3 hix hll
      generalize wr.alloc (Obj.cells #[.int .i64 x.op, .int .i64 x.a, .int .i64 x.b, .int .i64 x.c] 169) = W at *
      go_region_held3 (fun w' => w'.cell? ⟨q, 0, none⟩ = some f ∧ w'.cell? ⟨q, 4, none⟩ = some rv ∧ w'.cell? (elt rv (20 + i) 1) = some (.int .i64 (nth r (20 + i))) ∧ w'.cell? ⟨zb, 0, none⟩ = some (.int .i64 x.op) ∧ w'.cell? ⟨zb, 1, none⟩ = some (.int .i64 x.a) ∧ w'.cell? ⟨zb, 2, none⟩ = some (.int .i64 x.b) ∧ w'.cell? ⟨zb, 3, none⟩ = some (.int .i64 x.c)) (first | exact ⟨hx3.cell c0, hx3.cell c4, hx3.cell d, hx3.cell b0, hx3.cell b1, hx3.cell b2, hx3.cell b3⟩ | exact ⟨hx2.cell c0, hx2.cell c4, hx2.cell d, hx2.cell b0, hx2.cell b1, hx2.cell b2, hx2.cell b3⟩ | exact ⟨hxc.cell c0, hxc.cell c4, hxc.cell d, hxc.cell b0, hxc.cell b1, hxc.cell b2, hxc.cell b3⟩ | go_keep) (first | (go_at_call 241; refine (HC.out _ (HXb.out.trans (Ext.drew _))).mono ?_; rintro e w1 ⟨rfl, hxa⟩; have hxc := (Ext.drew W).trans hxa) | (go_at_call 123; refine (mul_any (HF.out.ext hxc) _ _).mono ?_; rintro e w2 ⟨rfl, z1, rfl⟩; have hx2 := hxc.trans (Ext.drewN w1 z1)) | (go_at_call 122; refine (add_any (HF.out.ext hx2) _ _).mono ?_; rintro e w3 ⟨rfl, z2, rfl⟩; have hx3 := hxc.trans (Ext.drewN w1 (z1 + z2))))
      have HXR := Lib.hid (HXb.out.trans hx3)
      clear hxa hxc hx2 hx3 c0 c4 d b0 b1 b2 b3 hwr hri
      go_wp2_with fail
      go_roundw
      case rel => exact ⟨i + 1, by omega, by go_num, by rw [HS.out], HXR⟩
      case measure => simp [intOf]; omega
    · obtain rfl : i = cd.length := by omega
      go_wp2_with fail
      go_ret
      exact ⟨rfl, HX.out⟩
end
end Go.Proofs.YtnmjaddhbecopaaGreatDoor
