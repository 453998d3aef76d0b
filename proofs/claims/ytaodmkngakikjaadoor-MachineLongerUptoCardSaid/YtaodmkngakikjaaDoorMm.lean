/- What runs tell compared; code copied and compared; a field by itself: contracts. -/
import Derived.Test.YtaodmkngakikjaaDoorIq
import Derived.Test.YtaodmkngakikjaaDoorM2
import Derived.Test.YtaodmkngakikjaaDoorQt
import Derived.Test.YtaodmkngakikjaaDoorFc
import Derived.BigQuiet
namespace Go.Proofs.YtaodmkngakikjaaDoor
open Go.RowKit Go.Att
theorem slCellM : SlT Tryd.prog 29 57 2 16 (.agg #[.int .i64 0, .int .i64 0]) := .mk' Tryd.underlying29 (by kernel_rfl) (by decide)
theorem prs_shape {w : World} {v : Value} {l : List (Int × Int)} (h : Prs w v l) : ∃ ao cap, v = .slice ao l.length cap := by
  obtain ⟨ao, cap, h1, _⟩ := h; exact ⟨ao, cap, h1⟩
/-- Two boxes, as they lie. -/
theorem two_boxes (w : World) (xs ys : List Value) (t u : TypeId) : ∃ W, (w.alloc (Obj.cells xs.toArray t)).alloc (Obj.cells ys.toArray u) = W ∧ BlkOf W w.heap.size xs t ∧ BlkOf W (w.heap.size + 1) ys u ∧ Ext w W := by
  refine ⟨_, rfl, (BlkOf.new w xs t).ext (Ext.alloc _ _), ?_, (Ext.alloc _ _).trans (Ext.alloc _ _)⟩
  have := BlkOf.new (w.alloc (Obj.cells xs.toArray t)) ys u
  rwa [show (w.alloc (Obj.cells xs.toArray t)).heap.size = w.heap.size + 1 by simp] at this
set_option maxRecDepth 100000 in
set_option maxHeartbeats 4000000 in
/-- The same told twice. -/
theorem rans_same {w : World} {out n : Int} {v u : Value} {L : List (Int × Int)} (hv : Prs w v L) (hu : Prs w u L) : Calls Tryd.prog 10 #[.agg #[.int .i64 out, .int .i64 n, v], .agg #[.int .i64 out, .int .i64 n, u]] w fun e w' => e = .returned (.bool true) ∧ Ext w w' := by
  obtain ⟨av, cv, rfl⟩ := prs_shape hv
  obtain ⟨au, cu, rfl⟩ := prs_shape hu
  have hln := hv.len
  have hlv := hv.run_len (P := Tryd.prog) slCellM 3
  have hlu := hu.run_len (P := Tryd.prog) slCellM 3
  obtain ⟨W, hW, hb1, hb2, hx⟩ := two_boxes w [.int .i64 out, .int .i64 n, .slice av L.length cv] [.int .i64 out, .int .i64 n, .slice au L.length cu] 31 31
  have HV := Lib.hid (hv.ext hx); have HU := Lib.hid (hu.ext hx); have HX := Lib.hid hx
  have HB1 := Lib.hid hb1; have HB2 := Lib.hid hb2; have HW := Lib.hid hW
  clear hv hu hx hb1 hb2 hW
  go_enter Tryd.func10, Tryd.ntmps10
  go_upto_region 1 with (fail)
  rw [show ((w.alloc (Obj.cells #[.int .i64 out, .int .i64 n, .slice av L.length cv] 31)).alloc (Obj.cells #[.int .i64 out, .int .i64 n, .slice au L.length cu] 31)) = W from HW.out]
  generalize hk2 : w.heap.size + 1 = k2 at *
  generalize hk1 : w.heap.size = k1 at *
  clear hk1 hk2 HW
  have a0 : W.cell? ⟨k1, 0, none⟩ = some (.int .i64 out) := HB1.out.cell 0
  have a1 : W.cell? ⟨k1, 1, none⟩ = some (.int .i64 n) := HB1.out.cell 1
  have a2 : W.cell? ⟨k1, 2, none⟩ = some (.slice av L.length cv) := HB1.out.cell 2
  have b0 : W.cell? ⟨k2, 0, none⟩ = some (.int .i64 out) := HB2.out.cell 0
  have b1 : W.cell? ⟨k2, 1, none⟩ = some (.int .i64 n) := HB2.out.cell 1
  have b2 : W.cell? ⟨k2, 2, none⟩ = some (.slice au L.length cu) := HB2.out.cell 2
  clear HB1 HB2
  go_wp2_with fail
  go_loopw [5] (fun x5 wr => ∃ i m : Nat, x5 = .int .i64 i ∧ i ≤ L.length ∧ wr = W.drewN m) (fun x5 _ => L.length - (intOf x5).toNat)
  case atStart => exact ⟨0, 0, rfl, Nat.zero_le _, rfl⟩
  case round =>
    obtain ⟨i, m, rfl, hi, rfl⟩ := hrel
    by_cases hlt : i < L.length
    · have hia := HV.out.run_index (P := Tryd.prog) slCellM i hlt
      have hib := HU.out.run_index (P := Tryd.prog) slCellM i hlt
      have d0 := HV.out.fst i hlt
      have d1 := HV.out.snd i hlt
      have d2 := HU.out.fst i hlt
      have d3 := HU.out.snd i hlt
      go_wp2_with fail
      go_quiet (fail)
      go_wp2_with fail
      go_roundw
      case rel => exact ⟨i + 1, _, by go_num, by omega, rfl⟩
      case measure => simp [intOf]; omega
    · obtain rfl : i = L.length := by omega
      go_wp2_with fail
      go_ret
      exact ⟨rfl, HX.out.trans (Ext.drewN _ _)⟩
set_option maxRecDepth 100000 in
set_option maxHeartbeats 4000000 in
/-- The same code twice. -/
theorem alike_same {w : World} {sz : Int} {v u : Value} {L : List In4} (hv : Inqs w v L) (hu : Inqs w u L) : Calls Tryd.prog 11 #[.agg #[.int .i64 sz, v], .agg #[.int .i64 sz, u]] w fun e w' => e = .returned (.bool true) ∧ Ext w w' := by
  obtain ⟨av, cv, rfl⟩ := hv.shape
  obtain ⟨au, cu, rfl⟩ := hu.shape
  have hln := hv.len
  have hlv := hv.run_len (P := Tryd.prog) slIns 3
  have hlu := hu.run_len (P := Tryd.prog) slIns 3
  obtain ⟨W, hW, hb1, hb2, hx⟩ := two_boxes w [.int .i64 sz, .slice av L.length cv] [.int .i64 sz, .slice au L.length cu] 24 24
  have HV := Lib.hid (hv.ext hx); have HU := Lib.hid (hu.ext hx); have HX := Lib.hid hx
  have HB1 := Lib.hid hb1; have HB2 := Lib.hid hb2; have HW := Lib.hid hW
  clear hv hu hx hb1 hb2 hW
  go_enter Tryd.func11, Tryd.ntmps11
  go_upto_region 1 with (fail)
  rw [show ((w.alloc (Obj.cells #[.int .i64 sz, .slice av L.length cv] 24)).alloc (Obj.cells #[.int .i64 sz, .slice au L.length cu] 24)) = W from HW.out]
  generalize hk2 : w.heap.size + 1 = k2 at *
  generalize hk1 : w.heap.size = k1 at *
  clear hk1 hk2 HW
  have a0 : W.cell? ⟨k1, 0, none⟩ = some (.int .i64 sz) := HB1.out.cell 0
  have a1 : W.cell? ⟨k1, 1, none⟩ = some (.slice av L.length cv) := HB1.out.cell 1
  have b0 : W.cell? ⟨k2, 0, none⟩ = some (.int .i64 sz) := HB2.out.cell 0
  have b1 : W.cell? ⟨k2, 1, none⟩ = some (.slice au L.length cu) := HB2.out.cell 1
  clear HB1 HB2
  go_wp2_with fail
  go_loopw [5] (fun x5 wr => ∃ i m : Nat, x5 = .int .i64 i ∧ i ≤ L.length ∧ wr = W.drewN m) (fun x5 _ => L.length - (intOf x5).toNat)
  case atStart => exact ⟨0, 0, rfl, Nat.zero_le _, rfl⟩
  case round =>
    obtain ⟨i, m, rfl, hi, rfl⟩ := hrel
    by_cases hlt : i < L.length
    · have hia := HV.out.run_index (P := Tryd.prog) slIns i hlt
      have hib := HU.out.run_index (P := Tryd.prog) slIns i hlt
      have d0 := HV.out.c0 i hlt
      have d1 := HV.out.c1 i hlt
      have d2 := HV.out.c2 i hlt
      have d3 := HV.out.c3 i hlt
      have e0 := HU.out.c0 i hlt
      have e1 := HU.out.c1 i hlt
      have e2 := HU.out.c2 i hlt
      have e3 := HU.out.c3 i hlt
      go_wp2_with fail
      go_quiet (fail)
      go_wp2_with fail
      go_roundw
      case rel => exact ⟨i + 1, _, by go_num, by omega, rfl⟩
      case measure => simp [intOf]; omega
    · obtain rfl : i = L.length := by omega
      go_wp2_with fail
      go_ret
      exact ⟨rfl, HX.out.trans (Ext.drewN _ _)⟩
theorem flatQ_cells (L : List In4) : ∀ u ∈ flatQ L, u.oneCell' = true := by
  intro u hu
  unfold flatQ at hu
  rw [List.mem_flatMap] at hu
  obtain ⟨c, _, hc⟩ := hu
  simp only [List.mem_cons, List.not_mem_nil, or_false] at hc
  rcases hc with rfl | rfl | rfl | rfl <;> rfl
/-- The results of copied, as they lie. -/
theorem res_copied {w : World} {rb : Nat} {x v : Value} (h : BlkOf w rb [x, v] 24) (tmps : Array Value) (g : tmps.getD 2 undef = .pointer (some ⟨rb, 0, none⟩)) :
    (results Tryd.f6 tmps).run Tryd.prog w = .ok (.agg #[x, v]) w := by
  have g' : tmps[2]?.getD undef = .pointer (some ⟨rb, 0, none⟩) := by simpa using g
  have k0 : w.cell? ⟨rb, 0, none⟩ = some x := h.cell 0
  have k1 : w.cell? ⟨rb, 1, none⟩ = some v := h.cell 1
  clear h
  simp [results, Tryd.results6, go_sem, g', k0, k1]
set_option maxRecDepth 100000 in
set_option maxHeartbeats 4000000 in
/-- Code that is the call's own. -/
theorem ccopied_any {w : World} {sz : Int} {v : Value} {L : List In4} (hv : Inqs w v L) (hl : L.length ≤ 4294967295) : Calls Tryd.prog 6 #[.agg #[.int .i64 sz, v]] w fun e w' => ∃ u, e = .returned (.agg #[.int .i64 sz, u]) ∧ Inqs w' u L ∧ Ext w w' := by
  obtain ⟨av, cv, rfl⟩ := hv.shape
  obtain ⟨W, hW, hb1, hb2, hx⟩ := two_boxes w [.int .i64 sz, .slice av L.length cv] [.int .i64 0, .slice none 0 0] 24 24
  have HV := Lib.hid (hv.ext hx); have HX := Lib.hid hx
  have HB1 := Lib.hid hb1; have HB2 := Lib.hid hb2; have HW := Lib.hid hW
  have hqq := flatQ_cells L
  clear hv hx hb1 hb2 hW
  go_enter Tryd.func6, Tryd.ntmps6
  go_upto_region 1 with (fail)
  rw [show ((w.alloc (Obj.cells #[.int .i64 sz, .slice av L.length cv] 24)).alloc (Obj.cells #[.int .i64 0, .slice none 0 0] 24)) = W from HW.out]
  obtain ⟨k2, hk2⟩ : ∃ k, k = w.heap.size + 1 := ⟨_, rfl⟩
  rw [← hk2] at HB2 ⊢
  have HK2 := Lib.hid hk2
  generalize hk1 : w.heap.size = k1 at *
  have HK1 := Lib.hid hk1
  have HLT := Lib.hid HB2.out.lt
  clear hk1 hk2 HW
  have a1 : W.cell? ⟨k1, 1, none⟩ = some (.slice av L.length cv) := HB1.out.cell 1
  have a1' : (W.alloc (Obj.cells #[] 69)).cell? ⟨k1, 1, none⟩ = some (.slice av L.length cv) := (Ext.alloc _ _).cell a1
  go_wp2_with (at_builtin; refine wpList_appSl rfl _ _ 22 rfl slIns rfl (Ext.alloc W (Obj.cells #[] 69)) (World.ownsRow_made W #[] 0 (Nat.le_refl _) (Nat.zero_le _) rfl) rfl (HV.out.ext (Ext.alloc W _)) hqq rfl (by omega) (by omega) ?_; intro v1 w1 HO1 HX1 _; simp only [Nat.zero_add, List.nil_append] at HO1; obtain ⟨au, cu, rfl⟩ := own_shape HO1; have HO1H := Lib.hid HO1; have HX1H := Lib.hid HX1; have HB1' := Lib.hid (HB1.out.ext HX1); have HB2' := Lib.hid (HB2.out.ext HX1); clear HO1 HX1 a1 a1' HB1 HB2; have a0 : w1.cell? ⟨k1, 0, none⟩ = some (.int .i64 sz) := HB1'.out.cell 0; have b0 : w1.cell? ⟨k2, 0, none⟩ = some (.int .i64 0) := HB2'.out.cell 0; have b1 : w1.cell? ⟨k2, 1, none⟩ = some (.slice none 0 0) := HB2'.out.cell 1; have f0 := HB2'.out.free 0; have f1 := HB2'.out.free 1)
  have hnr : ((.slice au L.length cu) : Value).ownBlock ≠ some k2 := fun e => by
    have h1 := (HO1H.out.lt k2 e).1
    have h2 := HX.out.size
    have h3 := HK1.out
    have h4 := HK2.out
    have h5 := HLT.out
    omega
  have hb : w.heap.size ≤ k2 := by have := HK1.out; have := HK2.out; omega
  have hbl := (HB2'.out.set 0 (.int .i64 sz)).set 1 (.slice au L.length cu)
  have hgr := grown_one (setCell_grown w1 k2 0 (.int .i64 sz)) (setCell_grown _ k2 1 (.slice au L.length cu))
  have hv := Sl.of_own ((Turned.one (c := k2) hgr).own HO1H.out hnr hnr) (by omega)
  refine bodyPost_ret (v := .agg #[.int .i64 sz, .slice au L.length cu]) (res_copied hbl _ rfl) rfl ?_
  exact ⟨_, rfl, hv, ((HX.out.trans HX1H.out).below.setCell hb _).setCell hb _⟩
/-- A field, or none. -/
theorem plain_bad6 (p : Int) (w : World) (h : ¬ okP p) : Calls Tryd.prog 13 #[.int .i64 p] w fun e w' => e = .returned (.pointer none) ∧ w = w' := by
  have H := Lib.hid h; clear h
  go_enter Tryd.func13, Tryd.ntmps13
  go_wp2_with (go_at_call 14; refine (new_bad _ _ H.out).mono ?_; rintro e w' ⟨rfl, rfl⟩; rw [errv_pos (by decide)])
  go_ret
  exact ⟨rfl, rfl⟩
theorem plain_ok6 (p : Int) (w : World) (h : okP p) : Calls Tryd.prog 13 #[.int .i64 p] w (Gives w fun v w' => ∃ g, FieldOf w' v p g) := by
  have H := Lib.hid h; clear h
  go_enter Tryd.func13, Tryd.ntmps13
  go_wp2_with (go_at_call 14; refine (new_ok _ _ H.out).mono ?_; rintro e w1 ⟨v, rfl, hx, f, g, rfl, hf⟩; obtain ⟨b, rfl⟩ := hf.ptr)
  go_ret
  exact ⟨_, rfl, hx, g, hf⟩
end Go.Proofs.YtaodmkngakikjaaDoor
