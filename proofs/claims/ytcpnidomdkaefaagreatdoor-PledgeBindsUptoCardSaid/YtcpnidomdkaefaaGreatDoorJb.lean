/- Sums of rows, each times a power: the program's side: pledge.Mix: contract. -/
import Derived.Test.YtcpnidomdkaefaaGreatDoorJa
import Derived.Test.YtcpnidomdkaefaaGreatDoorZx15
namespace Go.Att
open Go.RowKit
/-- A row is of another length than the first one. -/
def uneq (rows : List (List Int)) (l : List Int) : Bool := (l.length : Int) != ((nthL rows 0).length : Int)
def rowsBad (rows : List (List Int)) : Bool := rows.length == 0 || rows.any (uneq rows)
theorem rowsBad_no {rows : List (List Int)} (h : rowsBad rows = false) : 0 < rows.length ∧ ∀ i, i < rows.length → (nthL rows i).length = (nthL rows 0).length := by
  unfold rowsBad at h
  simp only [Bool.or_eq_false_iff, beq_eq_false_iff_ne, List.any_eq_false] at h
  refine ⟨by omega, fun i hi => ?_⟩
  have h2 := h.2 (nthL rows i) (by rw [nthL_eq hi]; exact List.getElem_mem hi)
  unfold uneq at h2
  simp only [bne_iff_ne, ne_eq, Decidable.not_not] at h2
  omega
end Go.Att
namespace Go.Proofs.YtcpnidomdkaefaaGreatDoor
open Go.RowKit Go.Att
theorem pmix2_enter (xs : Array Value) (W : World) : (callFunc 59 xs).run Tryz.prog W = .ok (.enter 59 xs) W := by kernel_rfl
section
variable {w : World} {bf : Nat} {p g : Int} {fs : List Int}
set_option maxHeartbeats 1000000 in
theorem pmix2_any (hf : Fld w (.pointer (some ⟨bf, 0, none⟩)) p g fs) (q1 q2 : Nat) (r : Int) (h1 : w.cell? ⟨q1, 0, none⟩ = some (.pointer (some ⟨bf, 0, none⟩))) (h2 : w.cell? ⟨q2, 0, none⟩ = some (.int .i64 r)) (i : Nat) (hi : i ≤ 9223372036854775807) :
    Calls Tryz.prog 59 #[.int .i64 i, .pointer (some ⟨q1, 0, none⟩), .pointer (some ⟨q2, 0, none⟩)] w (Rd w (.int .i64 (fpow p r i))) := by
  have HF := Lib.hid hf
  clear hf
  go_enter Tryz.func59, Tryz.ntmps59
  go_wp2_with (go_at_call 42; refine (pow_any HF.out r i (by omega) (by omega)).mono ?_; rw [Int.toNat_natCast]; rintro e w' ⟨rfl, m, rfl⟩)
  go_ret
  exact .more _ rfl
theorem pmix1_any (v vr : Value) (l : List Int) (rows : List (List Int)) (R : Nat → Value) (w : World) (q : Nat) (hq : w.cell? ⟨q, 0, none⟩ = some vr) (hv : Ints w v l) (hr : RwsAt w vr rows R) (h0 : 0 < rows.length) :
    Calls Tryz.prog 57 #[v, .pointer (some ⟨q, 0, none⟩)] w fun e w' => e = .returned (.bool (uneq rows l)) ∧ w = w' := by
  have hl := hv.run_len (P := Tryz.prog) slInts
  have hi0 := hr.run_index (P := Tryz.prog) slRows 0 h0
  have hc0 := hr.cell 0 h0
  have hl0 := (hr.row 0 h0).run_len (P := Tryz.prog) slInts
  rw [show ((0 : Nat) : Int) = 0 from rfl] at hi0
  obtain ⟨ao, cap, rfl⟩ := hr.shape
  clear hv hr
  go_enter Tryz.func57, Tryz.ntmps57
  go_wp2_with fail
  go_ret
  exact ⟨rfl, rfl⟩
set_option maxRecDepth 100000 in
set_option maxHeartbeats 1000000 in
theorem pmixindex_any (vr : Value) (rows : List (List Int)) (R : Nat → Value) (w : World) (q : Nat) (hq : w.cell? ⟨q, 0, none⟩ = some vr) (hv : RwsAt w vr rows R) :
    Calls Tryz.prog 93 #[vr, .func (Fn.func 57) #[] #[.pointer (some ⟨q, 0, none⟩)]] w (RdI w fun r => decide (0 ≤ r) = rows.any (uneq rows)) := by
  have hl := hv.run_len (P := Tryz.prog) slRows
  have hlen := hv.len
  have HQ := Lib.hid hq
  have HV := Lib.hid hv; clear hv hq
  go_enter Tryz.func93, Tryz.ntmps93
  go_wp2
  go_loop [5, 8] (fun _ x8 => ∃ i : Nat, i ≤ rows.length ∧ x8 = .int .i64 i ∧ Hid (∀ j, j < i → uneq rows (nthL rows j) = false)) (fun _ x8 => rows.length - (intOf x8).toNat)
  case atStart => exact ⟨0, Nat.zero_le _, rfl, Lib.hid (fun j hj => by omega)⟩
  case round =>
    obtain ⟨i, hi, rfl, H⟩ := hrel
    by_cases hlt : i < rows.length
    · have hix := HV.out.run_index (P := Tryz.prog) slRows i hlt
      have hcell := HV.out.cell i hlt
      cases he : uneq rows (nthL rows i) with
      | false =>
        have HE := Lib.hid he; clear he
        go_wp2_with (go_at_call 57; refine (pmix1_any _ vr _ rows R _ q HQ.out (HV.out.row i hlt) HV.out (by omega)).mono ?_; rw [HE.out]; rintro e w' ⟨rfl, rfl⟩)
        go_round
        case rel => exact ⟨i + 1, by omega, by go_num, Lib.hid (fun j hj => by
            rcases Nat.lt_or_eq_of_le (show j ≤ i by omega) with h | rfl
            · exact H.out j h
            · exact HE.out)⟩
        case measure => simp [intOf]; omega
      | true =>
        have HE := Lib.hid he; clear he
        have HA := Lib.hid (show rows.any (uneq rows) = true from List.any_eq_true.2 ⟨nthL rows i, by rw [nthL_eq hlt]; exact List.getElem_mem hlt, HE.out⟩)
        go_wp2_with (go_at_call 57; refine (pmix1_any _ vr _ rows R _ q HQ.out (HV.out.row i hlt) HV.out (by omega)).mono ?_; rw [HE.out]; rintro e w' ⟨rfl, rfl⟩)
        go_ret
        exact ⟨i, by rw [HA.out]; simp, rfl, 0, rfl⟩
    · obtain rfl : i = rows.length := by omega
      have HA := Lib.hid (show rows.any (uneq rows) = false by
        rw [List.any_eq_false]
        intro l hl
        obtain ⟨j, hj, rfl⟩ := List.getElem_of_mem hl
        have := H.out j hj
        rw [nthL_eq hj] at this; simp [this])
      go_wp2_with fail
      go_ret
      exact ⟨-1, by rw [HA.out]; rfl, rfl, 0, rfl⟩
theorem pmixcontains_any (vr : Value) (rows : List (List Int)) (R : Nat → Value) (w : World) (q : Nat) (hq : w.cell? ⟨q, 0, none⟩ = some vr) (hv : RwsAt w vr rows R) :
    Calls Tryz.prog 39 #[vr, .func (Fn.func 57) #[] #[.pointer (some ⟨q, 0, none⟩)]] w (Rd w (.bool (rows.any (uneq rows)))) := by
  have HV := Lib.hid hv; have HQ := Lib.hid hq; clear hv hq
  go_enter Tryz.func39, Tryz.ntmps39
  go_wp2_with (go_at_call 93; refine (pmixindex_any _ _ _ _ q HQ.out HV.out).mono ?_; rintro e w' ⟨r, hr, rfl, m, rfl⟩; have HR := Lib.hid hr; clear hr)
  go_ret
  exact .more _ (ret_bool HR.out)
set_option maxRecDepth 100000 in
set_option maxHeartbeats 4000000 in
theorem pmix_any (hf : Fld w (.pointer (some ⟨bf, 0, none⟩)) p g fs) (vr : Value) (rows : List (List Int)) (hr : Rws w vr rows) (r : Int) (hb : (nthL rows 0).length ≤ 4294967290) :
    Calls Tryz.prog 12 #[.pointer (some ⟨bf, 0, none⟩), vr, .int .i64 r] w (Gives w fun u w' => (rowsBad rows = true ∧ u = .tuple #[.slice none 0 0, errv 2]) ∨ (rowsBad rows = false ∧ ∃ v, u = .tuple #[v, .nilIface] ∧ Ints w' v (mxU p (fun i => fpow p r i) rows (nthL rows 0).length rows.length))) := by
  obtain ⟨R, hr⟩ := hr
  obtain ⟨ao, cap, rfl⟩ := hr.shape
  have hrl := hr.len
  have hlr := hr.run_len (P := Tryz.prog) slRows
  have HF := Lib.hid hf; have HR := Lib.hid hr
  have HX0 := Lib.hid (((Ext.alloc w (Obj.cells #[.pointer (some ⟨bf, 0, none⟩)] 47)).trans (Ext.alloc _ (Obj.cells #[.slice ao rows.length cap] 23))).trans (Ext.alloc _ (Obj.cells #[.int .i64 r] 3)))
  have k0 := ((Ext.alloc (w.alloc (Obj.cells #[.pointer (some ⟨bf, 0, none⟩)] 47)) (Obj.cells #[.slice ao rows.length cap] 23)).trans (Ext.alloc _ (Obj.cells #[.int .i64 r] 3))).cell (cell_new w #[.pointer (some ⟨bf, 0, none⟩)] 47 0)
  have k1 := (Ext.alloc ((w.alloc (Obj.cells #[.pointer (some ⟨bf, 0, none⟩)] 47)).alloc (Obj.cells #[.slice ao rows.length cap] 23)) (Obj.cells #[.int .i64 r] 3)).cell (cell_new (w.alloc (Obj.cells #[.pointer (some ⟨bf, 0, none⟩)] 47)) #[.slice ao rows.length cap] 23 0)
  have k2 := cell_new ((w.alloc (Obj.cells #[.pointer (some ⟨bf, 0, none⟩)] 47)).alloc (Obj.cells #[.slice ao rows.length cap] 23)) #[.int .i64 r] 3 0
  rw [World.size_alloc] at k1
  rw [World.size_alloc, World.size_alloc] at k2
  have HK0 := Lib.hid k0; have HK1 := Lib.hid k1; have HK2 := Lib.hid k2
  clear hf hr k0 k1 k2
  go_enter Tryz.func12, Tryz.ntmps12
  go_upto_region 1 with (fail)
  generalize ((w.alloc (Obj.cells #[.pointer (some ⟨bf, 0, none⟩)] 47)).alloc (Obj.cells #[.slice ao rows.length cap] 23)).alloc (Obj.cells #[.int .i64 r] 3) = w1 at *
  have k0 : w1.cell? ⟨w.heap.size, 0, none⟩ = some (.pointer (some ⟨bf, 0, none⟩)) := HK0.out
  have k1 : w1.cell? ⟨w.heap.size + 1, 0, none⟩ = some (.slice ao rows.length cap) := HK1.out
  have k2 : w1.cell? ⟨w.heap.size + 1 + 1, 0, none⟩ = some (.int .i64 r) := HK2.out
  by_cases h0 : rows.length = 0
  · have b0 : ((rows.length : Int) == 0) = true := by rw [beq_iff_eq]; omega
    have HB := Lib.hid (show rowsBad rows = true from by unfold rowsBad; rw [h0]; rfl)
    clear h0
    go_wp2_with fail
    go_ret2
    exact .mk _ rfl HX0.out (.inl ⟨HB.out, rfl⟩)
  have b0 : ((rows.length : Int) == 0) = false := by rw [beq_eq_false_iff_ne]; omega
  have HP := Lib.hid (show 0 < rows.length by omega)
  by_cases h1 : rows.any (uneq rows) = true
  · have HB := Lib.hid (show rowsBad rows = true from by unfold rowsBad; rw [h1, Bool.or_true])
    have H1 := Lib.hid h1
    clear h0 h1
    go_wp2_with (go_at_call 39; refine (pmixcontains_any _ rows R _ _ k1 (HR.out.ext HX0.out)).mono ?_; rw [H1.out]; rintro e w2 ⟨rfl, n2, rfl⟩)
    go_ret2
    exact .mk _ rfl (HX0.out.trans (Ext.drewN w1 n2)) (.inl ⟨HB.out, rfl⟩)
  have h1' : rows.any (uneq rows) = false := by simpa using h1
  have hbad : rowsBad rows = false := by unfold rowsBad; rw [h1', Bool.or_false, beq_eq_false_iff_ne]; exact h0
  have HB := Lib.hid hbad
  have HEQ := Lib.hid (rowsBad_no hbad).2
  have H1 := Lib.hid h1'
  clear h0 h1 h1' hbad
  go_upto_region 3 with (go_at_call 39; refine (pmixcontains_any _ rows R _ _ k1 (HR.out.ext HX0.out)).mono ?_; rw [H1.out]; rintro e w2 ⟨rfl, n2, rfl⟩)
  have HX2 := Lib.hid (HX0.out.trans (Ext.drewN w1 n2))
  replace k0 := (Ext.drewN w1 n2).cell k0; replace k1 := (Ext.drewN w1 n2).cell k1; replace k2 := (Ext.drewN w1 n2).cell k2
  generalize w1.drewN n2 = w3 at *
  have HCL := Lib.hid (fun (W : World) (i : Nat) (hW : Ext w3 W) (hi : i < rows.length) => pmix2_any (HF.out.ext (HX2.out.trans hW)) w.heap.size (w.heap.size + 1 + 1) r (hW.cell k0) (hW.cell k2) i (by omega))
  go_wp2_with (go_at_call 58; refine (weighed_any (HF.out.ext HX2.out) _ rows R (HR.out.ext HX2.out) (nthL rows 0).length HP.out HEQ.out hb 59 _ _ (fun i => fpow p r i) pmix2_enter HCL.out).mono ?_; rintro e w4 ⟨v4, rfl, hx4, ho4⟩; have HO4 := Lib.hid ho4; have HX4 := Lib.hid (HX2.out.trans hx4); clear ho4 hx4)
  go_ret2
  exact .mk _ rfl HX4.out (.inr ⟨HB.out, _, rfl, Ints.of_own HO4.out⟩)
end
end Go.Proofs.YtcpnidomdkaefaaGreatDoor
