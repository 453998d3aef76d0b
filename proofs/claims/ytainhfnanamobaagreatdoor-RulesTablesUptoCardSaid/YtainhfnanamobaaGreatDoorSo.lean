/- The document's sort of pairs: whose the list is. -/
import Derived.Test.YtainhfnanamobaaGreatDoorGa
namespace Go.Proofs.YtainhfnanamobaaGreatDoor
open Go.RowKit Go.Att
set_option maxRecDepth 100000 in
set_option maxHeartbeats 4000000 in
/-- The same, with whose the list is. -/
theorem sorted_own (v : Value) (l : List (Int × Int)) (w : World) (hv : Prs w v l) (hs : l.length ≤ 4294967295) :
    Calls Tryz.prog 53 #[v] w (Gives w fun v' w' => ∃ l', w'.ownsRow w.heap.size 110 2 v' l.length (flatP l') ∧ l'.Perm l ∧ Ord l' l'.length) := by
  have HV := Lib.hid hv; clear hv
  go_enter Tryz.func53, Tryz.ntmps53
  go_wp2_with (at_builtin; refine wpList_appSl rfl _ _ 62 rfl slCells rfl (Ext.alloc w _) (World.ownsRow_made w #[] 0 (Nat.le_refl _) (Nat.zero_le _) rfl) rfl (HV.out.ext (Ext.alloc w _)) (flatP_one _) rfl (by omega) (by omega) ?_; intro v1 w1 HO HX _)
  simp only [Nat.zero_add, List.nil_append] at HO
  go_loopw [4] (fun x4 wr => ∃ (i : Nat) (l1 : List (Int × Int)), x4 = .int .i64 i ∧ 1 ≤ i ∧ (i ≤ l.length ∨ i = 1) ∧ l1.length = l.length ∧ wr.ownsRow w.heap.size 110 2 v1 l.length (flatP l1) ∧ Ext w wr ∧ Hid (l1.Perm l ∧ Ord l1 i)) (fun x4 _ => l.length + 1 - (intOf x4).toNat)
  case atStart => exact ⟨1, l, rfl, Nat.le_refl _, .inr rfl, rfl, HO, HX, Lib.hid ⟨List.Perm.refl _, fun a b h1 h2 => by omega⟩⟩
  case round =>
    obtain ⟨i, l1, rfl, hi0, hi1, hlen, HO1, HX1, H⟩ := hrel
    have HL := Lib.hid hlen; clear hlen
    have hl1 := (Prs.of_own HO1).run_len (P := Tryz.prog) slCells
    rw [HL.out] at hl1
    by_cases hlt : i < l.length
    · go_wp2
      go_loopw [5] (fun x5 wr => ∃ (k : Nat) (l2 : List (Int × Int)), x5 = .int .i64 k ∧ k ≤ i ∧ wr.ownsRow w.heap.size 110 2 v1 l.length (flatP l2) ∧ Ext w wr ∧ Hid (l2.length = l.length ∧ l2.Perm l ∧ Ins l2 k i)) (fun x5 _ => (intOf x5).toNat)
      case atStart => exact ⟨i, l1, rfl, Nat.le_refl _, HO1, HX1, Lib.hid ⟨HL.out, H.out.1, H.out.2.ins⟩⟩
      case round =>
        obtain ⟨k, l2, rfl, hk1, HO2, HX2, H2⟩ := hrel
        have HL2 := Lib.hid H2.out.1
        by_cases hk0 : 0 < k
        · have hik := (Prs.of_own HO2).run_index (P := Tryz.prog) slCells k (by rw [HL2.out]; omega)
          have hik1 := (Prs.of_own HO2).run_index (P := Tryz.prog) slCells (k - 1) (by rw [HL2.out]; omega)
          rw [show ((k - 1 : Nat) : Int) = (k : Int) - 1 by omega] at hik1
          have c1 := (Prs.of_own HO2).fst k (by rw [HL2.out]; omega)
          have c2 := (Prs.of_own HO2).snd k (by rw [HL2.out]; omega)
          have d1 := (Prs.of_own HO2).fst (k - 1) (by rw [HL2.out]; omega)
          have d2 := (Prs.of_own HO2).snd (k - 1) (by rw [HL2.out]; omega)
          have hw : IntKind.i64.wrap ((k : Int) - 1) = (k : Int) - 1 := IntWalk.i64_in _ (by omega)
          clear hl1
          by_cases hb : ltP (nthP l2 k) (nthP l2 (k - 1))
          · have HB : Hid (ltB (nthP l2 k) (nthP l2 (k - 1)) = true) := decide_eq_true hb
            have HS := Lib.hid (Ins.step H2.out.2.2 hk0 hk1 (by rw [HL2.out]; omega) hb); clear hb
            go_wp2_with fail
            go_still_tail 9, (by kernel_rfl)
            change wpList _ _ _ _ _ wr.drew
            go_wp2_with (first | (go_at_call 98; refine (ahead_any _ _ _).mono ?_; rintro e w2 ⟨rfl, hx2⟩; rw [HB.out]; replace hx2 := (Ext.drew wr).trans hx2; replace HO2 := own_ext HO2 hx2; replace HX2 := HX2.trans hx2; replace c1 := hx2.cell c1; replace c2 := hx2.cell c2; have d3 := (Ext.alloc w2 (Obj.cells #[.int .i64 (nthP l2 k).1, .int .i64 (nthP l2 k).2] 110)).cell (hx2.cell d1); have d4 := (Ext.alloc w2 (Obj.cells #[.int .i64 (nthP l2 k).1, .int .i64 (nthP l2 k).2] 110)).cell (hx2.cell d2); clear hx2 d1 d2) | (refine wpList_setP rfl rfl _ _ _ rfl slCells (own_ext HO2 (Ext.alloc _ _)) k (by omega) rfl (nthP l2 (k - 1)) rfl ?_; intro w3 HO3 HG3; have hne : some w2.heap.size ≠ v1.ownBlock := (fun e => Nat.lt_irrefl _ (HO2.lt _ e.symm).2); have e1 := HG3.cell (a := ⟨w2.heap.size, 0, none⟩) (show _ = some (Value.int .i64 (nthP l2 k).1) by simp) hne; have e2 := HG3.cell (a := ⟨w2.heap.size, 1, none⟩) (show _ = some (Value.int .i64 (nthP l2 k).2) by simp) hne; have HX3 := Ext.grown (HX2.trans (Ext.alloc _ _)) (own_ext HO2 (Ext.alloc _ _)) HG3; clear HG3 hne d3 d4) | (refine wpList_setP rfl rfl _ _ _ rfl slCells HO3 (k - 1) (by omega) rfl (nthP l2 k) rfl ?_; intro w4 HO4 HG4))
            go_roundw
            case rel => exact ⟨k - 1, swapP l2 k, by congr 1; omega, by omega, HO4, Ext.grown HX3 HO3 HG4, Lib.hid ⟨by rw [swapP_length]; exact HL2.out, (perm_swap hk0 (by rw [HL2.out]; omega)).trans H2.out.2.1, HS.out⟩⟩
            case measure => simp [intOf]; omega
          · have HB : Hid (ltB (nthP l2 k) (nthP l2 (k - 1)) = false) := decide_eq_false hb
            have HS := Lib.hid (Ins.stop H2.out.2.2 hk0 hk1 hb); clear hb
            go_wp2_with fail
            go_still_tail 9, (by kernel_rfl)
            change wpList _ _ _ _ _ wr.drew
            go_wp2_with (go_at_call 98; refine (ahead_any _ _ _).mono ?_; rintro e w2 ⟨rfl, hx2⟩; rw [HB.out]; replace hx2 := (Ext.drew wr).trans hx2)
            go_roundw
            case rel => exact ⟨i + 1, l2, by go_num, by omega, .inl (by omega), HL2.out, own_ext HO2 hx2, HX2.trans hx2, Lib.hid ⟨H2.out.2.1, HS.out⟩⟩
            case measure => simp [intOf]; omega
        · obtain rfl : k = 0 := by omega
          have HS := Lib.hid (Ins.zero H2.out.2.2)
          go_wp2_with fail
          go_roundw
          case rel => exact ⟨i + 1, l2, by go_num, by omega, .inl (by omega), HL2.out, HO2, HX2, Lib.hid ⟨H2.out.2.1, HS.out⟩⟩
          case measure => simp [intOf]; omega
    · go_wp2_with fail
      go_ret
      exact .mk _ rfl HX1 ⟨l1, HO1, H.out.1, fun a b h1 h2 => H.out.2 a b h1 (by have := HL.out; omega)⟩
end Go.Proofs.YtainhfnanamobaaGreatDoor
