/- Are two lists of pairs the same ones, each as often? Contract. -/
import Derived.Test.YthjemncbphdomaaDoorG4
namespace Go.Att
noncomputable def permB (a b : List (Int × Int)) : Bool := @decide (a.Perm b) (Classical.propDecidable _)
theorem permB_true {a b : List (Int × Int)} (h : a.Perm b) : permB a b = true := @decide_eq_true _ (Classical.propDecidable _) h
theorem permB_false {a b : List (Int × Int)} (h : ¬ a.Perm b) : permB a b = false := @decide_eq_false _ (Classical.propDecidable _) h
theorem eq_of_nthP {a b : List (Int × Int)} (hl : a.length = b.length) (h : ∀ i, i < a.length → nthP a i = nthP b i) : a = b := by
  apply List.ext_getElem hl
  intro i h1 h2
  rw [← nthP_eq h1, ← nthP_eq h2]; exact h i h1
end Go.Att
namespace Go.Proofs.YthjemncbphdomaaDoor
open Go.RowKit Go.Att

set_option maxRecDepth 100000 in
set_option maxHeartbeats 4000000 in
theorem each_any (va vb : Value) (a b : List (Int × Int)) (w : World) (hva : Prs w va a) (hvb : Prs w vb b) (hsa : a.length ≤ 4294967295) (hsb : b.length ≤ 4294967295) :
    Calls Tryd.prog 15 #[va, vb] w fun e w' => e = .returned (.bool (permB a b)) ∧ Ext w w' := by
  have HVA := Lib.hid hva; have HVB := Lib.hid hvb; clear hva hvb
  go_enter Tryd.func15, Tryd.ntmps15
  go_wp2_with fail
  refine (sorted_any va a _ HVA.out hsa).mono ?_
  rintro e w1 ⟨v1, rfl, hx1, a', ha', hpa, hoa⟩
  go_wp2_with fail
  refine (sorted_any vb b _ (HVB.out.ext hx1) hsb).mono ?_
  rintro e w2 ⟨v2, rfl, hx2, b', hb', hpb, hob⟩
  replace ha' := ha'.ext hx2
  have HX := Lib.hid (hx1.trans hx2)
  have hla := ha'.run_len (P := Tryd.prog) slCells
  have hlb := hb'.run_len (P := Tryd.prog) slCells
  have ela := hpa.length_eq
  have elb := hpb.length_eq
  have HA := Lib.hid ha'; have HB := Lib.hid hb'; clear ha' hb' hx1 hx2
  by_cases hl : a'.length = b'.length
  · have hne : ((a'.length : Int) != b'.length) = false := by rw [bne_eq_false_iff_eq]; omega
    have HQ := Lib.hid (show a.Perm b ↔ a' = b' from ⟨fun h => ord_perm_eq (hpa.trans (h.trans hpb.symm)) hoa hob, fun h => hpa.symm.trans (h ▸ hpb)⟩)
    have HL := Lib.hid hl
    clear hpa hpb hoa hob hl
    have hln : a'.length ≤ 4294967295 := by omega
    clear ela elb
    go_wp2_with fail
    go_loopw [5] (fun x5 wr => ∃ i m : Nat, x5 = .int .i64 i ∧ i ≤ a'.length ∧ Hid (∀ j, j < i → nthP a' j = nthP b' j) ∧ wr = w2.drewN m) (fun x5 _ => a'.length - (intOf x5).toNat)
    case atStart => exact ⟨0, 0, rfl, Nat.zero_le _, Lib.hid (fun j hj => by omega), rfl⟩
    case round =>
      obtain ⟨i, m, rfl, hi1, H, rfl⟩ := hrel
      by_cases hlt : i < a'.length
      · have hia := HA.out.run_index (P := Tryd.prog) slCells i hlt
        have hib := HB.out.run_index (P := Tryd.prog) slCells i (by rw [← HL.out]; exact hlt)
        have c1 := HA.out.fst i hlt
        have c2 := HA.out.snd i hlt
        have d1 := HB.out.fst i (by rw [← HL.out]; exact hlt)
        have d2 := HB.out.snd i (by rw [← HL.out]; exact hlt)
        by_cases he : nthP a' i = nthP b' i
        · rw [← he] at d1 d2
          have HE := Lib.hid he; clear he
          go_wp2_with fail
          go_quiet (fail)
          go_wp2_with fail
          go_roundw
          case rel => exact ⟨i + 1, _, by go_num, by omega, Lib.hid (fun j hj => by
            rcases Nat.lt_or_eq_of_le (show j ≤ i by omega) with h | rfl
            · exact H.out j h
            · exact HE.out), rfl⟩
          case measure => simp [intOf]; omega
        · have HF := Lib.hid (permB_false (a := a) (b := b) (fun h => he (by rw [HQ.out.1 h])))
          by_cases h1 : (nthP a' i).1 = (nthP b' i).1
          · have h2 : ((nthP a' i).2 == (nthP b' i).2) = false := by rw [beq_eq_false_iff_ne]; exact fun h => he (Prod.ext h1 h)
            rw [← h1] at d1
            clear he h1
            go_wp2_with fail
            go_quiet (fail)
            go_wp2_with fail
            go_ret
            exact ⟨ret_bool HF.out.symm, (HX.out.trans (Ext.drewN _ _)).trans (Ext.drewN _ _)⟩
          · have h2 : ((nthP a' i).1 == (nthP b' i).1) = false := by rw [beq_eq_false_iff_ne]; exact h1
            clear he h1
            go_wp2_with fail
            go_quiet (fail)
            go_wp2_with fail
            go_ret
            exact ⟨ret_bool HF.out.symm, (HX.out.trans (Ext.drewN _ _)).trans (Ext.drewN _ _)⟩
      · have HT := Lib.hid (permB_true (a := a) (b := b) (HQ.out.2 (eq_of_nthP HL.out (fun j hj => H.out j (by omega)))))
        go_wp2_with fail
        go_ret
        exact ⟨ret_bool HT.out.symm, HX.out.trans (Ext.drewN _ _)⟩
  · have hne : ((a'.length : Int) != b'.length) = true := by rw [bne_iff_ne]; omega
    have HF := Lib.hid (permB_false (a := a) (b := b) (fun h => hl (by rw [ela, elb]; exact h.length_eq)))
    clear hl
    go_wp2_with fail
    go_ret
    exact ⟨ret_bool HF.out.symm, HX.out⟩
end Go.Proofs.YthjemncbphdomaaDoor
