/- Code as text, the program's side: the table of forms; whether an instruction can be written: contract. -/
import Derived.Test.YtnkcldhjbhdejaaDoorAy
import Derived.Lib.SmallJoins
namespace Go.Att
open Go.RowKit
/-- What follows a word, as the program's letters. -/
def opLA (op : Nat) : List UInt8 := (opsA op).map fun t => if t = true then 116 else 110
theorem opLA_len (op : Nat) : (opLA op).length = (opsA op).length := by simp [opLA]
theorem opLA_at (op : Nat) (i : Nat) (hi : i < (opsA op).length) : (((opLA op)[i]'(by rw [opLA_len]; exact hi)).toNat : Int) = if (opsA op).getD i false = true then 116 else 110 := by
  simp only [opLA, List.getElem_map]
  rw [List.getD_eq_getElem?_getD, List.getElem?_eq_getElem hi, Option.getD_some]
  split <;> rfl
/-- A number that a word of the machine holds. -/
def InR (n : Int) : Prop := -9223372036854775808 ≤ n ∧ n ≤ 9223372036854775807
def Wid (x : In4) : Prop := InR x.a ∧ InR x.b ∧ InR x.c
theorem Wid.val {x : In4} (h : Wid x) (i : Nat) : InR (valA x i) := by
  unfold valA; split
  · exact h.1
  · split
    · exact h.2.1
    · exact h.2.2
def okI (x : In4) (i : Nat) : Bool := (decide (i < (opsA x.op.toNat).length) || valA x i == 0) && fitsA (valA x i)
theorem rightA_all {x : In4} (h : 0 ≤ x.op ∧ x.op < 14) (k : ∀ i, i < 3 → okI x i = true) : rightA x = true := by
  unfold rightA
  rw [decide_eq_true h, Bool.true_and, List.all_eq_true]
  intro i hi
  exact k i (List.mem_range.1 hi)
theorem rightA_none {x : In4} (i : Nat) (hi : i < 3) (k : okI x i = false) : rightA x = false := by
  unfold rightA
  have : ((List.range 3).all fun i => (decide (i < (opsA x.op.toNat).length) || valA x i == 0) && fitsA (valA x i)) = false := by
    rw [List.all_eq_false]
    exact ⟨i, List.mem_range.2 hi, by have := k; unfold okI at this; rw [this]; simp⟩
  rw [this, Bool.and_false]
theorem val_cell (x : In4) (i : Nat) (hi : i < 3) : [Value.int .i64 x.op, .int .i64 x.a, .int .i64 x.b, .int .i64 x.c][i + 1]? = some (.int .i64 (valA x i)) := by
  have h3 : i = 0 ∨ i = 1 ∨ i = 2 := by omega
  rcases h3 with rfl | rfl | rfl <;> rfl
end Go.Att
namespace Go.Proofs.YtnkcldhjbhdejaaDoor
open Go.RowKit Go.Att Go.Shelf
/-- The table of forms stands. -/
structure Forms (w : World) : Prop where
  lt : 0 < w.heap.size
  word : ∀ k, k < 14 → w.cell? ⟨0, 2 * k, none⟩ = some (.string ⟨(wordA k).toArray⟩)
  ops : ∀ k, k < 14 → w.cell? ⟨0, 2 * k + 1, none⟩ = some (.string ⟨(opLA k).toArray⟩)
theorem Forms.ext {w w' : World} (h : Forms w) (hx : Ext w w') : Forms w' := ⟨Nat.lt_of_lt_of_le h.lt hx.size, fun k hk => hx.cell (h.word k hk), fun k hk => hx.cell (h.ops k hk)⟩
theorem Forms.grown {w w' : World} {b : Nat} (h : Forms w) (hg : w.grownBy w' (some b)) (hb : b ≠ 0) : Forms w' :=
  ⟨Nat.lt_of_lt_of_le h.lt hg.size, fun k hk => by rw [World.cell?_of_block (hg.block _ h.lt (fun e => hb (Option.some.inj e).symm))]; exact h.word k hk,
   fun k hk => by rw [World.cell?_of_block (hg.block _ h.lt (fun e => hb (Option.some.inj e).symm))]; exact h.ops k hk⟩
theorem kPow : ∃ g, Tryd.prog.globalNamed "internal/strconv.uint64pow10" = some g := ⟨2, by kernel_rfl⟩
theorem Tab10.ext {w w' : World} (h : Tab10 w) (hx : Ext w w') : Tab10 w' := by
  obtain ⟨g, hg⟩ := kPow
  exact Go.Joins.tab_stays hg h hx (Nat.le_refl _)
theorem form_at0 (w : World) : (Instr.indexAt 44 (.pointer (some ⟨0, 0, none⟩)) (.int .i64 0)).run Tryd.prog w = .ok (.pointer (some ⟨0, 0, none⟩)) w := by kernel_rfl
theorem form_at1 (w : World) : (Instr.indexAt 44 (.pointer (some ⟨0, 0, none⟩)) (.int .i64 1)).run Tryd.prog w = .ok (.pointer (some ⟨0, 2, none⟩)) w := by kernel_rfl
theorem form_at2 (w : World) : (Instr.indexAt 44 (.pointer (some ⟨0, 0, none⟩)) (.int .i64 2)).run Tryd.prog w = .ok (.pointer (some ⟨0, 4, none⟩)) w := by kernel_rfl
theorem form_at3 (w : World) : (Instr.indexAt 44 (.pointer (some ⟨0, 0, none⟩)) (.int .i64 3)).run Tryd.prog w = .ok (.pointer (some ⟨0, 6, none⟩)) w := by kernel_rfl
theorem form_at4 (w : World) : (Instr.indexAt 44 (.pointer (some ⟨0, 0, none⟩)) (.int .i64 4)).run Tryd.prog w = .ok (.pointer (some ⟨0, 8, none⟩)) w := by kernel_rfl
theorem form_at5 (w : World) : (Instr.indexAt 44 (.pointer (some ⟨0, 0, none⟩)) (.int .i64 5)).run Tryd.prog w = .ok (.pointer (some ⟨0, 10, none⟩)) w := by kernel_rfl
theorem form_at6 (w : World) : (Instr.indexAt 44 (.pointer (some ⟨0, 0, none⟩)) (.int .i64 6)).run Tryd.prog w = .ok (.pointer (some ⟨0, 12, none⟩)) w := by kernel_rfl
theorem form_at7 (w : World) : (Instr.indexAt 44 (.pointer (some ⟨0, 0, none⟩)) (.int .i64 7)).run Tryd.prog w = .ok (.pointer (some ⟨0, 14, none⟩)) w := by kernel_rfl
theorem form_at8 (w : World) : (Instr.indexAt 44 (.pointer (some ⟨0, 0, none⟩)) (.int .i64 8)).run Tryd.prog w = .ok (.pointer (some ⟨0, 16, none⟩)) w := by kernel_rfl
theorem form_at9 (w : World) : (Instr.indexAt 44 (.pointer (some ⟨0, 0, none⟩)) (.int .i64 9)).run Tryd.prog w = .ok (.pointer (some ⟨0, 18, none⟩)) w := by kernel_rfl
theorem form_at10 (w : World) : (Instr.indexAt 44 (.pointer (some ⟨0, 0, none⟩)) (.int .i64 10)).run Tryd.prog w = .ok (.pointer (some ⟨0, 20, none⟩)) w := by kernel_rfl
theorem form_at11 (w : World) : (Instr.indexAt 44 (.pointer (some ⟨0, 0, none⟩)) (.int .i64 11)).run Tryd.prog w = .ok (.pointer (some ⟨0, 22, none⟩)) w := by kernel_rfl
theorem form_at12 (w : World) : (Instr.indexAt 44 (.pointer (some ⟨0, 0, none⟩)) (.int .i64 12)).run Tryd.prog w = .ok (.pointer (some ⟨0, 24, none⟩)) w := by kernel_rfl
theorem form_at13 (w : World) : (Instr.indexAt 44 (.pointer (some ⟨0, 0, none⟩)) (.int .i64 13)).run Tryd.prog w = .ok (.pointer (some ⟨0, 26, none⟩)) w := by kernel_rfl
theorem form_at (k : Nat) (hk : k < 14) (w : World) : (Instr.indexAt 44 (.pointer (some ⟨0, 0, none⟩)) (.int .i64 (k : Int))).run Tryd.prog w = .ok (.pointer (some ⟨0, 2 * k, none⟩)) w := by
  match k, hk with
  | 0, _ => exact form_at0 w
  | 1, _ => exact form_at1 w
  | 2, _ => exact form_at2 w
  | 3, _ => exact form_at3 w
  | 4, _ => exact form_at4 w
  | 5, _ => exact form_at5 w
  | 6, _ => exact form_at6 w
  | 7, _ => exact form_at7 w
  | 8, _ => exact form_at8 w
  | 9, _ => exact form_at9 w
  | 10, _ => exact form_at10 w
  | 11, _ => exact form_at11 w
  | 12, _ => exact form_at12 w
  | 13, _ => exact form_at13 w
  | k + 14, h => omega
set_option maxRecDepth 100000 in
set_option maxHeartbeats 4000000 in
theorem right_any (x : In4) (w : World) (hw : Wid x) (hF : Forms w) (hT : Tab10 w) :
    Calls Tryd.prog 10 #[.agg #[.int .i64 x.op, .int .i64 x.a, .int .i64 x.b, .int .i64 x.c]] w fun e w' => e = .returned (.bool (rightA x)) ∧ Ext w w' := by
  have HB := Lib.hid (BlkOf.new w [.int .i64 x.op, .int .i64 x.a, .int .i64 x.b, .int .i64 x.c] 37)
  have HX := Lib.hid (Ext.alloc w (Obj.cells #[.int .i64 x.op, .int .i64 x.a, .int .i64 x.b, .int .i64 x.c] 37))
  have e0 : (w.alloc (Obj.cells #[.int .i64 x.op, .int .i64 x.a, .int .i64 x.b, .int .i64 x.c] 37)).cell? ⟨w.heap.size, 0, none⟩ = some (.int .i64 x.op) := HB.out.cell 0
  by_cases hneg : x.op < 0
  · have HR := Lib.hid (rightA_out (x := x) (by omega))
    clear hF hT hw
    go_enter Tryd.func10, Tryd.ntmps10
    go_wp2_with fail
    go_ret
    exact ⟨by rw [HR.out]; trivial, HX.out⟩
  by_cases hbig : 14 ≤ x.op
  · have HR := Lib.hid (rightA_out (x := x) (by omega))
    clear hF hT hw
    go_enter Tryd.func10, Tryd.ntmps10
    go_wp2_with fail
    go_ret
    exact ⟨by rw [HR.out]; trivial, HX.out⟩
  obtain ⟨k, hk⟩ := Int.eq_ofNat_of_zero_le (show 0 ≤ x.op by omega)
  have hk14 : k < 14 := by omega
  have HOK : Hid (0 ≤ x.op ∧ x.op < 14) := Lib.hid (by omega)
  have HF := Lib.hid (hF.ext HX.out); have HT := Lib.hid (hT.ext HX.out); have HW := Lib.hid hw
  have HOP := Lib.hid hk
  clear e0
  have HM := Lib.hid (show ∀ i, okI x i = ((decide (i < (opsA k).length) || valA x i == 0) && fitsA (valA x i)) from fun i => by unfold okI; rw [hk, Int.toNat_natCast])
  have hN3 := opsA_len k
  have HL := Lib.hid (opLA_len k)
  clear hF hT hw hk hneg hbig
  obtain ⟨m, hm⟩ : ∃ m, (opsA k).length = m := ⟨_, rfl⟩
  rw [hm] at hN3 HL HM
  clear hm
  have hsz : ((opLA k).length : Int) = m := by rw [HL.out]
  obtain ⟨S, hS⟩ : ∃ S, opLA k = S := ⟨_, rfl⟩
  rw [hS] at hsz
  have HS := Lib.hid hS
  clear hS
  go_enter Tryd.func10, Tryd.ntmps10
  go_upto_region 1 with (fail)
  generalize w.alloc (Obj.cells #[.int .i64 x.op, .int .i64 x.a, .int .i64 x.b, .int .i64 x.c] 37) = W0 at *
  generalize w.heap.size = b at *
  have e0 : W0.cell? ⟨b, 0, none⟩ = some (.int .i64 (k : Int)) := by rw [HB.out.cell, ← HOP.out]; rfl
  go_wp2_with fail
  go_loopw [13] (fun x13 wr => ∃ i : Nat, i ≤ 3 ∧ x13 = .int .i64 i ∧ Hid (∀ j, j < i → okI x j = true) ∧ Hid (Ext W0 wr)) (fun x13 _ => 3 - (intOf x13).toNat)
  case atStart => exact ⟨0, Nat.zero_le _, rfl, Lib.hid (fun j hj => by omega), Lib.hid (Ext.refl _)⟩
  case round =>
    obtain ⟨i, hi, rfl, HA, HXR⟩ := hrel
    by_cases hi3 : i < 3
    · have hc : wr.cell? ⟨b, i + 1, none⟩ = some (.int .i64 (valA x i)) := by rw [(HB.out.ext HXR.out).cell]; exact val_cell x i hi3
      have e1 : wr.cell? ⟨b, 0, none⟩ = some (.int .i64 (k : Int)) := by rw [(HB.out.ext HXR.out).cell, ← HOP.out]; rfl
      have e2 : wr.cell? ⟨0, 2 * k + 1, none⟩ = some (.string ⟨S.toArray⟩) := by rw [(HF.out.ext HXR.out).ops k hk14, HS.out]
      have hfa := form_at k hk14
      have CF := Lib.hid (pfield_any b i hi3)
      have CS := Lib.hid (fun W => pshort_any (valA x i) (HW.out.val i).1 (HW.out.val i).2 W)
      have HTR := Lib.hid (HT.out.ext HXR.out)
      have HMi := Lib.hid (HM.out i)
      obtain ⟨y, hy⟩ : ∃ y, valA x i = y := ⟨_, rfl⟩
      rw [hy] at hc CS HMi
      clear hy
      by_cases him : i < m
      · have hge : ¬ (m : Int) ≤ (i : Int) := by omega
        have HOI : Hid (okI x i = fitsA y) := Lib.hid (by rw [HMi.out, decide_eq_true him]; simp)
        obtain ⟨fb, hfb⟩ : ∃ fb, fitsA y = fb := ⟨_, rfl⟩
        rw [hfb] at CS HOI
        clear hfb HMi
        cases fb with
        | true =>
          have HAN : Hid (∀ j, j < i + 1 → okI x j = true) := Lib.hid fun j hj => by
            by_cases e : j = i
            · subst e; exact HOI.out
            · exact HA.out j (by omega)
          go_wp2_with (first | (go_at_call 13; refine (CF.out _).mono ?_; rintro e w1 ⟨rfl, n1, rfl⟩) | (go_at_call 7; refine (CS.out _ (Tab10.ext HTR.out (Ext.drewN _ _))).mono ?_; rintro e w2 ⟨rfl, hx2⟩))
          go_roundw
          case rel => exact ⟨i + 1, by omega, by go_num, HAN, Lib.hid (HXR.out.trans ((Ext.drewN _ _).trans hx2))⟩
          case measure => simp [intOf]; omega
        | false =>
          have HR := Lib.hid (rightA_none i hi3 HOI.out)
          go_wp2_with (first | (go_at_call 13; refine (CF.out _).mono ?_; rintro e w1 ⟨rfl, n1, rfl⟩) | (go_at_call 7; refine (CS.out _ (Tab10.ext HTR.out (Ext.drewN _ _))).mono ?_; rintro e w2 ⟨rfl, hx2⟩))
          go_ret
          exact ⟨by rw [HR.out]; trivial, HX.out.trans (HXR.out.trans ((Ext.drewN _ _).trans hx2))⟩
      · have hge : (m : Int) ≤ (i : Int) := by omega
        by_cases hy0 : y = 0
        · subst hy0
          have HOI : Hid (okI x i = true) := Lib.hid (by rw [HMi.out, decide_eq_false him]; rfl)
          have HAN : Hid (∀ j, j < i + 1 → okI x j = true) := Lib.hid fun j hj => by
            by_cases e : j = i
            · subst e; exact HOI.out
            · exact HA.out j (by omega)
          have CZ := Lib.hid (fun W h => by have := CS.out W h; rw [show fitsA 0 = true from rfl] at this; exact this)
          clear HMi CS
          go_wp2_with (first | (go_at_call 13; refine (CF.out _).mono ?_; rintro e w1 ⟨rfl, n1, rfl⟩) | (go_at_call 7; refine (CZ.out _ (Tab10.ext HTR.out (Ext.drewN _ _))).mono ?_; rintro e w2 ⟨rfl, hx2⟩))
          go_roundw
          case rel => exact ⟨i + 1, by omega, by go_num, HAN, Lib.hid (HXR.out.trans ((Ext.drewN _ _).trans hx2))⟩
          case measure => simp [intOf]; omega
        · have hyb : (y != 0) = true := by rw [bne_iff_ne]; exact hy0
          have HOI : Hid (okI x i = false) := Lib.hid (by rw [HMi.out, decide_eq_false him, show (y == 0) = false from by rw [beq_eq_false_iff_ne]; exact hy0]; rfl)
          have HR := Lib.hid (rightA_none i hi3 HOI.out)
          clear HMi CS
          go_wp2_with (go_at_call 13; refine (CF.out _).mono ?_; rintro e w1 ⟨rfl, n1, rfl⟩)
          go_ret
          exact ⟨by rw [HR.out]; trivial, HX.out.trans (HXR.out.trans (Ext.drewN _ _))⟩
    · obtain rfl : i = 3 := by omega
      have HR := Lib.hid (rightA_all HOK.out HA.out)
      clear e0
      go_wp2_with fail
      go_ret
      exact ⟨by rw [HR.out]; trivial, HX.out.trans HXR.out⟩
end Go.Proofs.YtnkcldhjbhdejaaDoor
