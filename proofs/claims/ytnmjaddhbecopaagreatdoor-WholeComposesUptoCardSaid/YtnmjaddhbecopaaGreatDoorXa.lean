/- Vouchers, the document's side: what all rules come to at a point: contract. -/
import Derived.Test.YtnmjaddhbecopaaGreatDoorZx14
import Derived.Test.YtnmjaddhbecopaaGreatDoorZx7
namespace Go.Proofs.YtnmjaddhbecopaaGreatDoor
open Go.RowKit Go.Att
theorem dof28_any (l k : Nat) (w : World) (hl : l ≤ 1048576) (hk : k < l + 28) : Calls Tryz.prog 149 #[.int .i64 l, .int .i64 k] w fun e w' => e = .returned (.int .i64 (kindR l k)) ∧ w = w' := by
  have hall : k < l + 12 ∨ (¬ k < l + 12 ∧ k < l + 18) ∨ (¬ k < l + 12 ∧ ¬ k < l + 18 ∧ k < l + 24) ∨ (¬ k < l + 12 ∧ ¬ k < l + 18 ∧ ¬ k < l + 24) := by omega
  rcases hall with h | ⟨h, h2⟩ | ⟨h, h2, h3⟩ | ⟨h, h2, h3⟩
  all_goals
    go_enter Tryz.func149, Tryz.ntmps149
    go_wp2_with fail
    go_ret
    refine ⟨ret_int ?_, rfl⟩
    simp [kindR, *]
set_option maxHeartbeats 1000000 in
section
variable {w : World} {b : Nat} {p sz out n g : Int} {cd : List In4} {lv : Value} {x y a gg : Int} {K : Nat}
set_option maxRecDepth 100000 in
set_option maxHeartbeats 16000000 in
theorem composed_any (h : TAt w b p sz out n g cd lv x y a gg) (hB : FitOk p n cd.length K) (hp2 : p ≤ 2147483647) (i0 : Nat) (hi0 : (i0 : Int) < 8 * n) {rv nv : Value} {r nx : List Int} (hr : Ints w rv r) (hn : Ints w nv nx) (lr : r.length = 20 + cd.length) (ln : nx.length = 20 + cd.length) (z zn : Int) :
    Calls Tryz.prog 81 #[.pointer (some ⟨b, 0, none⟩), .int .i64 i0, rv, nv, .int .i64 z, .int .i64 zn] w fun e w' => e = .returned (.int .i64 (atC p sz out cd x y a (ptAt p g (froot p g (8 * n)) i0) (ptAt p 1 (froot p g n) (n.toNat - 1)) n.toNat r nx z zn)) ∧ Ext w w' := by
  have hbd := hB.bd
  have hp3 : 3 ≤ p := by have := hB.lt; omega
  have hpp : 2 ≤ p := by omega
  have hl64 := hB.l64
  have hl1 := hB.l1
  obtain ⟨al, cl, rfl⟩ := h.code.shape
  obtain ⟨ar, cr, rfl⟩ := hr.shape
  obtain ⟨an, cn, rfl⟩ := hn.shape
  have hll := h.code.run_len (P := Tryz.prog) slIns
  have H := Lib.hid h; have HR := Lib.hid hr; have HN := Lib.hid hn; have HB := Lib.hid hB
  have hm : Int.tmod (i0 : Int) (8 * n) = (i0 : Int) := by rw [Int.tmod_eq_emod_of_nonneg (by omega), Int.emod_eq_of_lt (by omega) hi0]
  have hm' : (i0 : Int) % (8 * n) = (i0 : Int) := Int.emod_eq_of_lt (by omega) hi0
  have c0 := h.c0
  have c2 : w.cell? ⟨b, 2, none⟩ = some (.slice al cd.length cl) := h.blk.cell 2
  have c9 : w.cell? ⟨b, 9, none⟩ = some (.int .i64 p) := h.blk.cell 9
  have c10 : w.cell? ⟨b, 10, none⟩ = some (.int .i64 (8 * n)) := h.blk.cell 10
  have c11 : w.cell? ⟨b, 11, none⟩ = some (.int .i64 g) := h.blk.cell 11
  have c12 : w.cell? ⟨b, 12, none⟩ = some (.int .i64 (froot p g (8 * n))) := h.blk.cell 12
  have HLR := Lib.hid lr; have HLN := Lib.hid ln
  clear h hr hn hB lr ln
  go_enter Tryz.func81, Tryz.ntmps81
  go_wp2_with fail
  refine wp_region_quiet_tail 11 (by kernel_rfl) (by kernel_rfl) ?_
  simp only [List.take_succ_cons, List.take_zero, List.drop_succ_cons, List.drop_zero]
  repeat (go_big_quiet_step (fail))
  refine wpQuiet_nil ?_
  rintro _ ⟨m1, rfl⟩
  obtain ⟨t, ht⟩ : ∃ t, ptAt p g (froot p g (8 * n)) i0 = t := ⟨_, rfl⟩
  obtain ⟨la, hla⟩ : ∃ la, ptAt p 1 (froot p g n) (n.toNat - 1) = la := ⟨_, rfl⟩
  have HT := Lib.hid ht; have HLA := Lib.hid hla
  go_wp2_with (go_at_call 148; refine (rpoint_any p (8 * n) g (froot p g (8 * n)) i0 _ hpp hp2 (by omega)).mono ?_; rw [ht]; rintro e w2 ⟨rfl, hx2⟩)
  have HX2 := Lib.hid ((Ext.drewN w m1).trans hx2)
  clear c0 c2 c9 c10 c11 c12 ht hla hx2 hm hm'
  have hb := H.out.blk.ext HX2.out
  have c0 : w2.cell? ⟨b, 0, none⟩ = some (.int .i64 p) := hb.cell 0
  have c1 : w2.cell? ⟨b, 1, none⟩ = some (.int .i64 sz) := hb.cell 1
  have c2 : w2.cell? ⟨b, 2, none⟩ = some (.slice al cd.length cl) := hb.cell 2
  have c3 : w2.cell? ⟨b, 3, none⟩ = some (.int .i64 out) := hb.cell 3
  clear hb
  refine wp_region_quiet_tail 14 (by kernel_rfl) (by kernel_rfl) ?_
  simp only [List.take_succ_cons, List.take_zero, List.drop_succ_cons, List.drop_zero]
  repeat (go_big_quiet_step (fail))
  refine wpQuiet_nil ?_
  rintro _ ⟨m2, rfl⟩
  go_wp2_with fail
  have hx3 := (Ext.drewN w2 m2).trans (Ext.alloc (w2.drewN m2) (Obj.cells #[.int .i64 p, .int .i64 sz, .slice al cd.length cl, .int .i64 out, .slice ar r.length cr, .slice an nx.length cn] 227))
  have hb3 := BlkOf.new (w2.drewN m2) [.int .i64 p, .int .i64 sz, .slice al cd.length cl, .int .i64 out, .slice ar r.length cr, .slice an nx.length cn] 227
  have hq : (w2.drewN m2).heap.size = w2.heap.size := rfl
  rw [hq] at hb3
  have HX3 := Lib.hid (HX2.out.trans hx3)
  have HB3 := Lib.hid hb3
  clear hx3 hb3 hq HX2 c0 c1 c2 c3
  generalize hq : w2.heap.size = q at *
  clear hq
  generalize (w2.drewN m2).alloc (Obj.cells #[.int .i64 p, .int .i64 sz, .slice al cd.length cl, .int .i64 out, .slice ar r.length cr, .slice an nx.length cn] 227) = W3 at *
  have HWA := Lib.hid (show WAt W3 q p sz out cd (.slice al cd.length cl) (.slice ar r.length cr) (.slice an nx.length cn) r nx from
    ⟨HB3.out.cell 0, HB3.out.cell 1, HB3.out.cell 2, HB3.out.cell 3, HB3.out.cell 4, HB3.out.cell 5, H.out.code.ext HX3.out, HR.out.ext HX3.out, HN.out.ext HX3.out, HLR.out, HLN.out, hpp, hp2⟩)
  clear HB3
  obtain ⟨f, hf⟩ : ∃ f : Nat → Int, termD p sz out cd x y t la n.toNat r nx z zn = f := ⟨_, rfl⟩
  have HFA := Lib.hid (show ∀ i, i < cd.length + 26 → f i = divD p t la n.toNat (kindR cd.length i) (ruleD p sz out cd r nx i) from fun i hi => by rw [← hf]; unfold termD; rw [if_pos hi])
  have HFB := Lib.hid (show f (cd.length + 26) = divD p t la n.toNat 0 (prodD p x y r z zn) from by rw [← hf]; unfold termD prodD; rw [if_neg (by omega), if_pos rfl])
  have HFC := Lib.hid (show f (cd.length + 27) = divD p t la n.toNat 2 (fsub p z 1) from by rw [← hf]; unfold termD; rw [if_neg (by omega), if_neg (by omega)])
  have HFE := Lib.hid (show (sumU p a f (cd.length + 28)).1 = atC p sz out cd x y a (ptAt p g (froot p g (8 * n)) i0) (ptAt p 1 (froot p g n) (n.toNat - 1)) n.toNat r nx z zn from by unfold atC; rw [HT.out, HLA.out, hf])
  have HDV := Lib.hid (fun (W : World) (hw : Ext w W) (v : Int) (k : Nat) (ki : Int) (hk : (k = 0 ∧ ki = 0) ∨ (k = 1 ∧ ki = 1) ∨ (k = 2 ∧ ki = 2) ∨ (k = 3 ∧ ki = 3)) => (by have := divided_any (H.out.ext hw) hp3 hp2 hbd v t k ki hk; rw [HLA.out] at this; exact this : Calls Tryz.prog 153 #[.pointer (some ⟨b, 0, none⟩), .int .i64 v, .int .i64 ki, .int .i64 t] W fun e w' => e = .returned (.int .i64 (divD p t la n.toNat k v)) ∧ Ext W w'))
  clear hf
  go_loopw [16, 17, 18, 19, 20] (fun x16 x17 x18 _ _ wr => ∃ i : Nat, i ≤ cd.length + 28 ∧ x18 = .int .i64 i ∧ x16 = .int .i64 (sumU p a f i).1 ∧ x17 = .int .i64 (sumU p a f i).2 ∧ Hid (Ext W3 wr)) (fun _ _ x18 _ _ _ => cd.length + 28 - (intOf x18).toNat)
  case atStart => exact ⟨0, by omega, rfl, rfl, rfl, Lib.hid (Ext.refl _)⟩
  case round =>
    obtain ⟨i, hi, rfl, rfl, rfl, HX⟩ := hrel
    by_cases hil : i < cd.length + 28
    · have CO := dof28_any cd.length i wr (by omega) hil
      have HSU := Lib.hid (show sumU p a f (i + 1) = (fadd p (sumU p a f i).1 (fmul p (f i) (sumU p a f i).2), fmul p (sumU p a f i).2 a) from by rw [sumU, fmul_comm (f i)])
      generalize hsu : sumU p a f i = SU at *
      clear hsu
      have HKL := Lib.hid (kindB_lit cd.length i)
      by_cases hA : i < cd.length + 26
      · have HFI := Lib.hid (HFA.out i hA)
        have CR := wrule_any (HWA.out.ext HX.out) (by omega) hl1 i hA
        generalize kindR cd.length i = kr at *
        generalize ruleD p sz out cd r nx i = ru at *
        go_wp2_with (first | (go_at_call 149; refine CO.mono ?_; rintro e w' ⟨rfl, rfl⟩) | (go_at_call 152; refine CR.mono ?_; rintro e w4 ⟨rfl, hx4⟩) | (go_at_call 153; refine (HDV.out w4 ((HX3.out.trans HX.out).trans hx4) ru kr kr (by have := HKL.out; omega)).mono ?_; rintro e w5 ⟨rfl, hx5⟩; have HX5 := Lib.hid ((HX.out.trans hx4).trans hx5); have y0 := (HX3.out.trans HX5.out).cell H.out.c0; have y15 : w5.cell? ⟨b, 15, none⟩ = some (.int .i64 a) := (H.out.blk.ext (HX3.out.trans HX5.out)).cell 15; clear hx4 hx5 CO CR) | (go_at_call 57; refine (rmul_any _ _ _ _ hpp hp2).mono ?_; rintro e w' ⟨rfl, rfl⟩) | (go_at_call 58; refine (radd_any _ _ _ _ hpp hp2).mono ?_; rintro e w' ⟨rfl, rfl⟩))
        go_quiet ((go_at_call 57; exact rmul_q _ _ _ _ _ hpp hp2))
        go_wp2_with fail
        go_roundw
        case rel => exact ⟨i + 1, by omega, by go_num, by rw [HSU.out, HFI.out], by rw [HSU.out], Lib.hid (HX5.out.trans (Ext.drewN _ nq))⟩
        case measure => simp [intOf]; omega
      · have hkf : kindR cd.length i = 3 := by unfold kindR; rw [if_neg (by omega), if_neg (by omega), if_neg (by omega)]
        rw [hkf] at CO
        by_cases hB2 : i = cd.length + 26
        · subst hB2
          have HFI := Lib.hid HFB.out
          have CP := dproduct_any (H.out.ext (HX3.out.trans HX.out)) hpp hp2 (HR.out.ext (HX3.out.trans HX.out)) (by have := HLR.out; omega) z zn
          go_wp2_with (first | (go_at_call 149; refine CO.mono ?_; rintro e w' ⟨rfl, rfl⟩) | (go_at_call 150; refine CP.mono ?_; rintro e w4 ⟨rfl, hx4⟩) | (go_at_call 153; refine (HDV.out w4 ((HX3.out.trans HX.out).trans hx4) (prodD p x y r z zn) 0 0 (by omega)).mono ?_; rintro e w5 ⟨rfl, hx5⟩; have HX5 := Lib.hid ((HX.out.trans hx4).trans hx5); have y0 := (HX3.out.trans HX5.out).cell H.out.c0; have y15 : w5.cell? ⟨b, 15, none⟩ = some (.int .i64 a) := (H.out.blk.ext (HX3.out.trans HX5.out)).cell 15; clear hx4 hx5 CO) | (go_at_call 57; refine (rmul_any _ _ _ _ hpp hp2).mono ?_; rintro e w' ⟨rfl, rfl⟩) | (go_at_call 58; refine (radd_any _ _ _ _ hpp hp2).mono ?_; rintro e w' ⟨rfl, rfl⟩))
          go_quiet ((go_at_call 57; exact rmul_q _ _ _ _ _ hpp hp2))
          go_wp2_with fail
          go_roundw
          case rel => exact ⟨cd.length + 26 + 1, by omega, by go_num, by rw [HSU.out, HFI.out], by rw [HSU.out], Lib.hid (HX5.out.trans (Ext.drewN _ nq))⟩
          case measure => simp [intOf]; omega
        · obtain rfl : i = cd.length + 27 := by omega
          have HFI := Lib.hid HFC.out
          have yz := (HX3.out.trans HX.out).cell H.out.c0
          have hx4 := Ext.refl wr
          go_wp2_with (first | (go_at_call 149; refine CO.mono ?_; rintro e w' ⟨rfl, rfl⟩) | (go_at_call 151; refine (rsub_any _ _ _ _ hpp hp2).mono ?_; rintro e w' ⟨rfl, rfl⟩) | (go_at_call 153; refine (HDV.out wr ((HX3.out.trans HX.out).trans hx4) (fsub p z 1) 2 2 (by omega)).mono ?_; rintro e w5 ⟨rfl, hx5⟩; have HX5 := Lib.hid ((HX.out.trans hx4).trans hx5); have y0 := (HX3.out.trans HX5.out).cell H.out.c0; have y15 : w5.cell? ⟨b, 15, none⟩ = some (.int .i64 a) := (H.out.blk.ext (HX3.out.trans HX5.out)).cell 15; clear hx4 hx5 CO) | (go_at_call 57; refine (rmul_any _ _ _ _ hpp hp2).mono ?_; rintro e w' ⟨rfl, rfl⟩) | (go_at_call 58; refine (radd_any _ _ _ _ hpp hp2).mono ?_; rintro e w' ⟨rfl, rfl⟩))
          go_quiet ((go_at_call 57; exact rmul_q _ _ _ _ _ hpp hp2))
          go_wp2_with fail
          go_roundw
          case rel => exact ⟨cd.length + 27 + 1, by omega, by go_num, by rw [HSU.out, HFI.out], by rw [HSU.out], Lib.hid (HX5.out.trans (Ext.drewN _ nq))⟩
          case measure => simp [intOf]; omega
    · obtain rfl : i = cd.length + 28 := by omega
      go_wp2_with fail
      go_ret
      exact ⟨ret_int HFE.out, HX3.out.trans HX.out⟩
end
end Go.Proofs.YtnmjaddhbecopaaGreatDoor
