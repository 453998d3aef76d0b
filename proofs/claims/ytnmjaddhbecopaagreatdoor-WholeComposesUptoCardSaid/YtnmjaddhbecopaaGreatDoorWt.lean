/- Vouchers: what the rules come to at a point: the program's side: contract. -/
import Derived.Test.YtnmjaddhbecopaaGreatDoorWp
import Derived.Test.YtnmjaddhbecopaaGreatDoorWq
import Derived.Test.YtnmjaddhbecopaaGreatDoorKt
import Derived.Deep.RegionHeld3
namespace Go.Proofs.YtnmjaddhbecopaaGreatDoor
open Go.RowKit Go.Att
section
variable {w : World} {pl : Value} {bf : Nat} {p g sz n : Int} {cd : List In4} {lv dr dw : Value} {K : Nat}
set_option maxRecDepth 100000 in
set_option maxHeartbeats 16000000 in
theorem at_any (h : PlcAt w pl bf p g sz n cd lv dr dw) (hB : FitOk p n cd.length K) (i : Nat) (hi : (i : Int) < 8 * n) {rv nv : Value} {r nx : List Int} (hr : Ints w rv r) (hn : Ints w nv nx) (lr : r.length = 20 + cd.length) (ln : nx.length = 20 + cd.length) (out z zn x y a gg : Int) :
    Calls Tryz.prog 142 #[pl, .int .i64 i, .int .i64 out, rv, nv, .int .i64 z, .int .i64 zn, .agg #[.int .i64 x, .int .i64 y, .int .i64 a, .int .i64 gg]] w fun e w' => e = .returned (.int .i64 (atC p sz out cd x y a (ptAt p g (froot p g (8 * n)) i) (ptAt p 1 (froot p g n) (n.toNat - 1)) n.toNat r nx z zn)) ∧ Ext w w' := by
  have hmf : ∀ (fn : Fn) (first cap : Array Value) (w : World), (Instr.makeFunc fn first cap).run Tryz.prog w = .ok (.func fn first cap) w := fun _ _ _ _ => rfl
  have hbd := hB.bd
  obtain ⟨fs, hf⟩ := h.fld.fld
  have hp3 : 3 ≤ p := by have := hB.lt; omega
  have HPR := Lib.hid hf.pr
  obtain ⟨al, cl, rfl⟩ := h.code.shape
  have hll := h.code.run_len (P := Tryz.prog) slIns
  obtain ⟨b, rfl, c0, c1, c2, c3, c4, c5⟩ := h.cells
  obtain ⟨b4, rfl⟩ := h.rows.ptr
  obtain ⟨b5, rfl⟩ := h.wide.ptr
  obtain ⟨m, hm, hm1⟩ : ∃ m : Nat, n = m ∧ n.toNat - 1 = m - 1 := ⟨n.toNat, by omega, by omega⟩
  have hm2 : n - 1 = ((m - 1 : Nat) : Int) := by omega
  have HWD := Lib.hid h.wide; have HRW := Lib.hid h.rows; have HF := Lib.hid hf; have HC := Lib.hid h.code; have HR := Lib.hid hr; have HN := Lib.hid hn
  have HB := Lib.hid hB; have HM := Lib.hid hm; have HM1 := Lib.hid hm1; have HM2 := Lib.hid hm2
  have HA : Hid (BlkOf ((w.alloc (Obj.cells #[.pointer (some ⟨b, 0, none⟩)] 125)).alloc (Obj.cells #[.int .i64 x, .int .i64 y, .int .i64 a, .int .i64 gg] 132)) (w.heap.size + 1) [.int .i64 x, .int .i64 y, .int .i64 a, .int .i64 gg] 132) := Lib.hid (by
    have := BlkOf.new (w.alloc (Obj.cells #[.pointer (some ⟨b, 0, none⟩)] 125)) [.int .i64 x, .int .i64 y, .int .i64 a, .int .i64 gg] 132
    rwa [show (w.alloc (Obj.cells #[.pointer (some ⟨b, 0, none⟩)] 125)).heap.size = w.heap.size + 1 by simp] at this)
  have HX0 := Lib.hid ((Ext.alloc w (Obj.cells #[.pointer (some ⟨b, 0, none⟩)] 125)).trans (Ext.alloc _ (Obj.cells #[.int .i64 x, .int .i64 y, .int .i64 a, .int .i64 gg] 132)))
  have H8 := Lib.hid ((BlkOf.new w [.pointer (some ⟨b, 0, none⟩)] 125).ext (Ext.alloc _ (Obj.cells #[.int .i64 x, .int .i64 y, .int .i64 a, .int .i64 gg] 132)))
  clear h hB hf hr hn hm hm1 hm2
  go_enter Tryz.func142, Tryz.ntmps142
  have x0 := HX0.out.cell c0
  have x2 := HX0.out.cell c3
  have x4 := HX0.out.cell c4
  have x5 := HX0.out.cell c5
  go_wp2_with (go_at_call 213; refine (dpoint_any (HWD.out.ext HX0.out) (HF.out.ext HX0.out) i hi (by omega)).mono ?_; rintro e w1 ⟨rfl, m1, rfl⟩)
  have HX1 := Lib.hid (HX0.out.trans (Ext.drewN _ m1))
  have HA1 := Lib.hid (HA.out.ext (Ext.drewN _ m1))
  have H81 := Lib.hid (H8.out.ext (Ext.drewN _ m1))
  clear HX0 HA H8 x0 x2 x4 x5
  obtain ⟨t, ht⟩ : ∃ t, ptAt p g (froot p g (8 * n)) i = t := ⟨_, rfl⟩
  rw [ht]
  generalize hq8 : w.heap.size = q8 at *
  generalize hW1 : World.drewN _ m1 = W1 at *
  have HQ8 := Lib.hid hq8; have HT := Lib.hid ht
  clear hW1 hq8 ht
  have x0 := HX1.out.cell c0
  have x2 := HX1.out.cell c3
  have x4 := HX1.out.cell c4
  have y8 : W1.cell? ⟨q8, 0, none⟩ = some (.pointer (some ⟨b, 0, none⟩)) := H81.out.cell 0
  go_quiet (first | (go_at_call 54; exact pow_q (HF.out.ext HX1.out) _ _ (by omega) (by omega) _) | (go_at_call 179; exact sub_q (HF.out.ext HX1.out) _ _ _) | (go_at_call 213; rw [HM2.out]; exact Calls.quiet_of (dpoint_any ((HRW.out.ext HX1.out).drewN _) ((HF.out.ext HX1.out).drewN _) (m - 1) (by have := HM.out; omega) (by omega))))
  obtain ⟨A, hA⟩ : ∃ A, fsub p (fpow p t n.toNat) 1 = A := ⟨_, rfl⟩
  obtain ⟨la, hla⟩ : ∃ la, ptAt p 1 (froot p g n) (m - 1) = la := ⟨_, rfl⟩
  have HAA := Lib.hid hA; have HLA := Lib.hid hla
  rw [hla, hA]
  clear hA hla
  have HX2 := Lib.hid (HX1.out.trans (Ext.drewN _ nq))
  have HA2 := Lib.hid (HA1.out.ext (Ext.drewN _ nq))
  have H82 := Lib.hid (H81.out.ext (Ext.drewN _ nq))
  clear HX1 HA1 H81 x0 x2 x4 y8
  generalize hW2 : World.drewN _ nq = W2 at *
  clear hW2
  have x0 := HX2.out.cell c0
  have y8 : W2.cell? ⟨q8, 0, none⟩ = some (.pointer (some ⟨b, 0, none⟩)) := H82.out.cell 0
  go_wp2_with (go_at_call 179; refine (sub_any (HF.out.ext HX2.out) _ _).mono ?_; rintro e w3 ⟨rfl, m3, rfl⟩)
  have HX3 := Lib.hid (HX2.out.trans (Ext.drewN _ m3))
  have HA3 := Lib.hid (HA2.out.ext (Ext.drewN _ m3))
  have H83 := Lib.hid (H82.out.ext (Ext.drewN _ m3))
  clear HX2 HA2 H82 x0 y8
  obtain ⟨E, hE⟩ : ∃ E, fsub p t la = E := ⟨_, rfl⟩
  have HE := Lib.hid hE
  rw [hE]
  clear hE
  generalize hW3 : World.drewN _ m3 = W3 at *
  clear hW3
  have x0 := HX3.out.cell c0
  have y8 : W3.cell? ⟨q8, 0, none⟩ = some (.pointer (some ⟨b, 0, none⟩)) := H83.out.cell 0
  have hl8 : ¬ q8 = W3.heap.size := by have : q8 < W3.heap.size := World.block_lt_of_cell? W3 _ y8; omega
  have hlb : ¬ b = W3.heap.size := by have : b < W3.heap.size := World.block_lt_of_cell? W3 _ x0; omega
  have hl8' : ¬ W3.heap.size = q8 := fun e => hl8 e.symm
  have hlb' : ¬ W3.heap.size = b := fun e => hlb e.symm
  have e0 : ∀ k, ((W3.drewN k).alloc (Obj.cells #[.int .i64 0, .int .i64 0, .int .i64 0, .int .i64 0] 278)).cell? ⟨W3.heap.size, 0, none⟩ = some (.int .i64 0) := fun k => (BlkOf.new (W3.drewN k) [.int .i64 0, .int .i64 0, .int .i64 0, .int .i64 0] 278).cell 0
  have e1 : ∀ k, ((W3.drewN k).alloc (Obj.cells #[.int .i64 0, .int .i64 0, .int .i64 0, .int .i64 0] 278)).cell? ⟨W3.heap.size, 1, none⟩ = some (.int .i64 0) := fun k => (BlkOf.new (W3.drewN k) [.int .i64 0, .int .i64 0, .int .i64 0, .int .i64 0] 278).cell 1
  have e2 : ∀ k, ((W3.drewN k).alloc (Obj.cells #[.int .i64 0, .int .i64 0, .int .i64 0, .int .i64 0] 278)).cell? ⟨W3.heap.size, 2, none⟩ = some (.int .i64 0) := fun k => (BlkOf.new (W3.drewN k) [.int .i64 0, .int .i64 0, .int .i64 0, .int .i64 0] 278).cell 2
  have e3 : ∀ k, ((W3.drewN k).alloc (Obj.cells #[.int .i64 0, .int .i64 0, .int .i64 0, .int .i64 0] 278)).cell? ⟨W3.heap.size, 3, none⟩ = some (.int .i64 0) := fun k => (BlkOf.new (W3.drewN k) [.int .i64 0, .int .i64 0, .int .i64 0, .int .i64 0] 278).cell 3
  have f0 : ∀ k, ((W3.drewN k).alloc (Obj.cells #[.int .i64 0, .int .i64 0, .int .i64 0, .int .i64 0] 278)).frozen? ⟨W3.heap.size, 0, none⟩ = false := fun k => (BlkOf.new (W3.drewN k) [.int .i64 0, .int .i64 0, .int .i64 0, .int .i64 0] 278).free 0
  have f1 : ∀ k, ((W3.drewN k).alloc (Obj.cells #[.int .i64 0, .int .i64 0, .int .i64 0, .int .i64 0] 278)).frozen? ⟨W3.heap.size, 1, none⟩ = false := fun k => (BlkOf.new (W3.drewN k) [.int .i64 0, .int .i64 0, .int .i64 0, .int .i64 0] 278).free 1
  have f2 : ∀ k, ((W3.drewN k).alloc (Obj.cells #[.int .i64 0, .int .i64 0, .int .i64 0, .int .i64 0] 278)).frozen? ⟨W3.heap.size, 2, none⟩ = false := fun k => (BlkOf.new (W3.drewN k) [.int .i64 0, .int .i64 0, .int .i64 0, .int .i64 0] 278).free 2
  have f3 : ∀ k, ((W3.drewN k).alloc (Obj.cells #[.int .i64 0, .int .i64 0, .int .i64 0, .int .i64 0] 278)).frozen? ⟨W3.heap.size, 3, none⟩ = false := fun k => (BlkOf.new (W3.drewN k) [.int .i64 0, .int .i64 0, .int .i64 0, .int .i64 0] 278).free 3
  go_region_held3 (fun w' => w'.cell? ⟨q8, 0, none⟩ = some (.pointer (some ⟨b, 0, none⟩)) ∧ w'.cell? ⟨b, 0, none⟩ = some (.pointer (some ⟨bf, 0, none⟩))) (first | (with_reducible exact ⟨(four_any ((Ext.drewN W3 _).trans (Ext.alloc _ _)) _ _ _ _).cell y8, (four_any ((Ext.drewN W3 _).trans (Ext.alloc _ _)) _ _ _ _).cell x0⟩) | (with_reducible exact ⟨(four_any ((Ext.drew W3).trans (Ext.alloc _ _)) _ _ _ _).cell y8, (four_any ((Ext.drew W3).trans (Ext.alloc _ _)) _ _ _ _).cell x0⟩) | (with_reducible exact ⟨(four_any (((Ext.drewN W3 _).trans (Ext.alloc _ _)).trans (Ext.drewN _ _)) _ _ _ _).cell y8, (four_any (((Ext.drewN W3 _).trans (Ext.alloc _ _)).trans (Ext.drewN _ _)) _ _ _ _).cell x0⟩) | (with_reducible exact ⟨(four_any (((Ext.drew W3).trans (Ext.alloc _ _)).trans (Ext.drewN _ _)) _ _ _ _).cell y8, (four_any (((Ext.drew W3).trans (Ext.alloc _ _)).trans (Ext.drewN _ _)) _ _ _ _).cell x0⟩) | (with_reducible exact ⟨((Ext.drewN W3 _).trans (Ext.alloc _ _)).cell y8, ((Ext.drewN W3 _).trans (Ext.alloc _ _)).cell x0⟩) | (with_reducible exact ⟨((Ext.drew W3).trans (Ext.alloc _ _)).cell y8, ((Ext.drew W3).trans (Ext.alloc _ _)).cell x0⟩) | (with_reducible exact ⟨(((Ext.drewN W3 _).trans (Ext.alloc _ _)).trans (Ext.drewN _ _)).cell y8, (((Ext.drewN W3 _).trans (Ext.alloc _ _)).trans (Ext.drewN _ _)).cell x0⟩) | (with_reducible exact ⟨(((Ext.drew W3).trans (Ext.alloc _ _)).trans (Ext.drewN _ _)).cell y8, (((Ext.drew W3).trans (Ext.alloc _ _)).trans (Ext.drewN _ _)).cell x0⟩) | (with_reducible exact ⟨((Ext.alloc W3 _).trans (Ext.drewN _ _)).cell y8, ((Ext.alloc W3 _).trans (Ext.drewN _ _)).cell x0⟩) | (with_reducible exact ⟨((Ext.alloc W3 _).trans (Ext.drew _)).cell y8, ((Ext.alloc W3 _).trans (Ext.drew _)).cell x0⟩) | (with_reducible exact ⟨(Ext.drewN W3 _).cell y8, (Ext.drewN W3 _).cell x0⟩) | (with_reducible exact ⟨(Ext.drew W3).cell y8, (Ext.drew W3).cell x0⟩)) (first | (go_at_call 214; first | (refine (divA_any (HF.out.ext (HX3.out.trans (Ext.drew W3))) _ _).mono ?_; rintro e w' ⟨rfl, za0, rfl⟩) | (refine (divA_any (HF.out.ext (HX3.out.trans (Ext.drewN W3 _))) _ _).mono ?_; rintro e w' ⟨rfl, za1, rfl⟩) | (refine (divA_any (HF.out.ext (HX3.out.trans ((Ext.drewN W3 _).trans (Ext.alloc _ _)))) _ _).mono ?_; rintro e w' ⟨rfl, za2, rfl⟩) | (refine (divA_any (HF.out.ext (HX3.out.trans ((Ext.drew W3).trans (Ext.alloc _ _)))) _ _).mono ?_; rintro e w' ⟨rfl, za3, rfl⟩) | (refine (divA_any (HF.out.ext (HX3.out.trans (((Ext.drewN W3 _).trans (Ext.alloc _ _)).trans (Ext.drewN _ _)))) _ _).mono ?_; rintro e w' ⟨rfl, za4, rfl⟩) | (refine (divA_any (HF.out.ext (HX3.out.trans (((Ext.drew W3).trans (Ext.alloc _ _)).trans (Ext.drewN _ _)))) _ _).mono ?_; rintro e w' ⟨rfl, za5, rfl⟩)) | (go_at_call 179; first | (refine (sub_any (HF.out.ext (HX3.out.trans (Ext.drew W3))) _ _).mono ?_; rintro e w' ⟨rfl, zb0, rfl⟩) | (refine (sub_any (HF.out.ext (HX3.out.trans (Ext.drewN W3 _))) _ _).mono ?_; rintro e w' ⟨rfl, zb1, rfl⟩) | (refine (sub_any (HF.out.ext (HX3.out.trans ((Ext.drewN W3 _).trans (Ext.alloc _ _)))) _ _).mono ?_; rintro e w' ⟨rfl, zb2, rfl⟩) | (refine (sub_any (HF.out.ext (HX3.out.trans ((Ext.drew W3).trans (Ext.alloc _ _)))) _ _).mono ?_; rintro e w' ⟨rfl, zb3, rfl⟩) | (refine (sub_any (HF.out.ext (HX3.out.trans (((Ext.drewN W3 _).trans (Ext.alloc _ _)).trans (Ext.drewN _ _)))) _ _).mono ?_; rintro e w' ⟨rfl, zb4, rfl⟩) | (refine (sub_any (HF.out.ext (HX3.out.trans (((Ext.drew W3).trans (Ext.alloc _ _)).trans (Ext.drewN _ _)))) _ _).mono ?_; rintro e w' ⟨rfl, zb5, rfl⟩)))
  all_goals
    refine at_join (t := 278) (z0 := .int .i64 0) (z1 := .int .i64 0) (z2 := .int .i64 0) (z3 := .int .i64 0) (Q := fun W' => Exit.then _ _ Exit.normal _ W') (by first | (with_reducible exact (Ext.drewN W3 _).trans (Ext.alloc _ _)) | (with_reducible exact (Ext.drew W3).trans (Ext.alloc _ _)) | (with_reducible exact ((Ext.drewN W3 _).trans (Ext.alloc _ _)).trans (Ext.drewN _ _)) | (with_reducible exact ((Ext.drew W3).trans (Ext.alloc _ _)).trans (Ext.drewN _ _)) | (with_reducible exact (Ext.alloc W3 _).trans (Ext.drewN _ _)) | (with_reducible exact (Ext.alloc W3 _).trans (Ext.drew _))) (by first | exact BlkOf.new (W3.drewN _) [.int .i64 0, .int .i64 0, .int .i64 0, .int .i64 0] _ | exact BlkOf.new W3.drew [.int .i64 0, .int .i64 0, .int .i64 0, .int .i64 0] _ | exact (BlkOf.new W3 [.int .i64 0, .int .i64 0, .int .i64 0, .int .i64 0] _).ext (Ext.drewN _ _)) ?_
    intro W4 hx4 hb4
  all_goals
    have HX4 := Lib.hid (HX3.out.trans hx4)
    have HA4 := Lib.hid (HA3.out.ext hx4)
    have H84 := Lib.hid (H83.out.ext hx4)
    have HD4 := Lib.hid hb4
    have ll8 : q8 + 1 < W3.heap.size := World.block_lt_of_cell? W3 ⟨q8 + 1, 0, none⟩ (HA3.out.cell 0)
    generalize hqd : W3.heap.size = qd at *
    clear hx4 hb4 HX3 HA3 H83 x0 y8 e0 e1 e2 e3 f0 f1 f2 f3 hqd
    have x0 := HX4.out.cell c0
    have x1 := HX4.out.cell c1
    have x2 := HX4.out.cell c2
    have y8 : W4.cell? ⟨q8, 0, none⟩ = some (.pointer (some ⟨b, 0, none⟩)) := H84.out.cell 0
    go_wp2_with fail
    refine wp_region_quiet_tail 9 (by kernel_rfl) (by kernel_rfl) ?_
    simp only [List.take_succ_cons, List.take_zero, List.drop_succ_cons, List.drop_zero]
    repeat (go_big_quiet_step (fail))
    refine wpQuiet_nil ?_
    rintro _ ⟨m5, rfl⟩
    have HX5 := Lib.hid (HX4.out.trans (Ext.drewN _ m5))
    have HA5 := Lib.hid (HA4.out.ext (Ext.drewN _ m5))
    have H85 := Lib.hid (H84.out.ext (Ext.drewN _ m5))
    have HD5 := Lib.hid (HD4.out.ext (Ext.drewN _ m5))
    clear HX4 HA4 H84 HD4 x0 x1 x2 y8
    generalize hW5 : W4.drewN m5 = W5 at *
    clear hW5
    go_wp2_with fail
    generalize hqj : W5.heap.size = qj at *
    have hlj : qd < qj := by rw [← hqj]; exact World.block_lt_of_cell? W5 ⟨qd, 0, none⟩ (HD5.out.cell 0)
    have HJ := Lib.hid (show JBox (((W5.alloc (Obj.cells #[.pointer (some ⟨bf, 0, none⟩), .int .i64 sz, .slice al cd.length cl, .int .i64 out, .slice none 0 0, .slice none 0 0] 174)).alloc (Obj.cells #[.int .i64 0] 3)).alloc (Obj.cells #[.int .i64 1] 3)) qj (.pointer (some ⟨bf, 0, none⟩)) sz out (.slice al cd.length cl) from by
      rw [← hqj]; exact ((JBox.new W5 (.pointer (some ⟨bf, 0, none⟩)) sz out (.slice al cd.length cl) 174).ext (Ext.alloc _ _)).ext (Ext.alloc _ _))
    have hXj : Ext W5 (((W5.alloc (Obj.cells #[.pointer (some ⟨bf, 0, none⟩), .int .i64 sz, .slice al cd.length cl, .int .i64 out, .slice none 0 0, .slice none 0 0] 174)).alloc (Obj.cells #[.int .i64 0] 3)).alloc (Obj.cells #[.int .i64 1] 3)) := ((Ext.alloc W5 _).trans (Ext.alloc _ _)).trans (Ext.alloc _ _)
    have hs1 : (W5.alloc (Obj.cells #[.pointer (some ⟨bf, 0, none⟩), .int .i64 sz, .slice al cd.length cl, .int .i64 out, .slice none 0 0, .slice none 0 0] 174)).heap.size = qj + 1 := by simp [hqj]
    have hs2 : ((W5.alloc (Obj.cells #[.pointer (some ⟨bf, 0, none⟩), .int .i64 sz, .slice al cd.length cl, .int .i64 out, .slice none 0 0, .slice none 0 0] 174)).alloc (Obj.cells #[.int .i64 0] 3)).heap.size = qj + 1 + 1 := by simp [hqj]
    have hbs := (BlkOf.new (W5.alloc (Obj.cells #[.pointer (some ⟨bf, 0, none⟩), .int .i64 sz, .slice al cd.length cl, .int .i64 out, .slice none 0 0, .slice none 0 0] 174)) [.int .i64 0] 3).ext (Ext.alloc _ (Obj.cells #[.int .i64 1] 3))
    have hbp := BlkOf.new ((W5.alloc (Obj.cells #[.pointer (some ⟨bf, 0, none⟩), .int .i64 sz, .slice al cd.length cl, .int .i64 out, .slice none 0 0, .slice none 0 0] 174)).alloc (Obj.cells #[.int .i64 0] 3)) [.int .i64 1] 3
    rw [hs1] at hbs
    rw [hs2] at hbp
    have HQ := Lib.hid (show w.heap.size = q8 ∧ q8 + 1 < qd ∧ qd < qj from ⟨HQ8.out, ll8, hlj⟩)
    have HAT := Lib.hid (show AtB w (((W5.alloc (Obj.cells #[.pointer (some ⟨bf, 0, none⟩), .int .i64 sz, .slice al cd.length cl, .int .i64 out, .slice none 0 0, .slice none 0 0] 174)).alloc (Obj.cells #[.int .i64 0] 3)).alloc (Obj.cells #[.int .i64 1] 3)) q8 (q8 + 1) qd (qj + 1) (qj + 1 + 1) b x y a (divP p t la n.toNat) 0 1 from
      ⟨HX5.out.trans hXj, (H85.out.ext hXj).cell 0, (HA5.out.ext hXj).cell 0, (HA5.out.ext hXj).cell 1, (HA5.out.ext hXj).cell 2, fun k hk => by
        have hb := (HD5.out.ext hXj).cell k
        rw [hb]
        have h4 : k = 0 ∨ k = 1 ∨ k = 2 ∨ k = 3 := by omega
        rcases h4 with rfl | rfl | rfl | rfl
        · simp [divP, HAA.out]
        · simp [divP, HAA.out, HE.out]
        · simp [divP]
        · simp [divP, HE.out], hbs.cell 0, hbs.free 0, hbp.cell 0, hbp.free 0⟩)
    have HDD := Lib.hid (show AtD w q8 (q8 + 1) qd (qj + 1) (qj + 1 + 1) from by
      obtain ⟨h1, h2, h3⟩ := HQ.out
      exact ⟨by omega, by omega, by omega, by omega, by omega, by omega, by omega, by omega, by omega⟩)
    clear HX5 HA5 H85 HD5 hXj hs1 hs2 hbs hbp hlj ll8 hqj
    generalize ((W5.alloc (Obj.cells #[.pointer (some ⟨bf, 0, none⟩), .int .i64 sz, .slice al cd.length cl, .int .i64 out, .slice none 0 0, .slice none 0 0] 174)).alloc (Obj.cells #[.int .i64 0] 3)).alloc (Obj.cells #[.int .i64 1] 3) = W6 at *
    refine (jrules_any (w0 := w) HJ.out HAT.out.ext (by have := HQ.out; omega) HF.out HC.out HR.out HN.out lr ln (by have := HB.out.l64; omega) HB.out.l1).mono ?_
    rintro e w7 ⟨vl, T, rfl, hx7, ho7⟩
    have HA7 := Lib.hid (show AtB w w7 q8 (q8 + 1) qd (qj + 1) (qj + 1 + 1) b x y a (divP p t la n.toNat) 0 1 from
      ((HAT.out.beside (q := qj) (k := 4) (v := rv) (by have := HQ.out; omega) (by have := HQ.out; omega) (by have := HQ.out; omega) (by have := HQ.out; omega) (by omega) (by omega)).beside (q := qj) (k := 5) (v := nv) (by have := HQ.out; omega) (by have := HQ.out; omega) (by have := HQ.out; omega) (by have := HQ.out; omega) (by omega) (by omega)).more hx7)
    have HTL := Lib.hid (show qj + 1 < (jset W6 qj rv nv).heap.size ∧ qj + 1 + 1 < (jset W6 qj rv nv).heap.size from by
      have h1 : qj + 1 < W6.heap.size := World.block_lt_of_cell? W6 ⟨qj + 1, 0, none⟩ HAT.out.cs
      have h2 : qj + 1 + 1 < W6.heap.size := World.block_lt_of_cell? W6 ⟨qj + 1 + 1, 0, none⟩ HAT.out.cp
      have h3 : (jset W6 qj rv nv).heap.size = W6.heap.size := by simp [jset, World.setCell]
      omega)
    obtain ⟨l, hl⟩ : ∃ l, rulesK p sz out cd r nx = l := ⟨_, rfl⟩
    rw [hl] at ho7
    have hll7 : l.length = cd.length + 26 := by rw [← hl]; exact rulesK_length
    have HTM := Lib.hid (show ∀ k, k < cd.length + 26 → termP p sz out cd x y t la n.toNat r nx z zn k = fdiv p (nth l k) (divP p t la n.toNat (kindR cd.length k)) from fun k hk => by unfold termP; rw [if_pos hk, hl])
    have HL := Lib.hid hl
    have HO7 := Lib.hid ho7
    have hrl := ho7.ints.run_len (P := Tryz.prog) slInts
    have hlb : l.length ≤ 1048700 := by have := HB.out.l64; omega
    generalize jset W6 qj rv nv = Wj at *
    clear hx7 ho7 hl HAT HJ
    go_wp2_with fail
    go_loopw [26, 27, 101] (fun _ _ x101 wr => ∃ k : Nat, k ≤ l.length ∧ x101 = .int .i64 k ∧ Hid (AtB w wr q8 (q8 + 1) qd (qj + 1) (qj + 1 + 1) b x y a (divP p t la n.toNat) (sumU p a (termP p sz out cd x y t la n.toNat r nx z zn) k).1 (sumU p a (termP p sz out cd x y t la n.toNat r nx z zn) k).2) ∧ Hid (OwnL Wj T wr vl l)) (fun _ _ x101 _ => l.length - (intOf x101).toNat)
    case atStart => exact ⟨0, by omega, rfl, HA7, HO7⟩
    case round =>
      clear HA7 HO7
      obtain ⟨k, hk, rfl, HAK, HOL⟩ := hrel
      by_cases hkl : k < l.length
      · have hk2 : k < cd.length + 26 := by omega
        have hkx := HOL.out.ints.run_index (P := Tryz.prog) slInts k hkl
        have hky := HOL.out.ints.cell k hkl
        have y8 := HAK.out.c8
        have x2 := HAK.out.ext.cell c2
        have CO := pof_any cd.length k wr (by have := HB.out.l64; omega) hk2
        have HST := Lib.hid (show sumU p a (termP p sz out cd x y t la n.toNat r nx z zn) (k + 1) = (fadd p (sumU p a (termP p sz out cd x y t la n.toNat r nx z zn) k).1 (fmul p (sumU p a (termP p sz out cd x y t la n.toNat r nx z zn) k).2 (fdiv p (nth l k) (divP p t la n.toNat (kindR cd.length k)))), fmul p (sumU p a (termP p sz out cd x y t la n.toNat r nx z zn) k).2 a) from by rw [sumU, HTM.out k hk2])
        have hkr : kindR cd.length k < 4 := by have := kindB_lit cd.length k; omega
        generalize kindR cd.length k = kr at *
        generalize nth l k = is at *
        go_wp2_with (first | (go_at_call 109; refine CO.mono ?_; rintro e w' ⟨rfl, rfl⟩) | (go_at_call 215; refine (atadd_any HAK.out HDD.out c0 HF.out is kr hkr).mono ?_; rintro e w' ⟨rfl, m8, m9, rfl⟩))
        go_roundw
        case rel =>
          exact ⟨k + 1, by omega, by go_num, Lib.hid (by rw [HST.out]; exact (((HAK.out.more (Ext.drewN _ _)).setS HDD.out _).more (Ext.drewN _ _)).setP HDD.out _), Lib.hid ((((HOL.out.ext (Ext.drewN _ _)).other HTL.out.1 _).ext (Ext.drewN _ _)).other HTL.out.2 _)⟩
        case measure => simp [intOf]; omega
      · obtain rfl : k = l.length := by omega
        have HS1 := Lib.hid (show sumU p a (termP p sz out cd x y t la n.toNat r nx z zn) (cd.length + 27) = (fadd p (sumU p a (termP p sz out cd x y t la n.toNat r nx z zn) l.length).1 (fmul p (sumU p a (termP p sz out cd x y t la n.toNat r nx z zn) l.length).2 (fdiv p (fsub p (fmul p zn (facB p x y r)) (fmul p z (facA p x y r))) (divP p t la n.toNat 0))), fmul p (sumU p a (termP p sz out cd x y t la n.toNat r nx z zn) l.length).2 a) from by
          rw [hll7, show cd.length + 27 = cd.length + 26 + 1 from rfl, sumU]
          rw [show termP p sz out cd x y t la n.toNat r nx z zn (cd.length + 26) = fdiv p (fsub p (fmul p zn (facB p x y r)) (fmul p z (facA p x y r))) (divP p t la n.toNat 0) from by unfold termP; rw [if_neg (by omega), if_pos rfl]])
        have HS2 := Lib.hid (show (sumU p a (termP p sz out cd x y t la n.toNat r nx z zn) (cd.length + 28)).1 = fadd p (sumU p a (termP p sz out cd x y t la n.toNat r nx z zn) (cd.length + 27)).1 (fmul p (sumU p a (termP p sz out cd x y t la n.toNat r nx z zn) (cd.length + 27)).2 (fdiv p (fsub p z 1) (divP p t la n.toNat 2))) from by
          rw [show cd.length + 28 = cd.length + 27 + 1 from rfl, sumU]
          rw [show termP p sz out cd x y t la n.toNat r nx z zn (cd.length + 27) = fdiv p (fsub p z 1) (divP p t la n.toNat 2) from by unfold termP; rw [if_neg (by omega), if_neg (by omega)]])
        have HSF := Lib.hid (show (sumU p a (termP p sz out cd x y t la n.toNat r nx z zn) (cd.length + 28)).1 = atC p sz out cd x y a (ptAt p g (froot p g (8 * n)) i) (ptAt p 1 (froot p g n) (n.toNat - 1)) n.toNat r nx z zn from by
          unfold atC
          rw [HT.out, HM1.out, HLA.out, sumU_congr (fun j _ => term_same p sz out cd x y t la n.toNat r nx z zn HPR.out hp3 j)])
        generalize sumU p a (termP p sz out cd x y t la n.toNat r nx z zn) l.length = SU at *
        generalize sumU p a (termP p sz out cd x y t la n.toNat r nx z zn) (cd.length + 27) = SV at *
        generalize (sumU p a (termP p sz out cd x y t la n.toNat r nx z zn) (cd.length + 28)).1 = SW at *
        have y8 := HAK.out.c8
        have x0 := HAK.out.ext.cell c0
        have bx := HAK.out.bx
        have by1 := HAK.out.by_
        clear HTM
        go_wp2_with fail
        go_quiet ((go_at_call 216; exact Calls.quiet_of (factors_any ((HF.out.ext HAK.out.ext).drewN _) rv r x y ((HR.out.ext HAK.out.ext).drewN _) (by omega))))
        obtain ⟨fA, hfA⟩ : ∃ fA, facA p x y r = fA := ⟨_, rfl⟩
        obtain ⟨fB, hfB⟩ : ∃ fB, facB p x y r = fB := ⟨_, rfl⟩
        rw [hfA, hfB] at HS1
        rw [hfA, hfB]
        clear hfA hfB
        have HA8 := Lib.hid (HAK.out.more (Ext.drewN _ nq))
        clear HAK HOL y8 x0 bx by1
        generalize hW8 : wr.drewN nq = W8 at *
        clear hW8
        have y8 := HA8.out.c8
        have x0 := HA8.out.ext.cell c0
        go_wp2_with fail
        refine wp_region_quiet_tail 20 (by kernel_rfl) (by kernel_rfl) ?_
        simp only [List.take_succ_cons, List.take_zero, List.drop_succ_cons, List.drop_zero]
        repeat (go_big_quiet_step (first | (go_at_call 123; exact mul_q (HF.out.ext HA8.out.ext) _ _ _) | (go_at_call 179; exact sub_q (HF.out.ext HA8.out.ext) _ _ _)))
        refine wpQuiet_nil ?_
        rintro _ ⟨m10, rfl⟩
        go_wp2_with (go_at_call 215; refine (atadd0_any (HA8.out.more (Ext.drewN _ m10)) HDD.out c0 HF.out _).mono ?_; rintro e w9 ⟨rfl, m11, m12, hw9⟩; have HA9 := Lib.hid (show AtB w w9 q8 (q8 + 1) qd (qj + 1) (qj + 1 + 1) b x y a (divP p t la n.toNat) SV.1 SV.2 from by { rw [hw9, HS1.out]; exact ((((HA8.out.more (Ext.drewN _ m10)).more (Ext.drewN _ m11)).setS HDD.out _).more (Ext.drewN _ m12)).setP HDD.out _ }); have y9 := HA9.out.c8; have x9 := HA9.out.ext.cell c0; clear hw9) 
        refine (sub_any (HF.out.ext HA9.out.ext) _ _).mono ?_
        rintro e w' ⟨rfl, m13, rfl⟩
        go_wp2_with (go_at_call 215; refine (atadd2_any (HA9.out.more (Ext.drewN _ m13)) HDD.out c0 HF.out _).mono ?_; rintro e w10 ⟨rfl, m14, m15, hw10⟩; have HA10 := Lib.hid (show ∃ pw, AtB w w10 q8 (q8 + 1) qd (qj + 1) (qj + 1 + 1) b x y a (divP p t la n.toNat) SW pw from ⟨_, by { rw [hw10, HS2.out]; exact ((((HA9.out.more (Ext.drewN _ m13)).more (Ext.drewN _ m14)).setS HDD.out _).more (Ext.drewN _ m15)).setP HDD.out _ }⟩); have cs10 : w10.cell? ⟨qj + 1, 0, none⟩ = some (.int .i64 SW) := by { obtain ⟨_, h⟩ := HA10.out; exact h.cs }; clear hw10)
        go_ret
        exact ⟨ret_int HSF.out, by obtain ⟨_, h⟩ := HA10.out; exact h.ext⟩
end
end Go.Proofs.YtnmjaddhbecopaaGreatDoor
