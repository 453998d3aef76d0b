/- Tables: the holes of a run: the program's contract. -/
import Derived.Test.YtainhfnanamobaaGreatDoorTb
import Derived.Test.YtainhfnanamobaaGreatDoorMr
namespace Go.Proofs.YtainhfnanamobaaGreatDoor
open Go.RowKit Go.Att Go.Maps
theorem slIntT : SlT Tryz.prog 26 3 1 8 (.int .i64 0) := .mk' Tryz.underlying26 (by kernel_rfl) (by decide)
theorem zeroB (w : World) : (zeroValue 4).run Tryz.prog w = .ok (.bool false) w := by kernel_rfl
theorem own_not_set {P : Program} {K B : TypeId} {w : World} {B0 e sz c : Nat} {v : Value} {xs : List Value} {mb : Nat} {n : Int} {S : Int → Bool} (h : w.ownsRow B0 e sz v c xs) (hb : Tset P K B w mb n S) : v.ownBlock ≠ some mb := by
  rcases h.2 with ⟨rfl, _⟩ | ⟨g, cap, cur, rfl, _, hg, _⟩
  · simp [Value.ownBlock]
  · intro e2
    simp [Value.ownBlock] at e2
    subst e2
    obtain ⟨_, _, _, ⟨es, clock, hb, _⟩, _⟩ := hb
    rw [hg] at hb
    simp at hb
theorem idx3a (a b c : Int) (w : World) : (Instr.index 92 (.agg #[.int .i64 a, .int .i64 b, .int .i64 c]) (.int .i64 0)).run Tryz.prog w = .ok (.int .i64 a) w := by kernel_rfl
theorem idx3b (a b c : Int) (w : World) : (Instr.index 92 (.agg #[.int .i64 a, .int .i64 b, .int .i64 c]) (.int .i64 1)).run Tryz.prog w = .ok (.int .i64 b) w := by kernel_rfl
theorem idx3c (a b c : Int) (w : World) : (Instr.index 92 (.agg #[.int .i64 a, .int .i64 b, .int .i64 c]) (.int .i64 2)).run Tryz.prog w = .ok (.int .i64 c) w := by kernel_rfl
theorem idx3 (t : Stp) (j : Nat) (hj : j < 3) (w : World) : (Instr.index 92 (.agg #[.int .i64 (accA t.acc 0), .int .i64 (accA t.acc 1), .int .i64 (accA t.acc 2)]) (.int .i64 (j : Int))).run Tryz.prog w = .ok (.int .i64 (accA t.acc j)) w := by
  have h3 : j = 0 ∨ j = 1 ∨ j = 2 := by omega
  rcases h3 with rfl | rfl | rfl
  · exact idx3a _ _ _ w
  · exact idx3b _ _ _ w
  · exact idx3c _ _ _ w
set_option maxRecDepth 100000 in
set_option maxHeartbeats 8000000 in
theorem holes_any {w : World} {sv : Value} {l : List Stp} (hs : Sl w 10 sv l.length (flatS l)) (hl : l.length ≤ 16385) (hb : ∀ t ∈ l, ∀ j, 0 ≤ accA t.acc j ∧ accA t.acc j ≤ 2147483646) :
    Calls Tryz.prog 45 #[sv] w fun e w' => ∃ v, e = .returned v ∧ Ints w' v ((missL l).take 513) ∧ Ext w w' := by
  have hmm := @run_makeMap Tryz.prog
  have hll := fun w' => Sl.run_len (P := Tryz.prog) hs slStep 3 w'
  have HT0 := Lib.hid (Tset.made (P := Tryz.prog) (K := 3) (B := 4) w)
  have HX0 := Lib.hid (Ext.alloc w (.map #[] 0))
  have HS := Lib.hid hs; have HB := Lib.hid hb
  clear hs hb
  go_enter Tryz.func45, Tryz.ntmps45
  go_upto_region 3 with (fail)
  generalize w.alloc (.map #[] 0) = W0 at *
  generalize hmb : w.heap.size = mb at *
  have HMB := Lib.hid hmb
  clear hmb hmm
  go_wp2_with fail
  go_loopw [4, 14] (fun x4 x14 wr => ∃ (i : Nat) (g : Int), i ≤ l.length ∧ x14 = .int .i64 i ∧ x4 = .int .i64 g ∧ Hid (topL (atsAll (l.take i)) = g) ∧ Hid (Tset Tryz.prog 3 4 wr mb (3 * i) (fun k => decide (k ∈ atsAll (l.take i)))) ∧ Hid (Ext w wr)) (fun _ x14 _ => l.length - (intOf x14).toNat)
  case atStart => exact ⟨0, 0, Nat.zero_le _, rfl, rfl, Lib.hid rfl, Lib.hid (by simpa [atsAll] using HT0.out), HX0⟩
  case round =>
    obtain ⟨i, g, hi, rfl, rfl, HG, HT, HX⟩ := hrel
    by_cases hil : i < l.length
    · have hix : ∀ w', (Instr.indexAt 87 sv (.int .i64 (i : Int))).run Tryz.prog w' = .ok (.pointer (some (elt sv i 10))) w' := fun w' => by
        have := Sl.run_index (P := Tryz.prog) HS.out slStep (i : Int) (by omega) (by omega) w'
        rw [Int.toNat_natCast] at this; exact this
      obtain ⟨c0, c1, c2, c3, c4, c5, c6, c7, c8, c9⟩ := stp_all (Sl.ext HS.out HX.out) i hil
      have HTK := Lib.hid (atsAll_take hil)
      have hbj := HB.out l[i] (List.getElem_mem hil)
      generalize l[i] = t at *
      have HBJ := Lib.hid hbj
      clear hbj
      go_upto_region 6 with (fail)
      have hxn := Ext.alloc wr (Obj.cells #[.int .i64 t.pc, .int .i64 t.fp, .int .i64 t.ap, .int .i64 t.rv, .int .i64 (accA t.acc 0), .int .i64 (accA t.acc 1), .int .i64 (accA t.acc 2), .int .i64 (accI t.acc 0), .int .i64 (accI t.acc 1), .int .i64 (accI t.acc 2)] 94)
      have hbn := BlkOf.new wr [.int .i64 t.pc, .int .i64 t.fp, .int .i64 t.ap, .int .i64 t.rv, .int .i64 (accA t.acc 0), .int .i64 (accA t.acc 1), .int .i64 (accA t.acc 2), .int .i64 (accI t.acc 0), .int .i64 (accI t.acc 1), .int .i64 (accI t.acc 2)] 94
      have HT5 := Lib.hid (HT.out.ext hxn); have HX5 := Lib.hid (HX.out.trans hxn); have HBN := Lib.hid hbn
      clear c0 c1 c2 c3 c4 c5 c6 c7 c8 c9 hxn hbn HT HX hix
      generalize wr.alloc (Obj.cells #[.int .i64 t.pc, .int .i64 t.fp, .int .i64 t.ap, .int .i64 t.rv, .int .i64 (accA t.acc 0), .int .i64 (accA t.acc 1), .int .i64 (accA t.acc 2), .int .i64 (accI t.acc 0), .int .i64 (accI t.acc 1), .int .i64 (accI t.acc 2)] 94) = W5 at *
      generalize wr.heap.size = sb at *
      have s4 : W5.cell? ⟨sb, 4, none⟩ = some (.int .i64 (accA t.acc 0)) := HBN.out.cell 4
      have s5 : W5.cell? ⟨sb, 5, none⟩ = some (.int .i64 (accA t.acc 1)) := HBN.out.cell 5
      have s6 : W5.cell? ⟨sb, 6, none⟩ = some (.int .i64 (accA t.acc 2)) := HBN.out.cell 6
      go_wp2_with fail
      clear s4 s5 s6 HBN
      go_loopw [4, 20] (fun x4 x20 ws => ∃ (j : Nat) (g : Int), j ≤ 3 ∧ x20 = .int .i64 j ∧ x4 = .int .i64 g ∧ Hid (topL (atsAll (l.take i) ++ (atsOf t).take j) = g) ∧ Hid (Tset Tryz.prog 3 4 ws mb ((3 * i + j : Nat) : Int) (fun k => decide (k ∈ atsAll (l.take i) ++ (atsOf t).take j))) ∧ Hid (Ext w ws)) (fun _ x20 _ => 3 - (intOf x20).toNat)
      case atStart => exact ⟨0, g, by omega, rfl, rfl, Lib.hid (by simpa using HG.out), Lib.hid (by simpa using HT5.out), HX5⟩
      case round =>
        clear HG HT5 HX5
        obtain ⟨j, g, hj, rfl, rfl, HG, HT, HX⟩ := hrel
        by_cases hj3 : j < 3
        · obtain ⟨a, ha⟩ : ∃ a, accA t.acc j = a := ⟨_, rfl⟩
          have hab := HBJ.out j
          obtain ⟨w2, hr, hT, hg⟩ := HT.out.add Tryz.underlying3 Tryz.underlying4 Tryz.underlying149 (by omega) hab.1 (by omega)
          have HX2 := Lib.hid ((Turned.one (c := mb) hg).ext HX.out (by rw [HMB.out]; exact Nat.le_refl _) (by rw [HMB.out]; exact Nat.le_refl _))
          have HT2 : Hid (Tset Tryz.prog 3 4 w2 mb ((3 * i + (j + 1) : Nat) : Int) (fun k => decide (k ∈ atsAll (l.take i) ++ (atsOf t).take (j + 1)))) := Lib.hid (by rw [atsOf_take t j hj3, ← List.append_assoc, set_snoc]; exact hT.mono (by omega))
          have HG2 := Lib.hid (show topL (atsAll (l.take i) ++ (atsOf t).take (j + 1)) = if accA t.acc j > g then accA t.acc j else g by rw [atsOf_take t j hj3, ← List.append_assoc, topL_snoc, HG.out])
          clear hT hg HT HX HG ha a hab
          have hid := idx3 t j hj3
          go_wp2_with fail
          go_roundw
          case rel => exact ⟨j + 1, _, by omega, by go_num, rfl, HG2, HT2, HX2⟩
          case measure => simp [intOf]; omega
        · obtain rfl : j = 3 := by omega
          have HT2 : Hid (Tset Tryz.prog 3 4 wr mb (3 * ((i + 1 : Nat) : Int)) (fun k => decide (k ∈ atsAll (l.take (i + 1))))) := Lib.hid (by rw [HTK.out]; exact HT.out.mono (by omega))
          have HG2 := Lib.hid (show topL (atsAll (l.take (i + 1))) = g by rw [HTK.out]; exact HG.out)
          clear HT HG
          go_wp2_with fail
          go_roundw
          case rel => exact ⟨i + 1, g, by omega, by go_num, rfl, HG2, HT2, HX⟩
          case measure => simp [intOf]; omega
    · obtain rfl : i = l.length := by omega
      rw [List.take_length] at HG HT
      have hgb := topL_bd (xs := atsAll l) (b := 2147483646) (fun x hx => by
        unfold atsAll at hx
        rw [List.mem_flatMap] at hx
        obtain ⟨t, ht, hx⟩ := hx
        have h0 := HB.out t ht
        unfold atsOf at hx
        simp only [List.mem_cons, List.not_mem_nil, or_false] at hx
        rcases hx with rfl | rfl | rfl
        · exact (h0 0).2
        · exact (h0 1).2
        · exact (h0 2).2) (by decide)
      rw [HG.out] at hgb
      obtain ⟨gn, rfl⟩ := Int.eq_ofNat_of_zero_le hgb.1
      have hgn : gn ≤ 2147483646 := by omega
      have HGN := Lib.hid (show missL l = holesUp (atsAll l) gn by unfold missL; rw [HG.out, Int.toNat_natCast])
      clear HG hgb hi
      generalize atsAll l = xs at *
      go_wp2_with fail
      generalize hW1 : wr = W1 at *
      clear hW1
      go_loopw [9, 31] (fun x9 x31 wr => ∃ a : Nat, a ≤ gn ∧ x31 = .int .i64 a ∧ (holesUp xs a).length ≤ 513 ∧ Hid (wr.ownsRow w.heap.size 3 1 x9 (holesUp xs a).length ((holesUp xs a).map (Value.int .i64))) ∧ Hid (Tset Tryz.prog 3 4 wr mb (3 * l.length) (fun k => decide (k ∈ xs))) ∧ Hid (Ext w wr)) (fun _ x31 _ => gn - (intOf x31).toNat)
      case atStart => exact ⟨0, Nat.zero_le _, rfl, by simp [holesUp], Lib.hid (World.ownsRow_nil _ _ _ _), HT, HX⟩
      case round =>
        clear HT HX
        obtain ⟨a, ha, rfl, hal, HO, HT, HX⟩ := hrel
        obtain ⟨H, hH⟩ : ∃ H, holesUp xs a = H := ⟨_, rfl⟩
        rw [hH] at hal HO
        have HH := Lib.hid hH
        clear hH
        obtain ⟨va, vc, rfl⟩ := own_shape HO.out
        by_cases hlt : a < gn
        · by_cases h5 : 512 < H.length
          · have HE := Lib.hid (holesUp_full (show a ≤ gn by omega) (show (holesUp xs a).length = 513 by rw [HH.out]; omega))
            go_wp2_with fail
            go_ret
            exact ⟨_, rfl, by rw [HGN.out, ← HE.out, HH.out]; exact Ints.of_own HO.out, HX.out⟩
          · have hlk := HT.out.look Tryz.underlying3 Tryz.underlying4 Tryz.underlying149 zeroB (k := (a : Int)) (by omega) (by omega)
            by_cases hm : (a : Int) ∈ xs
            · have HN := Lib.hid (show holesUp xs (a + 1) = H by rw [holesUp_succ, if_pos hm, HH.out])
              rw [show decide ((a : Int) ∈ xs) = true by simpa using hm] at hlk
              clear hm HH
              go_wp2_with fail
              go_roundw
              case rel => exact ⟨a + 1, by omega, by go_num, by rw [HN.out]; exact hal, Lib.hid (by rw [HN.out]; exact HO.out), HT, HX⟩
              case measure => simp [intOf]; omega
            · have HN := Lib.hid (show holesUp xs (a + 1) = H ++ [(a : Int)] by rw [holesUp_succ, if_neg hm, HH.out])
              rw [show decide ((a : Int) ∈ xs) = false by simpa using hm] at hlk
              clear hm HH
              have hsz := HX.out.size
              have HMB2 := Lib.hid (show some mb ≠ (Value.slice va H.length vc).ownBlock from fun e => own_not_set HO.out HT.out e.symm)
              go_wp2_with (at_builtin; refine wpList_appNw rfl _ _ 26 rfl slIntT rfl hsz HO.out rfl #[.int .i64 (a : Int)] rfl (by intro u hu; simp at hu; subst hu; rfl) rfl (by omega) (by omega) ?_; intro v3 w3 HO3 HG3 _; have HOx := Lib.hid HO3; have HTx := Lib.hid (HT.out.kept HG3 HMB2.out); have HXx := Lib.hid (Ext.own_grown HX.out HO.out HG3); clear HO3 HG3 hsz)
              go_roundw
              case rel => exact ⟨a + 1, by omega, by go_num, by rw [HN.out]; simp; omega, Lib.hid (by rw [HN.out]; simpa using HOx.out), HTx, HXx⟩
              case measure => simp [intOf]; omega
        · obtain rfl : a = gn := by omega
          have HE := Lib.hid (show H = (missL l).take 513 by rw [HGN.out, HH.out, List.take_of_length_le (by omega)])
          go_wp2_with fail
          go_ret
          exact ⟨_, rfl, by rw [← HE.out]; exact Ints.of_own HO.out, HX.out⟩
end Go.Proofs.YtainhfnanamobaaGreatDoor
