/- RulesBroken: two cells of a block of the call's own; what Broken tells, plain. RulesBroken: the document's side: the first rule that does not hold: rows of another shape. RulesBroken: the program's side: the width of rows; whether all rows have it. -/
import Derived.Test.YtnmjaddhbecopaaGreatDoorZx8
import Derived.Test.YtnmjaddhbecopaaGreatDoorKh
import Derived.Test.YtnmjaddhbecopaaGreatDoorZx12
import Derived.Test.YtnmjaddhbecopaaGreatDoorKr
section
namespace Go.Att
open Go.RowKit
/-- Two cells of a block of the call's own. -/
structure C2 (w : World) (b : Nat) (x y : Value) : Prop where
  c0 : w.cell? ⟨b, 0, none⟩ = some x
  c1 : w.cell? ⟨b, 1, none⟩ = some y
  f0 : w.frozen? ⟨b, 0, none⟩ = false
  f1 : w.frozen? ⟨b, 1, none⟩ = false
section
variable {w w' : World} {b : Nat} {x y : Value}
theorem C2.new (w : World) (x y : Value) (t : TypeId) : C2 (w.alloc (Obj.cells #[x, y] t)) w.heap.size x y :=
  ⟨by rw [cell_new]; rfl, by rw [cell_new]; rfl, by simp, by simp⟩
theorem C2.ext (h : C2 w b x y) (hx : Ext w w') : C2 w' b x y := by
  have hb : b < w.heap.size := World.block_lt_of_cell? w ⟨b, 0, none⟩ h.c0
  exact ⟨hx.cell h.c0, hx.cell h.c1, (Below.frozen hx (p := ⟨b, 0, none⟩) hb).trans h.f0, (Below.frozen hx (p := ⟨b, 1, none⟩) hb).trans h.f1⟩
theorem C2.set0 (h : C2 w b x y) (v : Value) : C2 (w.setCell ⟨b, 0, none⟩ v) b v y :=
  ⟨World.cell?_setCell_same _ _ _ h.c0, by rw [World.cell?_setCell_other _ _ _ _ (by simp)]; exact h.c1, by rw [World.frozen?_setCell]; exact h.f0, by rw [World.frozen?_setCell]; exact h.f1⟩
theorem C2.set1 (h : C2 w b x y) (v : Value) : C2 (w.setCell ⟨b, 1, none⟩ v) b x v :=
  ⟨by rw [World.cell?_setCell_other _ _ _ _ (by simp)]; exact h.c0, World.cell?_setCell_same _ _ _ h.c1, by rw [World.frozen?_setCell]; exact h.f0, by rw [World.frozen?_setCell]; exact h.f1⟩
theorem C2.other (h : C2 w b x y) {b' k : Nat} (hne : b ≠ b') (v : Value) : C2 (w.setCell ⟨b', k, none⟩ v) b x y := by
  have hb := (setCell_grown w b' k v).block b (World.block_lt_of_cell? w ⟨b, 0, none⟩ h.c0) (fun e => hne (Option.some.inj e))
  exact ⟨by rw [World.cell?_of_block (a := ⟨b, 0, none⟩) hb]; exact h.c0, by rw [World.cell?_of_block (a := ⟨b, 1, none⟩) hb]; exact h.c1,
    by rw [World.frozen?_of_block (a := ⟨b, 0, none⟩) hb]; exact h.f0, by rw [World.frozen?_of_block (a := ⟨b, 1, none⟩) hb]; exact h.f1⟩
end
/-- Two boxes of two cells each. -/
theorem bx_new (w : World) (x y z u : Value) (t1 t2 : TypeId) : C2 ((w.alloc (Obj.cells #[x, y] t1)).alloc (Obj.cells #[z, u] t2)) w.heap.size x y ∧ C2 ((w.alloc (Obj.cells #[x, y] t1)).alloc (Obj.cells #[z, u] t2)) (w.heap.size + 1) z u ∧ Ext w ((w.alloc (Obj.cells #[x, y] t1)).alloc (Obj.cells #[z, u] t2)) := by
  refine ⟨(C2.new w x y t1).ext (Ext.alloc _ _), ?_, (Ext.alloc _ _).trans (Ext.alloc _ _)⟩
  have := C2.new (w.alloc (Obj.cells #[x, y] t1)) z u t2
  rwa [show (w.alloc (Obj.cells #[x, y] t1)).heap.size = w.heap.size + 1 by simp] at this
/-- Both cells anew. -/
theorem C2.both {w w0 : World} {b : Nat} {x y : Value} (h : C2 w b x y) (hx : Ext w0 w) (hb : w0.heap.size ≤ b) (u v : Value) : C2 ((w.setCell ⟨b, 0, none⟩ u).setCell ⟨b, 1, none⟩ v) b u v ∧ Ext w0 ((w.setCell ⟨b, 0, none⟩ u).setCell ⟨b, 1, none⟩ v) :=
  ⟨(h.set0 u).set1 v, Below.setCell (Below.setCell hx hb u) hb v⟩
/-- What Broken tells. -/
def BrkGot (p sz out : Int) (cd : List In4) (L : List (List Int)) (e : Ending) : Prop :=
  (shapeB cd L = true ∧ e = .returned (.agg #[.int .i64 (-2), .int .i64 0])) ∨
  (shapeB cd L = false ∧ ∃ o, FstBad (badB p sz out cd L) (fun k i => k < cd.length + 26 ∧ i < L.length) o ∧ e = .returned (.agg #[.int .i64 (toldB o).1, .int .i64 (toldB o).2]))
theorem BrkGot.one {p sz out : Int} {cd : List In4} {L : List (List Int)} {a b : Ending} (h1 : BrkGot p sz out cd L a) (h2 : BrkGot p sz out cd L b) : a = b := by
  rcases h1 with ⟨a1, rfl⟩ | ⟨a1, o, ho, rfl⟩ <;> rcases h2 with ⟨b1, rfl⟩ | ⟨b1, o', ho', rfl⟩
  · rfl
  · rw [a1] at b1; cases b1
  · rw [a1] at b1; cases b1
  · rw [ho.one ho']
theorem shapeB_full {cd : List In4} {L : List (List Int)} (h1 : 0 < L.length) (h2 : 0 < cd.length) (h : ∀ i, i < L.length → (nthL L i).length = 20 + cd.length) : shapeB cd L = false := by
  unfold shapeB
  rw [Bool.or_eq_false_iff, Bool.or_eq_false_iff]
  refine ⟨⟨by rw [beq_eq_false_iff_ne]; omega, by rw [beq_eq_false_iff_ne]; omega⟩, ?_⟩
  rw [List.any_eq_false]
  intro x hx
  obtain ⟨i, hi, rfl⟩ := List.mem_iff_getElem.1 hx
  have := h i hi
  simp only [nthL, List.getD_eq_getElem?_getD, List.getElem?_eq_getElem hi, Option.getD_some] at this
  simp [this]
theorem shapeB_row {cd : List In4} {L : List (List Int)} {i : Nat} (hi : i < L.length) (h : (nthL L i).length ≠ 20 + cd.length) : shapeB cd L = true := by
  unfold shapeB
  rw [Bool.or_eq_true]
  right
  rw [List.any_eq_true]
  refine ⟨L[i], List.getElem_mem hi, ?_⟩
  simp only [nthL, List.getD_eq_getElem?_getD, List.getElem?_eq_getElem hi, Option.getD_some] at h
  simpa using h
theorem shapeB_nil {cd : List In4} {L : List (List Int)} (h : L.length = 0 ∨ cd.length = 0) : shapeB cd L = true := by
  unfold shapeB
  rcases h with h | h <;> simp [h]
end Go.Att
end
section
namespace Go.Proofs.YtnmjaddhbecopaaGreatDoor
open Go.RowKit Go.Att
theorem slRowsK : SlT Tryz.prog 22 23 1 24 (.slice none 0 0) := .mk' Tryz.underlying22 (by kernel_rfl) (by decide)
end Go.Proofs.YtnmjaddhbecopaaGreatDoor
end
section
namespace Go.Proofs.YtnmjaddhbecopaaGreatDoor
open Go.RowKit Go.Att
theorem width_any (sz : Int) (lv : Value) (cd : List In4) (w : World) (hc : Inqs w lv cd) (hs : cd.length ≤ 1048576) : Calls Tryz.prog 72 #[.agg #[.int .i64 sz, lv]] w fun e w' => e = .returned (.int .i64 (20 + cd.length)) ∧ Ext w w' := by
  have hll := hc.run_len (P := Tryz.prog) slIns
  clear hc
  go_enter Tryz.func72, Tryz.ntmps72
  go_wp2_with fail
  go_ret
  exact ⟨rfl, Ext.alloc _ _⟩
theorem wrong_any (sz : Int) (lv v : Value) (l : List Int) (cd : List In4) (w : World) (q : Nat) (h0 : w.cell? ⟨q, 0, none⟩ = some (.int .i64 sz)) (h1 : w.cell? ⟨q, 1, none⟩ = some lv) (hc : Inqs w lv cd) (hv : Ints w v l) (hs : cd.length ≤ 1048576) : Calls Tryz.prog 106 #[v, .pointer (some ⟨q, 0, none⟩)] w fun e w' => e = .returned (.bool ((l.length : Int) != 20 + (cd.length : Int))) ∧ Ext w w' := by
  have hrl := hv.run_len (P := Tryz.prog) slInts
  have HC := Lib.hid hc
  clear hv hc
  go_enter Tryz.func106, Tryz.ntmps106
  go_wp2_with (go_at_call 72; refine (width_any _ _ _ _ HC.out hs).mono ?_; rintro e w1 ⟨rfl, hx1⟩)
  go_ret
  exact ⟨rfl, hx1⟩
def wrongB (cd : List In4) (L : List (List Int)) : Bool := L.any fun r => r.length != 20 + cd.length
set_option maxHeartbeats 2000000 in
theorem wrongs_any (sz : Int) (lv v : Value) (L : List (List Int)) (cd : List In4) (w : World) (q : Nat) (h0 : w.cell? ⟨q, 0, none⟩ = some (.int .i64 sz)) (h1 : w.cell? ⟨q, 1, none⟩ = some lv) (hc : Inqs w lv cd) (hv : Rws w v L) (hs : cd.length ≤ 1048576) : Calls Tryz.prog 50 #[v, .func (.func 106) #[] #[.pointer (some ⟨q, 0, none⟩)]] w fun e w' => e = .returned (.bool (wrongB cd L)) ∧ Ext w w' := by
  obtain ⟨R, hv⟩ := hv
  have hll := hv.run_len (P := Tryz.prog) slRowsK
  have hlb := hv.len
  have HV := Lib.hid hv
  have HC := Lib.hid hc
  have H0 := Lib.hid h0; have H1 := Lib.hid h1
  clear hv hc h0 h1
  have C : Calls Tryz.prog 121 #[v, .func (.func 106) #[] #[.pointer (some ⟨q, 0, none⟩)]] w fun e w' => (∃ i : Int, e = .returned (.int .i64 i) ∧ decide (0 ≤ i) = wrongB cd L ∧ (0 ≤ i ∨ i = -1)) ∧ Ext w w' := by
    go_enter Tryz.func121, Tryz.ntmps121
    go_wp2_with fail
    go_loopw [8] (fun x8 wr => ∃ i : Nat, i ≤ L.length ∧ x8 = .int .i64 i ∧ Hid (∀ k, k < i → (nthL L k).length = 20 + cd.length) ∧ Hid (Ext w wr)) (fun x8 _ => L.length - (intOf x8).toNat)
    case atStart => exact ⟨0, Nat.zero_le _, rfl, Lib.hid (fun k hk => by omega), Lib.hid (Ext.refl _)⟩
    case round =>
      obtain ⟨i, hi, rfl, H, HX⟩ := hrel
      by_cases hil : i < L.length
      · have hix := HV.out.run_index (P := Tryz.prog) slRowsK i hil
        have hc := HX.out.cell (HV.out.cell i hil)
        have C2 := wrong_any sz lv (R i) (nthL L i) cd wr q (HX.out.cell H0.out) (HX.out.cell H1.out) (HC.out.ext HX.out) ((HV.out.row i hil).ext HX.out) hs
        by_cases h20 : (nthL L i).length = 20 + cd.length
        · have HN := Lib.hid h20
          rw [show (((nthL L i).length : Int) != 20 + (cd.length : Int)) = false by rw [bne_eq_false_iff_eq]; omega] at C2
          clear h20
          go_wp2_with fail
          refine C2.mono ?_
          rintro e w1 ⟨rfl, hx1⟩
          clear C2
          have HX1 := Lib.hid (HX.out.trans hx1)
          clear hx1
          go_wp2_with fail
          go_roundw
          case rel => exact ⟨i + 1, by omega, by go_num, Lib.hid (fun k hk => by
            rcases Nat.lt_or_eq_of_le (show k ≤ i by omega) with h | rfl
            · exact H.out k h
            · exact HN.out), HX1⟩
          case measure => simp [intOf]; omega
        · have HS := Lib.hid (show wrongB cd L = true by
            unfold wrongB; rw [List.any_eq_true]
            refine ⟨L[i], List.getElem_mem hil, ?_⟩
            simp only [nthL, List.getD_eq_getElem?_getD, List.getElem?_eq_getElem hil, Option.getD_some] at h20
            simpa using h20)
          rw [show (((nthL L i).length : Int) != 20 + (cd.length : Int)) = true by rw [bne_iff_ne]; omega] at C2
          clear h20
          go_wp2_with fail
          refine C2.mono ?_
          rintro e w1 ⟨rfl, hx1⟩
          clear C2
          have HX1 := Lib.hid (HX.out.trans hx1)
          clear hx1
          go_wp2_with fail
          refine bodyPost_ret (v := .int .i64 i) (by simp [results, Tryz.results121, go_sem]) rfl ⟨⟨i, rfl, by rw [HS.out]; simp, .inl (by omega)⟩, HX1.out⟩
      · obtain rfl : i = L.length := by omega
        have HS := Lib.hid (show wrongB cd L = false by
          unfold wrongB; rw [List.any_eq_false]
          intro x hx
          obtain ⟨i, hi, rfl⟩ := List.mem_iff_getElem.1 hx
          have := H.out i hi
          simp only [nthL, List.getD_eq_getElem?_getD, List.getElem?_eq_getElem hi, Option.getD_some] at this
          simp [this])
        go_wp2_with fail
        refine bodyPost_ret (v := .int .i64 (-1)) (by simp [results, Tryz.results121, go_sem]) rfl ⟨⟨-1, rfl, by rw [HS.out]; rfl, .inr rfl⟩, HX.out⟩
  go_enter Tryz.func50, Tryz.ntmps50
  go_wp2_with fail
  refine C.mono ?_
  rintro e w' ⟨⟨i, rfl, hb, hi⟩, hx⟩
  have HB := Lib.hid hb
  have HX := Lib.hid hx
  clear C hb hx
  rcases hi with hi | rfl
  · go_wp2_with fail
    go_ret
    exact ⟨ret_bool (by rw [← HB.out]; simp; omega), HX.out⟩
  · go_wp2_with fail
    go_ret
    exact ⟨ret_bool (by rw [← HB.out]; rfl), HX.out⟩
end Go.Proofs.YtnmjaddhbecopaaGreatDoor
end
