/- RulesBroken: the program's side: the first rule that does not hold. -/
import Derived.Test.YtnmjaddhbecopaaGreatDoorZx9
import Derived.Test.YtnmjaddhbecopaaGreatDoorKk
namespace Go.Att
open Go.RowKit
theorem OwnL.other {W0 w : World} {e : TypeId} {v : Value} {l : List Int} (h : OwnL W0 e w v l) {q k : Nat} (hq : q < W0.heap.size) (x : Value) : OwnL W0 e (w.setCell ⟨q, k, none⟩ x) v l := by
  refine ⟨h.1, ?_⟩
  rcases h.2 with h2 | ⟨g, cap, cur, hv, hb, hg, hr⟩
  · exact .inl h2
  · exact .inr ⟨g, cap, cur, hv, hb, by rw [(setCell_grown w q k x).block g (Array.getElem?_eq_some_iff.1 hg).1 (fun e => by have := Option.some.inj e; omega)]; exact hg, hr⟩
section
variable {w w' : World} {q : Nat} {f : Value} {sz out : Int} {lv : Value}
theorem JBox.lt (h : JBox w q f sz out lv) : q < w.heap.size := World.block_lt_of_cell? w ⟨q, 0, none⟩ h.c0
theorem JBox.blk (h : JBox w q f sz out lv) (hb : w'.heap[q]? = w.heap[q]?) : JBox w' q f sz out lv := by
  obtain ⟨v4, c4⟩ := h.c4
  obtain ⟨v5, c5⟩ := h.c5
  exact ⟨by rw [World.cell?_of_block (a := ⟨q, 0, none⟩) hb]; exact h.c0, by rw [World.cell?_of_block (a := ⟨q, 1, none⟩) hb]; exact h.c1, by rw [World.cell?_of_block (a := ⟨q, 2, none⟩) hb]; exact h.c2,
    by rw [World.cell?_of_block (a := ⟨q, 3, none⟩) hb]; exact h.c3, ⟨v4, by rw [World.cell?_of_block (a := ⟨q, 4, none⟩) hb]; exact c4⟩, ⟨v5, by rw [World.cell?_of_block (a := ⟨q, 5, none⟩) hb]; exact c5⟩,
    by rw [World.frozen?_of_block (a := ⟨q, 4, none⟩) hb]; exact h.f4, by rw [World.frozen?_of_block (a := ⟨q, 5, none⟩) hb]; exact h.f5⟩
theorem JBox.ext (h : JBox w q f sz out lv) (hx : Ext w w') : JBox w' q f sz out lv := h.blk (hx.below.block q h.lt)
theorem JBox.other (h : JBox w q f sz out lv) {b k : Nat} (hne : q ≠ b) (x : Value) : JBox (w.setCell ⟨b, k, none⟩ x) q f sz out lv := h.blk ((setCell_grown w b k x).block q h.lt (fun e => hne (Option.some.inj e)))
theorem JBox.jset (h : JBox w q f sz out lv) (rv nv : Value) : JBox (jset w q rv nv) q f sz out lv := by
  obtain ⟨v4, c4⟩ := h.c4
  obtain ⟨v5, c5⟩ := h.c5
  unfold Go.Att.jset
  refine ⟨?_, ?_, ?_, ?_, ⟨rv, ?_⟩, ⟨nv, ?_⟩, ?_, ?_⟩
  · rw [World.cell?_setCell_other _ _ _ _ (by simp), World.cell?_setCell_other _ _ _ _ (by simp)]; exact h.c0
  · rw [World.cell?_setCell_other _ _ _ _ (by simp), World.cell?_setCell_other _ _ _ _ (by simp)]; exact h.c1
  · rw [World.cell?_setCell_other _ _ _ _ (by simp), World.cell?_setCell_other _ _ _ _ (by simp)]; exact h.c2
  · rw [World.cell?_setCell_other _ _ _ _ (by simp), World.cell?_setCell_other _ _ _ _ (by simp)]; exact h.c3
  · rw [World.cell?_setCell_other _ _ _ _ (by simp)]; exact World.cell?_setCell_same _ _ _ c4
  · exact World.cell?_setCell_same _ _ _ (by rw [World.cell?_setCell_other _ _ _ _ (by simp)]; exact c5)
  · rw [World.frozen?_setCell, World.frozen?_setCell]; exact h.f4
  · rw [World.frozen?_setCell, World.frozen?_setCell]; exact h.f5
theorem JBox.new (w : World) (f : Value) (sz out : Int) (lv : Value) (t : TypeId) : JBox (w.alloc (Obj.cells #[f, .int .i64 sz, lv, .int .i64 out, .slice none 0 0, .slice none 0 0] t)) w.heap.size f sz out lv :=
  ⟨by rw [cell_new]; rfl, by rw [cell_new]; rfl, by rw [cell_new]; rfl, by rw [cell_new]; rfl, ⟨_, by rw [cell_new]; rfl⟩, ⟨_, by rw [cell_new]; rfl⟩, by simp, by simp⟩
end
theorem FstBad.congr {bad : Nat → Nat → Bool} {s1 s2 : Nat → Nat → Prop} {o : Option (Nat × Nat)} (h : FstBad bad s1 o) (e : ∀ a b, s1 a b ↔ s2 a b) : FstBad bad s2 o := by
  have : s1 = s2 := by funext a b; exact propext (e a b)
  rw [← this]; exact h
/-- What is seen: the rows so far, and of the next one the rules so far. -/
def seenB (M i k : Nat) : Nat → Nat → Prop := fun a b => (a < M ∧ b < i) ∨ (b = i ∧ a < k)
theorem seenB_start {bad : Nat → Nat → Bool} {M : Nat} : FstBad bad (seenB M 0 0) none := fun k i h => by rcases h with ⟨_, h⟩ | ⟨_, h⟩ <;> omega
theorem seenB_row {bad : Nat → Nat → Bool} {M i : Nat} {o : Option (Nat × Nat)} (h : FstBad bad (seenB M i M) o) : FstBad bad (seenB M (i + 1) 0) o := h.congr (fun a b => by unfold seenB; omega)
theorem seenB_end {bad : Nat → Nat → Bool} {M N : Nat} {o : Option (Nat × Nat)} (h : FstBad bad (seenB M N 0) o) : FstBad bad (fun k i => k < M ∧ i < N) o := h.congr (fun a b => by unfold seenB; omega)
theorem seenB_look {bad : Nat → Nat → Bool} {M i k : Nat} {o : Option (Nat × Nat)} (h : FstBad bad (seenB M i k) o) : FstBad bad (seenB M i (k + 1)) (lookB bad o k i) :=
  (h.look (fun i' hs => by rcases hs with ⟨_, hs⟩ | ⟨_, hs⟩ <;> omega)).congr (fun a b => by unfold seenB; omega)
theorem lookB_no {bad : Nat → Nat → Bool} {o : Option (Nat × Nat)} {k i : Nat} (h : bad k i = false) : lookB bad o k i = o := by unfold lookB; rw [if_neg]; rw [h]; rintro ⟨h, _⟩; cases h
theorem lookB_first {bad : Nat → Nat → Bool} {k i : Nat} (h : bad k i = true) : lookB bad none k i = some (k, i) := by unfold lookB; rw [if_pos]; exact ⟨h, by rintro q hq; cases hq⟩
theorem lookB_less {bad : Nat → Nat → Bool} {k i k0 i0 : Nat} (h : bad k i = true) (hk : k < k0) : lookB bad (some (k0, i0)) k i = some (k, i) := by unfold lookB; rw [if_pos]; exact ⟨h, by rintro q hq; cases hq; exact hk⟩
theorem lookB_more {bad : Nat → Nat → Bool} {k i k0 i0 : Nat} (hk : ¬ k < k0) : lookB bad (some (k0, i0)) k i = some (k0, i0) := by unfold lookB; rw [if_neg]; rintro ⟨_, h⟩; exact hk (h _ rfl)
end Go.Att
namespace Go.Proofs.YtnmjaddhbecopaaGreatDoor
open Go.RowKit Go.Att
set_option maxRecDepth 100000 in
set_option maxHeartbeats 4000000 in
theorem pbroken_none (f : Value) (sz out : Int) (lv v : Value) (cd : List In4) (p : Int) (w : World) (hv : Rws w v []) : Calls Tryz.prog 44 #[f, .agg #[.int .i64 sz, lv], .int .i64 out, v] w fun e w' => BrkGot p sz out cd [] e ∧ Ext w w' := by
  obtain ⟨R, hv⟩ := hv
  have hmf : ∀ (fn : Fn) (first cap : Array Value) (w : World), (Instr.makeFunc fn first cap).run Tryz.prog w = .ok (.func fn first cap) w := fun _ _ _ _ => rfl
  have hlr : ∀ (ty : TypeId) (w' : World), (Builtin.len_ #[22] ty #[v]).run Tryz.prog w' = .ok (.int .i64 0) w' := fun ty w' => hv.run_len (P := Tryz.prog) slRowsK ty w'
  have HSH := Lib.hid (shapeB_nil (cd := cd) (L := []) (.inl rfl))
  have HB := Lib.hid (bx_new w (.int .i64 sz) lv (.int .i64 (-2)) (.int .i64 0) 48 93)
  clear hv
  go_enter Tryz.func44, Tryz.ntmps44
  go_wp2_with fail
  have k0 := HB.out.2.1.c0
  have k1 := HB.out.2.1.c1
  refine bodyPost_ret (v := .agg #[.int .i64 (-2), .int .i64 0]) ?_ rfl ⟨.inl ⟨HSH.out, rfl⟩, HB.out.2.2⟩
  simp [results, Tryz.results44, go_sem, k0, k1]
set_option maxRecDepth 100000 in
set_option maxHeartbeats 4000000 in
theorem pbroken_zero (f : Value) (sz out : Int) (lv v : Value) (L : List (List Int)) (p : Int) (w : World) (hc : Inqs w lv []) (hv : Rws w v L) (hN : L.length ≤ 1048576) (h0 : 0 < L.length) : Calls Tryz.prog 44 #[f, .agg #[.int .i64 sz, lv], .int .i64 out, v] w fun e w' => BrkGot p sz out [] L e ∧ Ext w w' := by
  obtain ⟨R, hv⟩ := hv
  have hmf : ∀ (fn : Fn) (first cap : Array Value) (w : World), (Instr.makeFunc fn first cap).run Tryz.prog w = .ok (.func fn first cap) w := fun _ _ _ _ => rfl
  have hll : ∀ (ty : TypeId) (w' : World), (Builtin.len_ #[46] ty #[lv]).run Tryz.prog w' = .ok (.int .i64 0) w' := fun ty w' => hc.run_len (P := Tryz.prog) slIns ty w'
  have hlr := hv.run_len (P := Tryz.prog) slRowsK
  have HSH := Lib.hid (shapeB_nil (cd := []) (L := L) (.inr rfl))
  have HB := Lib.hid (bx_new w (.int .i64 sz) lv (.int .i64 (-2)) (.int .i64 0) 48 93)
  have hz : ((L.length : Int) == 0) = false := beq_eq_false_iff_ne.2 (by omega)
  clear hv hc
  go_enter Tryz.func44, Tryz.ntmps44
  go_wp2_with fail
  have k0 := HB.out.2.1.c0
  have k1 := HB.out.2.1.c1
  refine bodyPost_ret (v := .agg #[.int .i64 (-2), .int .i64 0]) ?_ rfl ⟨.inl ⟨HSH.out, rfl⟩, HB.out.2.2⟩
  simp [results, Tryz.results44, go_sem, k0, k1]
theorem wrongB_shape {cd : List In4} {L : List (List Int)} (h0 : 0 < L.length) (h1 : 0 < cd.length) : shapeB cd L = wrongB cd L := by
  unfold shapeB wrongB
  rw [show (L.length == 0) = false from beq_eq_false_iff_ne.2 (by omega), show (cd.length == 0) = false from beq_eq_false_iff_ne.2 (by omega)]
  rfl
theorem wrongB_row {cd : List In4} {L : List (List Int)} (h : wrongB cd L = false) (i : Nat) (hi : i < L.length) : (nthL L i).length = 20 + cd.length := by
  unfold wrongB at h
  rw [List.any_eq_false] at h
  have := h L[i] (List.getElem_mem hi)
  simp only [nthL, List.getD_eq_getElem?_getD, List.getElem?_eq_getElem hi, Option.getD_some]
  simpa using this
set_option maxRecDepth 100000 in
set_option maxHeartbeats 8000000 in
theorem pbroken_full {p g : Int} {fs : List Int} (f : Value) (sz out : Int) (lv v : Value) (cd : List In4) (L : List (List Int)) (w : World) (hf : Fld w f p g fs) (hc : Inqs w lv cd) (hv : Rws w v L) (hs : cd.length ≤ 1048576) (hN : L.length ≤ 1048576) (h0 : 0 < L.length) (h1 : 0 < cd.length) : Calls Tryz.prog 44 #[f, .agg #[.int .i64 sz, lv], .int .i64 out, v] w fun e w' => BrkGot p sz out cd L e ∧ Ext w w' := by
  have hmf : ∀ (fn : Fn) (first cap : Array Value) (w : World), (Instr.makeFunc fn first cap).run Tryz.prog w = .ok (.func fn first cap) w := fun _ _ _ _ => rfl
  have HRW := Lib.hid hv
  obtain ⟨R, hv⟩ := hv
  obtain ⟨bf, rfl⟩ := hf.ptr
  obtain ⟨al, cl, rfl⟩ := hc.shape
  have hll := hc.run_len (P := Tryz.prog) slIns
  have hlr := hv.run_len (P := Tryz.prog) slRowsK
  have hz : ((L.length : Int) == 0) = false := beq_eq_false_iff_ne.2 (by omega)
  have hz2 : ((cd.length : Int) == 0) = false := beq_eq_false_iff_ne.2 (by omega)
  have HSW := Lib.hid (wrongB_shape h0 h1)
  have HB := Lib.hid (bx_new w (.int .i64 sz) (.slice al cd.length cl) (.int .i64 0) (.int .i64 0) 48 93)
  have HV := Lib.hid hv; have HC := Lib.hid hc; have HFD := Lib.hid hf
  have C := wrongs_any sz _ v L cd _ w.heap.size HB.out.1.c0 HB.out.1.c1 (hc.ext HB.out.2.2) (HRW.out.ext HB.out.2.2) hs
  clear hv hc hf HRW
  generalize hwb : wrongB cd L = wb at *
  have HWB := Lib.hid hwb
  clear hwb
  go_enter Tryz.func44, Tryz.ntmps44
  go_wp2_with fail
  have HC2 := Lib.hid HB.out.1
  have HR := Lib.hid HB.out.2.1
  have HW := Lib.hid HB.out.2.2
  generalize (w.alloc (Obj.cells #[.int .i64 sz, .slice al cd.length cl] 48)).alloc (Obj.cells #[.int .i64 0, .int .i64 0] 93) = W at *
  clear HB
  refine C.mono ?_
  rintro e w1 ⟨rfl, hx1⟩
  replace HC2 := Lib.hid (HC2.out.ext hx1)
  replace HR := Lib.hid (HR.out.ext hx1)
  replace HW := Lib.hid (HW.out.trans hx1)
  replace HV := Lib.hid (HV.out.ext HW.out)
  replace HC := Lib.hid (HC.out.ext HW.out)
  replace HFD := Lib.hid (HFD.out.ext HW.out)
  clear C hx1 hz hz2
  cases wb
  · have HL := Lib.hid (wrongB_row HWB.out)
    have e0 := HC2.out.c0
    have e1 := HC2.out.c1
    go_wp2_with fail
    have HJB0 := Lib.hid ((JBox.new w1 (.pointer (some ⟨bf, 0, none⟩)) sz out (.slice al cd.length cl) 174).ext (Ext.alloc _ (Obj.cells #[.int .i64 (-1), .int .i64 0] 93)))
    have HO0 : Hid (C2 ((w1.alloc (Obj.cells #[(.pointer (some ⟨bf, 0, none⟩)), .int .i64 sz, (.slice al cd.length cl), .int .i64 out, .slice none 0 0, .slice none 0 0] 174)).alloc (Obj.cells #[.int .i64 (-1), .int .i64 0] 93)) (w1.heap.size + 1) (.int .i64 (-1)) (.int .i64 0)) := Lib.hid (by
      have := C2.new (w1.alloc (Obj.cells #[(.pointer (some ⟨bf, 0, none⟩)), .int .i64 sz, (.slice al cd.length cl), .int .i64 out, .slice none 0 0, .slice none 0 0] 174)) (.int .i64 (-1)) (.int .i64 0) 93
      rwa [show (w1.alloc (Obj.cells #[(.pointer (some ⟨bf, 0, none⟩)), .int .i64 sz, (.slice al cd.length cl), .int .i64 out, .slice none 0 0, .slice none 0 0] 174)).heap.size = w1.heap.size + 1 by simp] at this)
    have HX0 := Lib.hid (show Ext w1 ((w1.alloc (Obj.cells #[(.pointer (some ⟨bf, 0, none⟩)), .int .i64 sz, (.slice al cd.length cl), .int .i64 out, .slice none 0 0, .slice none 0 0] 174)).alloc (Obj.cells #[.int .i64 (-1), .int .i64 0] 93)) from (Ext.alloc _ _).trans (Ext.alloc _ _))
    generalize (w1.alloc (Obj.cells #[(.pointer (some ⟨bf, 0, none⟩)), .int .i64 sz, (.slice al cd.length cl), .int .i64 out, .slice none 0 0, .slice none 0 0] 174)).alloc (Obj.cells #[.int .i64 (-1), .int .i64 0] 93) = W3 at *
    generalize hqo : w1.heap.size + 1 = qo at *
    have HNE := Lib.hid (show w1.heap.size ≠ qo by omega)
    have HQO := Lib.hid (show w1.heap.size ≤ qo by omega)
    clear hqo e0 e1
    go_loopw [40] (fun x40 wr => ∃ (i : Nat) (o : Option (Nat × Nat)), i ≤ L.length ∧ x40 = .int .i64 i ∧ Hid (Ext w1 wr) ∧ Hid (JBox wr w1.heap.size (.pointer (some ⟨bf, 0, none⟩)) sz out (.slice al cd.length cl)) ∧ Hid (C2 wr qo (.int .i64 (toldB o).1) (.int .i64 (toldB o).2)) ∧ Hid (FstBad (badB p sz out cd L) (seenB (cd.length + 26) i 0) o)) (fun x40 _ => L.length - (intOf x40).toNat)
    case atStart => exact ⟨0, none, by omega, rfl, HX0, HJB0, HO0, Lib.hid seenB_start⟩
    case round =>
      clear HX0 HJB0 HO0
      obtain ⟨i, o, hi, rfl, HX, HJB, HO, HFB⟩ := hrel
      by_cases hil : i < L.length
      · obtain ⟨j, hj, hjl⟩ : ∃ j, (i + 1) % L.length = j ∧ j < L.length := ⟨_, rfl, Nat.mod_lt _ h0⟩
        have htm : Int.tmod ((i : Int) + 1) (L.length : Int) = (j : Int) := by rw [tmod_next hil, hj]
        have hem : ((i : Int) + 1) % (L.length : Int) = (j : Int) := by
          have := tmod_next hil; rw [Int.tmod_eq_emod_of_nonneg (by omega)] at this; rw [this, hj]
        have HJ := Lib.hid hj
        clear hj
        have hix := HV.out.run_index (P := Tryz.prog) slRowsK i hil
        have hjx := HV.out.run_index (P := Tryz.prog) slRowsK j hjl
        have hci := HX.out.cell (HV.out.cell i hil)
        have hcj := HX.out.cell (HV.out.cell j hjl)
        have C := jrules_any (w0 := w1) HJB.out HX.out (Nat.le_refl _) HFD.out HC.out (HV.out.row i hil) (HV.out.row j hjl) (HL.out i hil) (HL.out j hjl) hs h1
        have HLL := Lib.hid (rulesK_length (p := p) (sz := sz) (out := out) (cd := cd) (r := nthL L i) (n := nthL L j))
        have HLK := Lib.hid (show ∀ k, k < cd.length + 26 → badB p sz out cd L k i = (speakB L.length (kindR cd.length k) i && (nth (rulesK p sz out cd (nthL L i) (nthL L j)) k != 0)) from fun k hk => by unfold badB; rw [HJ.out, rule_same hk])
        generalize rulesK p sz out cd (nthL L i) (nthL L j) = l at *
        go_wp2_with fail
        refine C.mono ?_
        rintro e w2 ⟨vl, T, rfl, hx2, ho2⟩
        have hc2 := (HO.out.other HNE.out.symm (k := 4) (R i)).other HNE.out.symm (k := 5) (R j)
        have HQL := Lib.hid (show qo < (jset wr w1.heap.size (R i) (R j)).heap.size from World.block_lt_of_cell? _ _ hc2.c0)
        have HOa := Lib.hid (hc2.ext hx2)
        have HJa := Lib.hid ((HJB.out.jset (R i) (R j)).ext hx2)
        have HXa := Lib.hid (show Ext w1 w2 from Ext.trans (show Ext w1 (jset wr w1.heap.size (R i) (R j)) from Below.setCell (Below.setCell HX.out (Nat.le_refl _) _) (Nat.le_refl _) _) hx2)
        have HOLa := Lib.hid ho2
        have hrl := ho2.ints.run_len (P := Tryz.prog) slInts
        have hlb : l.length ≤ 1048700 := by rw [HLL.out]; omega
        generalize jset wr w1.heap.size (R i) (R j) = Wj at *
        clear C hx2 ho2 hc2 HX HJB HO hix hjx hci hcj htm hem
        go_wp2_with fail
        generalize wr = Wr at *
        go_loopw [57] (fun x57 wr => ∃ (k : Nat) (o : Option (Nat × Nat)), k ≤ l.length ∧ x57 = .int .i64 k ∧ Hid (Ext w1 wr) ∧ Hid (JBox wr w1.heap.size (.pointer (some ⟨bf, 0, none⟩)) sz out (.slice al cd.length cl)) ∧ Hid (C2 wr qo (.int .i64 (toldB o).1) (.int .i64 (toldB o).2)) ∧ Hid (FstBad (badB p sz out cd L) (seenB (cd.length + 26) i k) o) ∧ Hid (OwnL Wj T wr vl l)) (fun x57 _ => l.length - (intOf x57).toNat)
        case atStart => exact ⟨0, o, by omega, rfl, HXa, HJa, HOa, HFB, HOLa⟩
        case round =>
          clear HXa HJa HOa HFB HOLa
          obtain ⟨k, o, hk, rfl, HX, HJB, HO, HFB, HOL⟩ := hrel
          by_cases hkl : k < l.length
          · have hk2 : k < cd.length + 26 := by rw [← HLL.out]; exact hkl
            have hkx := HOL.out.ints.run_index (P := Tryz.prog) slInts k hkl
            have hky := HOL.out.ints.cell k hkl
            have HBV := Lib.hid (HLK.out k hk2)
            have hb1 := (HC2.out.ext HX.out).c1
            generalize nth l k = y at *
            by_cases hy : y = 0
            · subst hy
              have HNB := Lib.hid (show badB p sz out cd L k i = false by rw [HBV.out]; simp)
              clear hk2
              go_wp2_with fail
              go_roundw
              case rel => exact ⟨k + 1, o, by omega, by go_num, HX, HJB, HO, Lib.hid (by have := seenB_look HFB.out; rw [lookB_no HNB.out] at this; exact this), HOL⟩
              case measure => simp [intOf]; omega
            · have hyb : (y != 0) = true := by simpa using hy
              have hyc : (y == 0) = false := by simpa using hy
              have CO := pof_any cd.length k wr hs hk2
              have CS := speaks_any (kindR cd.length k) i L.length ((kindR cd.length k : Nat) : Int) wr hil hN (by have := kindB_lit cd.length k; omega)
              generalize kindR cd.length k = kd at *
              rw [hyb, Bool.and_true] at HBV
              cases hsp : speakB L.length kd i
              · have HNB := Lib.hid (show badB p sz out cd L k i = false by rw [HBV.out, hsp])
                rw [hsp] at CS
                clear hy hk2 hsp HBV
                generalize ((kd : Nat) : Int) = ki at *
                · go_wp2_with (first | (go_at_call 109; refine CO.mono ?_; rintro e w' ⟨rfl, rfl⟩) | (go_at_call 108; refine CS.mono ?_; rintro e w' ⟨rfl, rfl⟩))
                  go_roundw
                  case rel => exact ⟨k + 1, o, by omega, by go_num, HX, HJB, HO, Lib.hid (by have := seenB_look HFB.out; rw [lookB_no HNB.out] at this; exact this), HOL⟩
                  case measure => simp [intOf]; omega
              · have HYB := Lib.hid (show badB p sz out cd L k i = true by rw [HBV.out, hsp])
                rw [hsp] at CS
                clear hy hk2 hsp HBV
                generalize ((kd : Nat) : Int) = ki at *
                cases o with
                | none =>
                  have c0 : wr.cell? ⟨qo, 0, none⟩ = some (.int .i64 (-1)) := HO.out.c0
                  have c1 : wr.cell? ⟨qo, 1, none⟩ = some (.int .i64 0) := HO.out.c1
                  have f0 := HO.out.f0
                  have f1 := HO.out.f1
                  have HF := Lib.hid (show C2 ((wr.setCell ⟨qo, 0, none⟩ (.int .i64 k)).setCell ⟨qo, 1, none⟩ (.int .i64 i)) qo (.int .i64 k) (.int .i64 i) from (HO.out.set0 _).set1 _)
                  have HJ3 := Lib.hid ((HJB.out.other HNE.out (k := 0) (.int .i64 k)).other HNE.out (k := 1) (.int .i64 i))
                  have HL3 := Lib.hid ((HOL.out.other HQL.out (k := 0) (.int .i64 k)).other HQL.out (k := 1) (.int .i64 i))
                  have HX3 := Lib.hid (show Ext w1 ((wr.setCell ⟨qo, 0, none⟩ (.int .i64 k)).setCell ⟨qo, 1, none⟩ (.int .i64 i)) from Below.setCell (Below.setCell HX.out HQO.out _) HQO.out _)
                  go_wp2_with (first | (go_at_call 109; refine CO.mono ?_; rintro e w' ⟨rfl, rfl⟩) | (go_at_call 108; refine CS.mono ?_; rintro e w' ⟨rfl, rfl⟩))
                  go_roundw
                  case rel => exact ⟨k + 1, some (k, i), by omega, by go_num, HX3, HJ3, HF, Lib.hid (by have := seenB_look HFB.out; rw [lookB_first HYB.out] at this; exact this), HL3⟩
                  case measure => simp [intOf]; omega
                | some q0 =>
                  obtain ⟨k0, i0⟩ := q0
                  have c0 : wr.cell? ⟨qo, 0, none⟩ = some (.int .i64 (k0 : Int)) := HO.out.c0
                  have c1 : wr.cell? ⟨qo, 1, none⟩ = some (.int .i64 (i0 : Int)) := HO.out.c1
                  have f0 := HO.out.f0
                  have f1 := HO.out.f1
                  by_cases hkk : k < k0
                  · have HKK := Lib.hid hkk
                    have hkd : decide ((k : Int) < (k0 : Int)) = true := by simpa using hkk
                    have HF := Lib.hid (show C2 ((wr.setCell ⟨qo, 0, none⟩ (.int .i64 k)).setCell ⟨qo, 1, none⟩ (.int .i64 i)) qo (.int .i64 k) (.int .i64 i) from (HO.out.set0 _).set1 _)
                    have HJ3 := Lib.hid ((HJB.out.other HNE.out (k := 0) (.int .i64 k)).other HNE.out (k := 1) (.int .i64 i))
                    have HL3 := Lib.hid ((HOL.out.other HQL.out (k := 0) (.int .i64 k)).other HQL.out (k := 1) (.int .i64 i))
                    have HX3 := Lib.hid (show Ext w1 ((wr.setCell ⟨qo, 0, none⟩ (.int .i64 k)).setCell ⟨qo, 1, none⟩ (.int .i64 i)) from Below.setCell (Below.setCell HX.out HQO.out _) HQO.out _)
                    go_wp2_with (first | (go_at_call 109; refine CO.mono ?_; rintro e w' ⟨rfl, rfl⟩) | (go_at_call 108; refine CS.mono ?_; rintro e w' ⟨rfl, rfl⟩))
                    go_roundw
                    case rel => exact ⟨k + 1, some (k, i), by omega, by go_num, HX3, HJ3, HF, Lib.hid (by have := seenB_look HFB.out; rw [lookB_less HYB.out HKK.out] at this; exact this), HL3⟩
                    case measure => simp [intOf]; omega
                  · have HKK := Lib.hid hkk
                    have hkd : decide ((k : Int) < (k0 : Int)) = false := by simpa using hkk
                    go_wp2_with (first | (go_at_call 109; refine CO.mono ?_; rintro e w' ⟨rfl, rfl⟩) | (go_at_call 108; refine CS.mono ?_; rintro e w' ⟨rfl, rfl⟩))
                    go_roundw
                    case rel => exact ⟨k + 1, some (k0, i0), by omega, by go_num, HX, HJB, HO, Lib.hid (by have := seenB_look HFB.out; rw [lookB_more HKK.out] at this; exact this), HOL⟩
                    case measure => simp [intOf]; omega
          · obtain rfl : k = l.length := by omega
            go_wp2_with fail
            go_roundw
            case rel => exact ⟨i + 1, o, by omega, by go_num, HX, HJB, HO, Lib.hid (seenB_row (by have := HFB.out; rw [HLL.out] at this; exact this))⟩
            case measure => simp [intOf]; omega
      · obtain rfl : i = L.length := by omega
        have HRR := Lib.hid (HR.out.ext HX.out)
        have HWX := Lib.hid (HW.out.trans HX.out)
        have HFE := Lib.hid (seenB_end HFB.out)
        obtain ⟨g0, g1, f0, f1⟩ := HRR.out
        have c0 := HO.out.c0
        have c1 := HO.out.c1
        generalize hta : (toldB o).1 = ta at *
        generalize htb : (toldB o).2 = tb at *
        have HTE := Lib.hid (show Ending.returned (.agg #[.int .i64 ta, .int .i64 tb]) = .returned (.agg #[.int .i64 (toldB o).1, .int .i64 (toldB o).2]) by rw [hta, htb])
        clear hta htb
        go_wp2_with fail
        have HF := Lib.hid (HRR.out.both HWX.out (show w.heap.size ≤ w.heap.size + 1 by omega) (.int .i64 ta) (.int .i64 tb))
        generalize ((wr.setCell ⟨w.heap.size + 1, 0, none⟩ (.int .i64 ta)).setCell ⟨w.heap.size + 1, 1, none⟩ (.int .i64 tb)) = W2 at *
        have k0 := HF.out.1.c0
        have k1 := HF.out.1.c1
        refine bodyPost_ret (v := .agg #[.int .i64 ta, .int .i64 tb]) ?_ rfl ⟨.inr ⟨by rw [HSW.out], o, HFE.out, HTE.out⟩, HF.out.2⟩
        simp [results, Tryz.results44, go_sem, k0, k1]
  · have c0 := HR.out.c0
    have c1 := HR.out.c1
    have f0 := HR.out.f0
    have f1 := HR.out.f1
    go_wp2_with fail
    have HF := Lib.hid (HR.out.both HW.out (show w.heap.size ≤ w.heap.size + 1 by omega) (.int .i64 (-2)) (.int .i64 0))
    generalize ((w1.setCell ⟨w.heap.size + 1, 0, none⟩ (.int .i64 (-2))).setCell ⟨w.heap.size + 1, 1, none⟩ (.int .i64 0)) = W2 at *
    have k0 := HF.out.1.c0
    have k1 := HF.out.1.c1
    clear c0 c1 f0 f1
    refine bodyPost_ret (v := .agg #[.int .i64 (-2), .int .i64 0]) ?_ rfl ⟨.inl ⟨by rw [HSW.out], rfl⟩, HF.out.2⟩
    simp [results, Tryz.results44, go_sem, k0, k1]
end Go.Proofs.YtnmjaddhbecopaaGreatDoor
