/- The document reads an opening: contract. -/
import Derived.Test.YthpgmjdepigihaaDoorZ4
namespace Go.Att
open Go.RowKit
theorem rst_grown {w0 w w' : World} {q k : Nat} {v : Value} {b : List Int} {st : Option (List Int)} (h : RSt w0 w q v b st) (hg : w.grownBy w' (some k)) (hk : k ≠ q) (hk0 : w0.heap.size ≤ k) : RSt w0 w' q v b st := by
  obtain ⟨a, bad, hc, ha, hx, hq0, e⟩ := h
  exact ⟨a, bad, hc.grown hg (fun e => hk (Option.some.inj e).symm), ha, Below.grown hx hg hx.size (fun j hj => by have := Option.some.inj hj; omega), hq0, e⟩
theorem st_none {α : Type} {st : Option (List Int)} {l : α} (h : (none : Option (α × List Int)) = st.map fun t => (l, t)) : st = none := by
  cases st with
  | none => rfl
  | some t => cases h
theorem dopn_eq {st st1 st2 st3 : Option (List Int)} {o1 : List Int} {o2 o3 : List (List Int)} (h1 : st.bind rdIs = st1.map fun t => (o1, t)) (h2 : st1.bind rdRs = st2.map fun t => (o2, t)) (h3 : st2.bind rdRs = st3.map fun t => (o3, t)) : st.bind rdO = st3.map fun t => ((o1, o2, o3), t) := by
  have e : st.bind rdO = (st.bind rdIs).bind fun p => (rdRs p.2).bind fun q => (rdRs q.2).map fun r => ((p.1, q.1, r.1), r.2) := by
    cases st <;> rfl
  rw [e, h1]
  cases st1 with
  | none => obtain rfl := st_none h2; obtain rfl := st_none h3; rfl
  | some t1 =>
    rw [Option.map_some, Option.bind_some]
    dsimp only
    rw [show rdRs t1 = _ from h2]
    cases st2 with
    | none => obtain rfl := st_none h3; rfl
    | some t2 =>
      rw [Option.map_some, Option.bind_some]
      dsimp only
      rw [show rdRs t2 = _ from h3]
      cases st3 <;> rfl
/-- What an opening's reader leaves. -/
def DOpn (w0 w : World) (q : Nat) (v : Value) (b : List Int) (r : Option (Opn × List Int)) (en : Ending) (w' : World) : Prop :=
  ∃ o a c d st', en = .returned (.agg #[a, c, d]) ∧ rgOpn.sat w.heap.size w'.heap.size w' o [a, c, d] ∧ RSt w0 w' q v b st' ∧ r = st'.map (fun t => (o, t)) ∧ w.grownBy w' (some q)
end Go.Att
namespace Go.Proofs.YthpgmjdepigihaaDoor
open Go.RowKit Go.Att
set_option maxRecDepth 100000 in
set_option maxHeartbeats 4000000 in
theorem dopn_any {w0 w : World} {q : Nat} {v : Value} {b : List Int} {st : Option (List Int)} (hv : Byts w0 v b) (hb : BytesIn b) (h : RSt w0 w q v b st) (h32 : b.length ≤ 4294967296) :
    Calls Tryd.prog 56 #[.pointer (some ⟨q, 0, none⟩)] w (DOpn w0 w q v b (st.bind rdO)) := by
  have hqw := rst_lt h
  have hq0 : w0.heap.size ≤ q := by obtain ⟨a, bad, _, _, _, h, _⟩ := h; exact h
  have n1 := C3.new w (.slice none 0 0) (.slice none 0 0) (.slice none 0 0) 28
  have x1 := Ext.alloc w (Obj.cells #[.slice none 0 0, .slice none 0 0, .slice none 0 0] 28)
  have s1 : (w.alloc (Obj.cells #[.slice none 0 0, .slice none 0 0, .slice none 0 0] 28)).heap.size = w.heap.size + 1 := by simp
  have x2 := Ext.alloc (w.alloc (Obj.cells #[.slice none 0 0, .slice none 0 0, .slice none 0 0] 28)) (Obj.cells #[.slice none 0 0, .slice none 0 0, .slice none 0 0] 28)
  have n2 := C3.new (w.alloc (Obj.cells #[.slice none 0 0, .slice none 0 0, .slice none 0 0] 28)) (.slice none 0 0) (.slice none 0 0) (.slice none 0 0) 28
  rw [s1] at n2
  have n1' := n1.grown (x2.grownBy none) (by simp)
  have s2 : ((w.alloc (Obj.cells #[.slice none 0 0, .slice none 0 0, .slice none 0 0] 28)).alloc (Obj.cells #[.slice none 0 0, .slice none 0 0, .slice none 0 0] 28)).heap.size = w.heap.size + 2 := by simp
  have HR0 := Lib.hid (rst_ext h (x1.trans x2))
  have HG0 := Lib.hid ((x1.trans x2).grownBy (some q))
  have N1 := Lib.hid n1'; have N2 := Lib.hid n2; have S2 := Lib.hid s2
  have HV := Lib.hid hv; have HB := Lib.hid hb; have L := Lib.hid h32
  clear n1 x1 s1 x2 n2 n1' s2 h hv hb h32
  have C1 := dnums_any HV.out HB.out HR0.out L.out
  go_enter Tryd.func56, Tryd.ntmps56
  go_wp2_with (go_at_call 52; refine C1.mono ?_; rintro e w1 ⟨o1, u1, E1, st1, rfl, hE1, HR1, hr1, -, HG1⟩; have hO1 := hE1.ints; obtain ⟨aa, ca, rfl⟩ := own_shape3 hO1; have M1 := N1.out.grown HG1 (by simp; omega); have M2 := N2.out.grown HG1 (by simp; omega); have k0 := M2.c0; have k1 := M2.f0; have HRS1 := Lib.hid hr1; clear hr1)
  have hs1 : w.heap.size + 2 ≤ w1.heap.size := by rw [← S2.out]; exact HG1.size
  have HR1' := rst_grown HR1 (setCell_grown w1 (w.heap.size + 1) 0 (.slice aa o1.length ca)) (by omega) (by omega)
  have C2 := drows_any HV.out HB.out HR1' L.out
  have HT1 := Lib.hid (grown_set (k := 0) (grown_same HG0.out HG1) (show w.heap.size ≤ w.heap.size + 1 by omega) (.slice aa o1.length ca))
  have HE1 := Lib.hid (hE1.low (setCell_grown w1 (w.heap.size + 1) 0 (.slice aa o1.length ca)) (by rw [S2.out]; omega))
  have HM1 := Lib.hid (M1.other (show w.heap.size ≠ w.heap.size + 1 by omega) (k := 0) (.slice aa o1.length ca)); have HM2 := Lib.hid (M2.set0 (.slice aa o1.length ca))
  clear M1 M2 k0 k1 hE1 hO1 HR1 HG1 HR1' C1
  (with_reducible refine C2.mono ?_)
  rintro e w2 ⟨o2, u2, E2, st2, rfl, hE2, HR2, hr2, -, HG2⟩
  obtain ⟨ab, cb, rfl⟩ := own_shape3 hE2.own
  have HRS2 := Lib.hid hr2; clear hr2
  have M1 := HM1.out.grown HG2 (by simp; omega)
  have M2 := HM2.out.grown HG2 (by simp; omega)
  have k0 := M2.c1
  have k1 := M2.f1
  go_wp2_with fail
  have hs2 : w.heap.size + 2 ≤ w2.heap.size := by have h1 := (setCell_grown w1 (w.heap.size + 1) 0 (.slice aa o1.length ca)).size; have h2 := HG2.size; omega
  have HR2' := rst_grown HR2 (setCell_grown w2 (w.heap.size + 1) 1 (.slice ab o2.length cb)) (by omega) (by omega)
  have C3' := drows_any HV.out HB.out HR2' L.out
  have HT2 := Lib.hid (grown_set (k := 1) (grown_same HT1.out HG2) (show w.heap.size ≤ w.heap.size + 1 by omega) (.slice ab o2.length cb))
  have HE1' := Lib.hid ((HE1.out.low HG2 (by rw [S2.out]; omega)).low (setCell_grown w2 (w.heap.size + 1) 1 (.slice ab o2.length cb)) (by rw [S2.out]; omega))
  have HE2 := Lib.hid (hE2.low (setCell_grown w2 (w.heap.size + 1) 1 (.slice ab o2.length cb)) (by have := (setCell_grown w1 (w.heap.size + 1) 0 (.slice aa o1.length ca)).size; omega))
  have HM1' := Lib.hid (M1.other (show w.heap.size ≠ w.heap.size + 1 by omega) (k := 1) (.slice ab o2.length cb)); have HM2' := Lib.hid (M2.set1 (.slice ab o2.length cb))
  have HB2' := Lib.hid (show w.heap.size + 1 ≤ (w1.setCell ⟨w.heap.size + 1, 0, none⟩ (.slice aa o1.length ca)).heap.size by have := (setCell_grown w1 (w.heap.size + 1) 0 (.slice aa o1.length ca)).size; omega)
  clear M1 M2 k0 k1 hE2 HR2 HG2 HR2' C2
  (with_reducible refine C3'.mono ?_)
  rintro e w3 ⟨o3, u3, E3, st3, rfl, hE3, HR3, hr3, -, HG3⟩
  obtain ⟨ac, cc, rfl⟩ := own_shape3 hE3.own
  have HRS3 := Lib.hid hr3; clear hr3
  have hs3 : w.heap.size + 2 ≤ w3.heap.size := by have h1 := (setCell_grown w2 (w.heap.size + 1) 1 (.slice ab o2.length cb)).size; have h2 := HG3.size; omega
  have M1 := HM1'.out.grown HG3 (by simp; omega)
  have M2 := HM2'.out.grown HG3 (by simp; omega)
  have hE1 := HE1'.out.low HG3 (by rw [S2.out]; omega)
  have hE2 := HE2.out.low HG3 (by have := (setCell_grown w1 (w.heap.size + 1) 0 (.slice aa o1.length ca)).size; omega)
  have P1 := M2.set2 (.slice ac o3.length cc)
  have P2 := M1.other (show w.heap.size ≠ w.heap.size + 1 by omega) (k := 2) (.slice ac o3.length cc)
  have g3 := setCell_grown w3 (w.heap.size + 1) 2 (.slice ac o3.length cc)
  have hsz2 : w.heap.size + 2 ≤ (w2.setCell ⟨w.heap.size + 1, 1, none⟩ (.slice ab o2.length cb)).heap.size := by have := (setCell_grown w2 (w.heap.size + 1) 1 (.slice ab o2.length cb)).size; omega
  have HFIN := Lib.hid (opn_fin (w := w3.setCell ⟨w.heap.size + 1, 2, none⟩ (.slice ac o3.length cc)) (B := w.heap.size + 1) (by rw [S2.out]; omega) HB2'.out (by omega) (hE1.low g3 (by rw [S2.out]; omega)) (hE2.low g3 (by have := (setCell_grown w1 (w.heap.size + 1) 0 (.slice aa o1.length ca)).size; omega)) (hE3.low g3 (by omega)))
  have HRF := Lib.hid (rst_grown HR3 g3 (by omega) (by omega))
  have HGF := Lib.hid (grown_set (k := 2) (grown_same HT2.out HG3) (show w.heap.size ≤ w.heap.size + 1 by omega) (.slice ac o3.length cc))
  have j0 := M2.c2
  have j1 := M2.f2
  obtain ⟨p0, p1, p2, -, -, -⟩ := P1
  obtain ⟨r0, r1, r2, s0, s1, s2⟩ := P2
  clear M1 M2 hE1 hE2 hE3 HR3 HG3 g3 C3'
  have HP2 := Lib.hid (show C3 (w3.setCell ⟨w.heap.size + 1, 2, none⟩ (.slice ac o3.length cc)) w.heap.size (.slice none 0 0) (.slice none 0 0) (.slice none 0 0) from ⟨r0, r1, r2, s0, s1, s2⟩)
  go_wp2_with fail
  clear j0 j1 p0 p1 p2 r0 r1 r2 s0 s1 s2
  generalize (w3.setCell ⟨w.heap.size + 1, 2, none⟩ (.slice ac o3.length cc)) = W3 at *
  have P3 := ((HP2.out.set0 (.slice aa o1.length ca)).set1 (.slice ab o2.length cb)).set2 (.slice ac o3.length cc)
  obtain ⟨k0, k1, k2, -, -, -⟩ := P3
  have hg : W3.grownBy (((W3.setCell ⟨w.heap.size, 0, none⟩ (.slice aa o1.length ca)).setCell ⟨w.heap.size, 1, none⟩ (.slice ab o2.length cb)).setCell ⟨w.heap.size, 2, none⟩ (.slice ac o3.length cc)) (some w.heap.size) := grown_same (grown_same (setCell_grown _ _ _ _) (setCell_grown _ _ _ _)) (setCell_grown _ _ _ _)
  have hfin := rgOpn.wide (X' := w.heap.size) (opn_low HFIN.out hg (by omega)) (by omega) (Nat.le_refl _)
  refine bodyPost_ret (v := .agg #[.slice aa o1.length ca, .slice ab o2.length cb, .slice ac o3.length cc]) ?_ rfl ⟨_, _, _, _, st3, rfl, hfin, rst_grown HRF.out hg (by omega) (by omega), dopn_eq HRS1.out HRS2.out HRS3.out, grown_set (grown_set (grown_set HGF.out (Nat.le_refl _) _) (Nat.le_refl _) _) (Nat.le_refl _) _⟩
  simp [results, Tryd.results56, go_sem, k0, k1, k2]
end Go.Proofs.YthpgmjdepigihaaDoor
