/- An opening is read: contract. -/
import Derived.Test.YthpgmjdepigihaaDoorY7
namespace Go.Att
open Go.RowKit
/-- Three cells of a block of the call's own. -/
structure C3 (w : World) (b : Nat) (x y z : Value) : Prop where
  c0 : w.cell? ⟨b, 0, none⟩ = some x
  c1 : w.cell? ⟨b, 1, none⟩ = some y
  c2 : w.cell? ⟨b, 2, none⟩ = some z
  f0 : w.frozen? ⟨b, 0, none⟩ = false
  f1 : w.frozen? ⟨b, 1, none⟩ = false
  f2 : w.frozen? ⟨b, 2, none⟩ = false
section
variable {w w' : World} {b : Nat} {x y z : Value}
theorem C3.new (w : World) (x y z : Value) (t : TypeId) : C3 (w.alloc (Obj.cells #[x, y, z] t)) w.heap.size x y z :=
  ⟨by rw [cell_new]; rfl, by rw [cell_new]; rfl, by rw [cell_new]; rfl, by simp, by simp, by simp⟩
theorem C3.grown (h : C3 w b x y z) {bo : Option Nat} (hg : w.grownBy w' bo) (hne : some b ≠ bo) : C3 w' b x y z := by
  have hb := hg.block b (World.block_lt_of_cell? w ⟨b, 0, none⟩ h.c0) hne
  exact ⟨by rw [World.cell?_of_block (a := ⟨b, 0, none⟩) hb]; exact h.c0, by rw [World.cell?_of_block (a := ⟨b, 1, none⟩) hb]; exact h.c1, by rw [World.cell?_of_block (a := ⟨b, 2, none⟩) hb]; exact h.c2,
    by rw [World.frozen?_of_block (a := ⟨b, 0, none⟩) hb]; exact h.f0, by rw [World.frozen?_of_block (a := ⟨b, 1, none⟩) hb]; exact h.f1, by rw [World.frozen?_of_block (a := ⟨b, 2, none⟩) hb]; exact h.f2⟩
theorem C3.other (h : C3 w b x y z) {b' k : Nat} (hne : b ≠ b') (v : Value) : C3 (w.setCell ⟨b', k, none⟩ v) b x y z := h.grown (setCell_grown w b' k v) (fun e => hne (Option.some.inj e))
theorem C3.set0 (h : C3 w b x y z) (v : Value) : C3 (w.setCell ⟨b, 0, none⟩ v) b v y z :=
  ⟨World.cell?_setCell_same _ _ _ h.c0, by rw [World.cell?_setCell_other _ _ _ _ (by simp)]; exact h.c1, by rw [World.cell?_setCell_other _ _ _ _ (by simp)]; exact h.c2, by rw [World.frozen?_setCell]; exact h.f0, by rw [World.frozen?_setCell]; exact h.f1, by rw [World.frozen?_setCell]; exact h.f2⟩
theorem C3.set1 (h : C3 w b x y z) (v : Value) : C3 (w.setCell ⟨b, 1, none⟩ v) b x v z :=
  ⟨by rw [World.cell?_setCell_other _ _ _ _ (by simp)]; exact h.c0, World.cell?_setCell_same _ _ _ h.c1, by rw [World.cell?_setCell_other _ _ _ _ (by simp)]; exact h.c2, by rw [World.frozen?_setCell]; exact h.f0, by rw [World.frozen?_setCell]; exact h.f1, by rw [World.frozen?_setCell]; exact h.f2⟩
theorem C3.set2 (h : C3 w b x y z) (v : Value) : C3 (w.setCell ⟨b, 2, none⟩ v) b x y v :=
  ⟨by rw [World.cell?_setCell_other _ _ _ _ (by simp)]; exact h.c0, by rw [World.cell?_setCell_other _ _ _ _ (by simp)]; exact h.c1, World.cell?_setCell_same _ _ _ h.c2, by rw [World.frozen?_setCell]; exact h.f0, by rw [World.frozen?_setCell]; exact h.f1, by rw [World.frozen?_setCell]; exact h.f2⟩
end
theorem rdr_grown {w0 w w' : World} {q b : Nat} {t : List Int} (h : Rdr w0 w q t) (hg : w.grownBy w' (some b)) (hb : b ≠ q) (hb0 : w0.heap.size ≤ b) : Rdr w0 w' q t := by
  obtain ⟨⟨u, c, hv⟩, f, h3, h4⟩ := h
  have hlt := World.block_lt_of_cell? w ⟨q, 0, none⟩ c
  have hbk := hg.block q hlt (fun hc => hb (Option.some.inj hc).symm)
  exact ⟨⟨u, by rw [World.cell?_of_block (a := ⟨q, 0, none⟩) hbk]; exact c, hv⟩, by rw [World.frozen?_of_block (a := ⟨q, 0, none⟩) hbk]; exact f, Below.grown h3 hg h3.size (fun k hk => by have := Option.some.inj hk; omega), h4⟩
theorem grown_set {W w : World} {q b k : Nat} (h : W.grownBy w (some q)) (hb : W.heap.size ≤ b) (v : Value) : W.grownBy (w.setCell ⟨b, k, none⟩ v) (some q) := by
  have k' := setCell_grown w b k v
  exact ⟨k'.os.trans h.os, k'.tape.trans h.tape, k'.output.trans h.output, Nat.le_trans h.size k'.size, fun p hp hne => by
    rw [k'.block p (Nat.lt_of_lt_of_le hp h.size) (fun hc => by have := Option.some.inj hc; omega)]; exact h.block p hp hne⟩
def OpnGot (B : Nat) (o : Opn) (u : Value) (w : World) : Prop := ∃ a b c, u = .agg #[a, b, c] ∧ rgOpn.sat B w.heap.size w o [a, b, c]
theorem opn_fin {w : World} {B X1 X2 X3 e1 e2 : Nat} {a b c : Value} {o1 : List Int} {o2 o3 : List (List Int)} {E1 E2 E3 : Nat → List Value} (h1 : B ≤ X1) (h2 : B ≤ X2) (h3 : B ≤ X3) (k1 : Lst rgInt X1 w e1 1 a o1 E1) (k2 : Lst rgInts X2 w e2 1 b o2 E2) (k3 : Lst rgInts X3 w e2 1 c o3 E3) : rgOpn.sat B w.heap.size w (o1, o2, o3) [a, b, c] := by
  obtain ⟨R, r1, r2⟩ := k2.rws
  obtain ⟨S, s1, s2⟩ := k3.rws
  exact ⟨a, b, c, R, S, rfl, Ints.of_own k1.ints, fun k hk => by have := k1.own.lt k hk; omega, r1, fun k hk => by have := k2.own.lt k hk; omega, fun i hi => (r2 i hi).mono h2 (Nat.le_refl _), s1, fun k hk => by have := k3.own.lt k hk; omega, fun i hi => (s2 i hi).mono h3 (Nat.le_refl _)⟩
/-- A change to a block made before what it holds. -/
theorem opn_low {w w' : World} {B b : Nat} {o : Opn} {cs : List Value} (h : rgOpn.sat B w.heap.size w o cs) (hg : w.grownBy w' (some b)) (hb : b < B := by omega) : rgOpn.sat B w'.heap.size w' o cs :=
  rgOpn.wide (rgOpn.keep h hg (fun k hk => by have := Option.some.inj hk; omega)) (Nat.le_refl _) hg.size
end Go.Att
namespace Go.Proofs.YthpgmjdepigihaaDoor
open Go.RowKit Go.Att
set_option maxRecDepth 100000 in
set_option maxHeartbeats 4000000 in
theorem ropn_any {w0 w : World} {q : Nat} {t : List Int} (h : Rdr w0 w q t) (hqw : q < w.heap.size) (hb : BytesIn t) (h32 : t.length ≤ 4294967296) :
    Calls Tryd.prog 49 #[.pointer (some ⟨q, 0, none⟩)] w (RdOut 98 w0 w q (OpnGot w.heap.size) (rdO t)) := by
  have hq0 := h.new
  have n1 := C3.new w (.slice none 0 0) (.slice none 0 0) (.slice none 0 0) 28
  have x1 := Ext.alloc w (Obj.cells #[.slice none 0 0, .slice none 0 0, .slice none 0 0] 28)
  have s1 : (w.alloc (Obj.cells #[.slice none 0 0, .slice none 0 0, .slice none 0 0] 28)).heap.size = w.heap.size + 1 := by simp
  have x2 := Ext.alloc (w.alloc (Obj.cells #[.slice none 0 0, .slice none 0 0, .slice none 0 0] 28)) (Obj.cells #[.slice none 0 0, .slice none 0 0, .slice none 0 0] 28)
  have n2 := C3.new (w.alloc (Obj.cells #[.slice none 0 0, .slice none 0 0, .slice none 0 0] 28)) (.slice none 0 0) (.slice none 0 0) (.slice none 0 0) 28
  rw [s1] at n2
  have n1' := n1.grown (x2.grownBy none) (by simp)
  have s2 : ((w.alloc (Obj.cells #[.slice none 0 0, .slice none 0 0, .slice none 0 0] 28)).alloc (Obj.cells #[.slice none 0 0, .slice none 0 0, .slice none 0 0] 28)).heap.size = w.heap.size + 2 := by simp
  have HR0 := Lib.hid (rdr_ext h (x1.trans x2))
  have HG0 := Lib.hid ((x1.trans x2).grownBy (some q))
  have N1 := Lib.hid n1'; have N2 := Lib.hid n2; have S2 := Lib.hid s2
  clear n1 x1 s1 x2 n2 n1' s2 h
  have C1 := rnums_any HR0.out (by rw [S2.out]; omega) hb h32
  have HRO := Lib.hid (show rdO t = (rdIs t).bind fun p => (rdRs p.2).bind fun q => (rdRs q.2).map fun r => ((p.1, q.1, r.1), r.2) from rfl)
  cases h1 : rdIs t with
  | none =>
    rw [h1] at C1 HRO
    clear h1
    go_enter Tryd.func49, Tryd.ntmps49
    go_wp2_with (go_at_call 45; refine C1.mono ?_; rintro e w3 ⟨rfl, hx3, hg3⟩)
    exact ⟨rfl, rd_none HRO.out hx3 (grown_same HG0.out hg3)⟩
  | some p =>
    obtain ⟨o1, t1⟩ := p
    have hbk := rdIs_back _ _ _ hb h1
    have HB1 := Lib.hid (show BytesIn t1 from by have := hb; rw [hbk.1] at this; exact this.right)
    have ht1 : t1.length ≤ 4294967296 := by have := congrArg List.length hbk.1; rw [List.length_append] at this; omega
    rw [h1] at C1 HRO
    clear h1 hbk hb h32
    cases h2 : rdRs t1 with
    | none =>
      have HR := Lib.hid (show rdO t = none by rw [HRO.out]; show (rdRs t1).bind _ = none; rw [h2]; rfl)
      go_enter Tryd.func49, Tryd.ntmps49
      go_wp2_with (go_at_call 45; refine C1.mono ?_; rintro e w1 ⟨u1, rfl, ⟨E1, hE1⟩, HR1, HG1⟩; have hO1 := hE1.ints; obtain ⟨aa, ca, rfl⟩ := own_shape3 hO1; have M1 := N1.out.grown HG1 (by simp; omega); have M2 := N2.out.grown HG1 (by simp; omega); have k0 := M2.c0; have k1 := M2.f0)
      have hs1 : w.heap.size + 2 ≤ w1.heap.size := by rw [← S2.out]; exact HG1.size
      have HR1' := rdr_grown HR1 (setCell_grown w1 (w.heap.size + 1) 0 (.slice aa o1.length ca)) (by omega) (by omega)
      have C2 := rlists_any HR1' (by have := (setCell_grown w1 (w.heap.size + 1) 0 (.slice aa o1.length ca)).size; omega) HB1.out ht1
      have HT1 := Lib.hid (grown_set (k := 0) (grown_same HG0.out HG1) (show w.heap.size ≤ w.heap.size + 1 by omega) (.slice aa o1.length ca))
      have HE1 := Lib.hid (hE1.low (setCell_grown w1 (w.heap.size + 1) 0 (.slice aa o1.length ca)) (by rw [S2.out]; omega))
      have HM1 := Lib.hid (M1.other (show w.heap.size ≠ w.heap.size + 1 by omega) (k := 0) (.slice aa o1.length ca)); have HM2 := Lib.hid (M2.set0 (.slice aa o1.length ca))
      clear M1 M2 k0 k1 hE1 hO1 HR1 HG1 HR1'
      rw [h2] at C2
      clear h2
      (with_reducible refine C2.mono ?_)
      rintro e w2 ⟨rfl, hx2, hg2⟩
      go_wp2_with fail
      exact ⟨rfl, rd_none HR.out hx2 (grown_same HT1.out hg2)⟩
    | some p =>
      obtain ⟨o2, t2⟩ := p
      have hbk := rdRs_back _ _ _ HB1.out h2
      have HB2 := Lib.hid (show BytesIn t2 from by have := HB1.out; rw [hbk.1] at this; exact this.right)
      have ht2 : t2.length ≤ 4294967296 := by have := congrArg List.length hbk.1; rw [List.length_append] at this; omega
      clear hbk
      cases h3 : rdRs t2 with
      | none =>
        have HR := Lib.hid (show rdO t = none by rw [HRO.out]; show (rdRs t1).bind _ = none; rw [h2]; show Option.map _ (rdRs t2) = none; rw [h3]; rfl)
        go_enter Tryd.func49, Tryd.ntmps49
        go_wp2_with (go_at_call 45; refine C1.mono ?_; rintro e w1 ⟨u1, rfl, ⟨E1, hE1⟩, HR1, HG1⟩; have hO1 := hE1.ints; obtain ⟨aa, ca, rfl⟩ := own_shape3 hO1; have M1 := N1.out.grown HG1 (by simp; omega); have M2 := N2.out.grown HG1 (by simp; omega); have k0 := M2.c0; have k1 := M2.f0)
        have hs1 : w.heap.size + 2 ≤ w1.heap.size := by rw [← S2.out]; exact HG1.size
        have HR1' := rdr_grown HR1 (setCell_grown w1 (w.heap.size + 1) 0 (.slice aa o1.length ca)) (by omega) (by omega)
        have C2 := rlists_any HR1' (by have := (setCell_grown w1 (w.heap.size + 1) 0 (.slice aa o1.length ca)).size; omega) HB1.out ht1
        have HT1 := Lib.hid (grown_set (k := 0) (grown_same HG0.out HG1) (show w.heap.size ≤ w.heap.size + 1 by omega) (.slice aa o1.length ca))
        have HE1 := Lib.hid (hE1.low (setCell_grown w1 (w.heap.size + 1) 0 (.slice aa o1.length ca)) (by rw [S2.out]; omega))
        have HM1 := Lib.hid (M1.other (show w.heap.size ≠ w.heap.size + 1 by omega) (k := 0) (.slice aa o1.length ca)); have HM2 := Lib.hid (M2.set0 (.slice aa o1.length ca))
        clear M1 M2 k0 k1 hE1 hO1 HR1 HG1 HR1'
        rw [h2] at C2
        clear h2
        (with_reducible refine C2.mono ?_)
        rintro e w2 ⟨u2, rfl, ⟨E2, hE2⟩, HR2, HG2⟩
        obtain ⟨ab, cb, rfl⟩ := own_shape3 hE2.own
        have M1 := HM1.out.grown HG2 (by simp; omega)
        have M2 := HM2.out.grown HG2 (by simp; omega)
        have k0 := M2.c1
        have k1 := M2.f1
        go_wp2_with fail
        have hs2 : w.heap.size + 2 ≤ w2.heap.size := by have h1 := (setCell_grown w1 (w.heap.size + 1) 0 (.slice aa o1.length ca)).size; have h2 := HG2.size; omega
        have HR2' := rdr_grown HR2 (setCell_grown w2 (w.heap.size + 1) 1 (.slice ab o2.length cb)) (by omega) (by omega)
        have C3' := rlists_any HR2' (by have := (setCell_grown w2 (w.heap.size + 1) 1 (.slice ab o2.length cb)).size; omega) HB2.out ht2
        have HT2 := Lib.hid (grown_set (k := 1) (grown_same HT1.out HG2) (show w.heap.size ≤ w.heap.size + 1 by omega) (.slice ab o2.length cb))
        have HE1' := Lib.hid ((HE1.out.low HG2 (by rw [S2.out]; omega)).low (setCell_grown w2 (w.heap.size + 1) 1 (.slice ab o2.length cb)) (by rw [S2.out]; omega))
        have HE2 := Lib.hid (hE2.low (setCell_grown w2 (w.heap.size + 1) 1 (.slice ab o2.length cb)) (by have := (setCell_grown w1 (w.heap.size + 1) 0 (.slice aa o1.length ca)).size; omega))
        have HM1' := Lib.hid (M1.other (show w.heap.size ≠ w.heap.size + 1 by omega) (k := 1) (.slice ab o2.length cb)); have HM2' := Lib.hid (M2.set1 (.slice ab o2.length cb))
        have HB2' := Lib.hid (show w.heap.size + 1 ≤ (w1.setCell ⟨w.heap.size + 1, 0, none⟩ (.slice aa o1.length ca)).heap.size by have := (setCell_grown w1 (w.heap.size + 1) 0 (.slice aa o1.length ca)).size; omega)
        clear M1 M2 k0 k1 hE2 HR2 HG2 HR2' C2
        rw [h3] at C3'
        clear h3
        (with_reducible refine C3'.mono ?_)
        rintro e w3 ⟨rfl, hx3, hg3⟩
        go_wp2_with fail
        exact ⟨rfl, rd_none HR.out hx3 (grown_same HT2.out hg3)⟩
      | some p =>
        obtain ⟨o3, t3⟩ := p
        have HR := Lib.hid (show rdO t = some ((o1, o2, o3), t3) by rw [HRO.out]; show (rdRs t1).bind _ = _; rw [h2]; show Option.map _ (rdRs t2) = _; rw [h3]; rfl)
        go_enter Tryd.func49, Tryd.ntmps49
        go_wp2_with (go_at_call 45; refine C1.mono ?_; rintro e w1 ⟨u1, rfl, ⟨E1, hE1⟩, HR1, HG1⟩; have hO1 := hE1.ints; obtain ⟨aa, ca, rfl⟩ := own_shape3 hO1; have M1 := N1.out.grown HG1 (by simp; omega); have M2 := N2.out.grown HG1 (by simp; omega); have k0 := M2.c0; have k1 := M2.f0)
        have hs1 : w.heap.size + 2 ≤ w1.heap.size := by rw [← S2.out]; exact HG1.size
        have HR1' := rdr_grown HR1 (setCell_grown w1 (w.heap.size + 1) 0 (.slice aa o1.length ca)) (by omega) (by omega)
        have C2 := rlists_any HR1' (by have := (setCell_grown w1 (w.heap.size + 1) 0 (.slice aa o1.length ca)).size; omega) HB1.out ht1
        have HT1 := Lib.hid (grown_set (k := 0) (grown_same HG0.out HG1) (show w.heap.size ≤ w.heap.size + 1 by omega) (.slice aa o1.length ca))
        have HE1 := Lib.hid (hE1.low (setCell_grown w1 (w.heap.size + 1) 0 (.slice aa o1.length ca)) (by rw [S2.out]; omega))
        have HM1 := Lib.hid (M1.other (show w.heap.size ≠ w.heap.size + 1 by omega) (k := 0) (.slice aa o1.length ca)); have HM2 := Lib.hid (M2.set0 (.slice aa o1.length ca))
        clear M1 M2 k0 k1 hE1 hO1 HR1 HG1 HR1'
        rw [h2] at C2
        clear h2
        (with_reducible refine C2.mono ?_)
        rintro e w2 ⟨u2, rfl, ⟨E2, hE2⟩, HR2, HG2⟩
        obtain ⟨ab, cb, rfl⟩ := own_shape3 hE2.own
        have M1 := HM1.out.grown HG2 (by simp; omega)
        have M2 := HM2.out.grown HG2 (by simp; omega)
        have k0 := M2.c1
        have k1 := M2.f1
        go_wp2_with fail
        have hs2 : w.heap.size + 2 ≤ w2.heap.size := by have h1 := (setCell_grown w1 (w.heap.size + 1) 0 (.slice aa o1.length ca)).size; have h2 := HG2.size; omega
        have HR2' := rdr_grown HR2 (setCell_grown w2 (w.heap.size + 1) 1 (.slice ab o2.length cb)) (by omega) (by omega)
        have C3' := rlists_any HR2' (by have := (setCell_grown w2 (w.heap.size + 1) 1 (.slice ab o2.length cb)).size; omega) HB2.out ht2
        have HT2 := Lib.hid (grown_set (k := 1) (grown_same HT1.out HG2) (show w.heap.size ≤ w.heap.size + 1 by omega) (.slice ab o2.length cb))
        have HE1' := Lib.hid ((HE1.out.low HG2 (by rw [S2.out]; omega)).low (setCell_grown w2 (w.heap.size + 1) 1 (.slice ab o2.length cb)) (by rw [S2.out]; omega))
        have HE2 := Lib.hid (hE2.low (setCell_grown w2 (w.heap.size + 1) 1 (.slice ab o2.length cb)) (by have := (setCell_grown w1 (w.heap.size + 1) 0 (.slice aa o1.length ca)).size; omega))
        have HM1' := Lib.hid (M1.other (show w.heap.size ≠ w.heap.size + 1 by omega) (k := 1) (.slice ab o2.length cb)); have HM2' := Lib.hid (M2.set1 (.slice ab o2.length cb))
        have HB2' := Lib.hid (show w.heap.size + 1 ≤ (w1.setCell ⟨w.heap.size + 1, 0, none⟩ (.slice aa o1.length ca)).heap.size by have := (setCell_grown w1 (w.heap.size + 1) 0 (.slice aa o1.length ca)).size; omega)
        clear M1 M2 k0 k1 hE2 HR2 HG2 HR2' C2
        rw [h3] at C3'
        clear h3
        (with_reducible refine C3'.mono ?_)
        rintro e w3 ⟨u3, rfl, ⟨E3, hE3⟩, HR3, HG3⟩
        obtain ⟨ac, cc, rfl⟩ := own_shape3 hE3.own
        have hs3 : w.heap.size + 2 ≤ w3.heap.size := by have h1 := (setCell_grown w2 (w.heap.size + 1) 1 (.slice ab o2.length cb)).size; have h2 := HG3.size; omega
        have M1 := HM1'.out.grown HG3 (by simp; omega)
        have M2 := HM2'.out.grown HG3 (by simp; omega)
        have hE1 := HE1'.out.low HG3 (by rw [S2.out]; omega)
        have hE2 := HE2.out.low HG3 (by have := (setCell_grown w1 (w.heap.size + 1) 0 (.slice aa o1.length ca)).size; omega)
        have P1 := M2.set2 (.slice ac o3.length cc)
        have P2 := M1.other (show w.heap.size ≠ w.heap.size + 1 by omega) (k := 2) (.slice ac o3.length cc)
        have g3 := setCell_grown w3 (w.heap.size + 1) 2 (.slice ac o3.length cc)
        have hsz2 : w.heap.size + 2 ≤ (w2.setCell ⟨w.heap.size + 1, 1, none⟩ (.slice ab o2.length cb)).heap.size := by have := (setCell_grown w2 (w.heap.size + 1) 1 (.slice ab o2.length cb)).size; omega
        have HFIN := Lib.hid (opn_fin (w := w3.setCell ⟨w.heap.size + 1, 2, none⟩ (.slice ac o3.length cc)) (B := w.heap.size + 1) (by rw [S2.out]; omega) HB2'.out (by omega) (hE1.low g3 (by rw [S2.out]; omega)) (hE2.low g3 (by have := (setCell_grown w1 (w.heap.size + 1) 0 (.slice aa o1.length ca)).size; omega)) (hE3.low g3 (by omega)))
        have HRF := Lib.hid (rdr_grown HR3 g3 (by omega) (by omega))
        have HGF := Lib.hid (grown_set (k := 2) (grown_same HT2.out HG3) (show w.heap.size ≤ w.heap.size + 1 by omega) (.slice ac o3.length cc))
        have j0 := M2.c2
        have j1 := M2.f2
        obtain ⟨p0, p1, p2, -, -, -⟩ := P1
        obtain ⟨r0, r1, r2, s0, s1, s2⟩ := P2
        clear M1 M2 hE1 hE2 hE3 HR3 HG3 g3 C3'
        have HP2 := Lib.hid (show C3 (w3.setCell ⟨w.heap.size + 1, 2, none⟩ (.slice ac o3.length cc)) w.heap.size (.slice none 0 0) (.slice none 0 0) (.slice none 0 0) from ⟨r0, r1, r2, s0, s1, s2⟩)
        go_wp2_with fail
        clear j0 j1 p0 p1 p2 r0 r1 r2 s0 s1 s2
        generalize (w3.setCell ⟨w.heap.size + 1, 2, none⟩ (.slice ac o3.length cc)) = W3 at *
        have P3 := ((HP2.out.set0 (.slice aa o1.length ca)).set1 (.slice ab o2.length cb)).set2 (.slice ac o3.length cc)
        obtain ⟨k0, k1, k2, -, -, -⟩ := P3
        have hg : W3.grownBy (((W3.setCell ⟨w.heap.size, 0, none⟩ (.slice aa o1.length ca)).setCell ⟨w.heap.size, 1, none⟩ (.slice ab o2.length cb)).setCell ⟨w.heap.size, 2, none⟩ (.slice ac o3.length cc)) (some w.heap.size) := grown_same (grown_same (setCell_grown _ _ _ _) (setCell_grown _ _ _ _)) (setCell_grown _ _ _ _)
        have hfin := rgOpn.wide (X' := w.heap.size) (opn_low HFIN.out hg (by omega)) (by omega) (Nat.le_refl _)
        refine bodyPost_ret (v := .agg #[.slice aa o1.length ca, .slice ab o2.length cb, .slice ac o3.length cc]) ?_ rfl (rd_some HR.out ⟨_, _, _, rfl, hfin⟩ (rdr_grown HRF.out hg (by omega) (by omega)) (grown_set (grown_set (grown_set HGF.out (Nat.le_refl _) _) (Nat.le_refl _) _) (Nat.le_refl _) _))
        simp [results, Tryd.results49, go_sem, k0, k1, k2]
end Go.Proofs.YthpgmjdepigihaaDoor
