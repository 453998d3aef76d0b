/- whole.Read: contract. -/
import Derived.Test.YthpgmjdepigihaaDoorYa
namespace Go.Att
open Go.RowKit
def ReadGot (te : TypeId) (w : World) (b : List Int) (e : Ending) (w' : World) : Prop :=
  (∃ vch, rdV b = some (vch, []) ∧ ∃ m a r l o ra rb rc la lb lc, e = .returned (.tuple #[.agg #[m, a, .int .i64 vch.tries, r, l, o, ra, rb, rc, la, lb, lc], .nilIface]) ∧ VchAt w' m a r l o ra rb rc la lb lc vch ∧ (∀ W' bb, w'.grownBy W' (some bb) → bb < w.heap.size → VchAt W' m a r l o ra rb rc la lb lc vch) ∧ Ext w w') ∨
  ((∀ vch, rdV b ≠ some (vch, [])) ∧ e = .returned (.tuple #[.agg zeros12.toArray, .iface te (.int .i64 5)]) ∧ Ext w w')
theorem read_none {te : TypeId} {w w' : World} {b : List Int} {e : Ending} (h : ∀ vch, rdV b ≠ some (vch, [])) (he : e = .returned (.tuple #[.agg zeros12.toArray, .iface te (.int .i64 5)])) (hx : Ext w w') : ReadGot te w b e w' := .inr ⟨h, he, hx⟩
theorem Lst.lower {α : Type} {ρ : Rdg α} {B B' : Nat} {w : World} {e sz : Nat} {v : Value} {l : List α} {E : Nat → List Value} (h : Lst ρ B w e sz v l E) (hb : B' ≤ B) : Lst ρ B' w e sz v l E :=
  ⟨own_lower h.own hb, fun i hi => by obtain ⟨X, Y, h1, h2, h3, h4⟩ := h.each i hi; exact ⟨X, Y, Nat.le_trans hb h1, h2, h3, h4⟩⟩
theorem Lst.opns {B : Nat} {w : World} {e : Nat} {v : Value} {l : List Opn} {E : Nat → List Value} (h : Lst rgOpn B w e 3 v l E) : Opns w v l := by
  have hex : ∀ i, ∃ p : Value × Value × Value, i < l.length → E i = [p.1, p.2.1, p.2.2] ∧ OpnAt w p.1 p.2.1 p.2.2 (nthO l i) := by
    intro i
    by_cases hi : i < l.length
    · obtain ⟨X, Y, h1, h2, _, a, b, c, R, S, hu, g1, _, g3, _, _, g6, _, _⟩ := h.each i hi
      exact ⟨(a, b, c), fun _ => ⟨hu, by rw [nthO_eq hi]; exact ⟨g1, ⟨R, g3⟩, ⟨S, g6⟩⟩⟩⟩
    · exact ⟨(.bool false, .bool false, .bool false), fun hc => absurd hc hi⟩
  refine ⟨fun i => (Classical.choose (hex i)).1, fun i => (Classical.choose (hex i)).2.1, fun i => (Classical.choose (hex i)).2.2, ⟨?_, fun i hi => ((Classical.choose_spec (hex i)) hi).2⟩⟩
  have h2 : (List.range l.length).flatMap E = flatO l.length (fun i => (Classical.choose (hex i)).1) (fun i => (Classical.choose (hex i)).2.1) (fun i => (Classical.choose (hex i)).2.2) := by
    unfold flatO
    rw [List.flatMap_def, List.flatMap_def]
    congr 1
    exact List.map_congr_left fun i hi => ((Classical.choose_spec (hex i)) (List.mem_range.1 hi)).1
  have := Sl.of_own h.own (by omega)
  rw [h2] at this
  exact this
theorem opnAt_of {X Y : Nat} {w : World} {o : Opn} {a b c : Value} (h : rgOpn.sat X Y w o [a, b, c]) : OpnAt w a b c o := by
  obtain ⟨a', b', c', R, S, e, h1, _, h3, _, _, h6, _, _⟩ := h
  obtain ⟨rfl, rfl, rfl⟩ : a' = a ∧ b' = b ∧ c' = c := by simp at e; exact ⟨e.1.symm, e.2.1.symm, e.2.2.symm⟩
  exact ⟨h1, ⟨R, h3⟩, ⟨S, h6⟩⟩
theorem read_caught {P : Program} {fn : Func} {tmps : Array Value} {R : Ending → World → Prop} {w : World} {b be : Nat} {te : TypeId} {tv tr : TypeId} (hres : (results fn tmps).run P w = .ok (.tuple #[.agg zeros12.toArray, .iface te (.int .i64 5)]) w) (hR : R (.returned (.tuple #[.agg zeros12.toArray, .iface te (.int .i64 5)])) w) : Leaves P fn tmps R [] .returning w := ⟨_, hres, hR⟩
/-- Elements made from B on, behind a change to an older block. -/
theorem sat_low {w w' : World} {B b : Nat} {o : Opn} {cs : List Value} (h : rgOpn.sat B w.heap.size w o cs) (hg : w.grownBy w' (some b)) (hb : b < B) : rgOpn.sat B w'.heap.size w' o cs := opn_low h hg hb
end Go.Att
namespace Go.Proofs.YthpgmjdepigihaaDoor
open Go.RowKit Go.Att
set_option maxRecDepth 100000 in
theorem res_read {w : World} {b be : Nat} {v0 v1 v2 v3 v4 v5 v6 v7 v8 v9 v10 v11 ev : Value} (hc : ∀ i (h : i < [v0, v1, v2, v3, v4, v5, v6, v7, v8, v9, v10, v11].length), w.cell? ⟨b, i, none⟩ = some [v0, v1, v2, v3, v4, v5, v6, v7, v8, v9, v10, v11][i]) (he : w.cell? ⟨be, 0, none⟩ = some ev) (tmps : Array Value) (h2 : tmps.getD 2 undef = .pointer (some ⟨b, 0, none⟩)) (h3 : tmps.getD 3 undef = .pointer (some ⟨be, 0, none⟩)) :
    (results Tryd.f11 tmps).run Tryd.prog w = .ok (.tuple #[.agg #[v0, v1, v2, v3, v4, v5, v6, v7, v8, v9, v10, v11], ev]) w := by
  have h2' : tmps[2]?.getD undef = .pointer (some ⟨b, 0, none⟩) := by simpa using h2
  have h3' : tmps[3]?.getD undef = .pointer (some ⟨be, 0, none⟩) := by simpa using h3
  have k0 : w.cell? ⟨b, 0, none⟩ = some v0 := hc 0 (by simp)
  have k1 : w.cell? ⟨b, 1, none⟩ = some v1 := hc 1 (by simp)
  have k2 : w.cell? ⟨b, 2, none⟩ = some v2 := hc 2 (by simp)
  have k3 : w.cell? ⟨b, 3, none⟩ = some v3 := hc 3 (by simp)
  have k4 : w.cell? ⟨b, 4, none⟩ = some v4 := hc 4 (by simp)
  have k5 : w.cell? ⟨b, 5, none⟩ = some v5 := hc 5 (by simp)
  have k6 : w.cell? ⟨b, 6, none⟩ = some v6 := hc 6 (by simp)
  have k7 : w.cell? ⟨b, 7, none⟩ = some v7 := hc 7 (by simp)
  have k8 : w.cell? ⟨b, 8, none⟩ = some v8 := hc 8 (by simp)
  have k9 : w.cell? ⟨b, 9, none⟩ = some v9 := hc 9 (by simp)
  have k10 : w.cell? ⟨b, 10, none⟩ = some v10 := hc 10 (by simp)
  have k11 : w.cell? ⟨b, 11, none⟩ = some v11 := hc 11 (by simp)
  clear hc
  simp [results, Tryd.results11, go_sem, h2', h3', k0, k1, k2, k3, k4, k5, k6, k7, k8, k9, k10, k11, he]
set_option maxRecDepth 100000 in
set_option maxHeartbeats 8000000 in
theorem read_any {w : World} {v : Value} {b : List Int} (h : Byts w v b) (hb : BytesIn b) (h32 : b.length ≤ 4294967296) :
    Calls Tryd.prog 11 #[v] w (ReadGot 100 w b) := by
  have hmf : ∀ (fn : Fn) (first cap : Array Value) (w : World), (Instr.makeFunc fn first cap).run Tryd.prog w = .ok (.func fn first cap) w := fun _ _ _ _ => rfl
  obtain ⟨ao, cap, rfl⟩ := h.shape
  have s1 : (w.alloc (Obj.cells #[.slice none 0 0, .slice none 0 0, .int .i64 0, .slice none 0 0, .slice none 0 0, .slice none 0 0, .slice none 0 0, .slice none 0 0, .slice none 0 0, .slice none 0 0, .slice none 0 0, .slice none 0 0] 30)).heap.size = w.heap.size + 1 := by simp
  have s2 : ((w.alloc (Obj.cells #[.slice none 0 0, .slice none 0 0, .int .i64 0, .slice none 0 0, .slice none 0 0, .slice none 0 0, .slice none 0 0, .slice none 0 0, .slice none 0 0, .slice none 0 0, .slice none 0 0, .slice none 0 0] 30)).alloc (Obj.cells #[.nilIface] 34)).heap.size = w.heap.size + 1 + 1 := by simp
  have s3 : (((w.alloc (Obj.cells #[.slice none 0 0, .slice none 0 0, .int .i64 0, .slice none 0 0, .slice none 0 0, .slice none 0 0, .slice none 0 0, .slice none 0 0, .slice none 0 0, .slice none 0 0, .slice none 0 0, .slice none 0 0] 30)).alloc (Obj.cells #[.nilIface] 34)).alloc (Obj.cells #[.slice ao b.length cap] 103)).heap.size = w.heap.size + 1 + 1 + 1 := by simp
  have x1 := Ext.alloc w (Obj.cells #[.slice none 0 0, .slice none 0 0, .int .i64 0, .slice none 0 0, .slice none 0 0, .slice none 0 0, .slice none 0 0, .slice none 0 0, .slice none 0 0, .slice none 0 0, .slice none 0 0, .slice none 0 0] 30)
  have x2 := Ext.alloc (w.alloc (Obj.cells #[.slice none 0 0, .slice none 0 0, .int .i64 0, .slice none 0 0, .slice none 0 0, .slice none 0 0, .slice none 0 0, .slice none 0 0, .slice none 0 0, .slice none 0 0, .slice none 0 0, .slice none 0 0] 30)) (Obj.cells #[.nilIface] 34)
  have x3 := Ext.alloc ((w.alloc (Obj.cells #[.slice none 0 0, .slice none 0 0, .int .i64 0, .slice none 0 0, .slice none 0 0, .slice none 0 0, .slice none 0 0, .slice none 0 0, .slice none 0 0, .slice none 0 0, .slice none 0 0, .slice none 0 0] 30)).alloc (Obj.cells #[.nilIface] 34)) (Obj.cells #[.slice ao b.length cap] 103)
  have HD0 : CellsAt (((w.alloc (Obj.cells #[.slice none 0 0, .slice none 0 0, .int .i64 0, .slice none 0 0, .slice none 0 0, .slice none 0 0, .slice none 0 0, .slice none 0 0, .slice none 0 0, .slice none 0 0, .slice none 0 0, .slice none 0 0] 30)).alloc (Obj.cells #[.nilIface] 34)).alloc (Obj.cells #[.slice ao b.length cap] 103)) w.heap.size zeros12 := (CellsAt.new w zeros12 30).grown ((x2.trans x3).grownBy none) (by simp) (by decide)
  have HE0 : CellsAt (((w.alloc (Obj.cells #[.slice none 0 0, .slice none 0 0, .int .i64 0, .slice none 0 0, .slice none 0 0, .slice none 0 0, .slice none 0 0, .slice none 0 0, .slice none 0 0, .slice none 0 0, .slice none 0 0, .slice none 0 0] 30)).alloc (Obj.cells #[.nilIface] 34)).alloc (Obj.cells #[.slice ao b.length cap] 103)) (w.heap.size + 1) [.nilIface] := by
    have := (CellsAt.new (w.alloc (Obj.cells #[.slice none 0 0, .slice none 0 0, .int .i64 0, .slice none 0 0, .slice none 0 0, .slice none 0 0, .slice none 0 0, .slice none 0 0, .slice none 0 0, .slice none 0 0, .slice none 0 0, .slice none 0 0] 30)) [.nilIface] 34).grown (x3.grownBy none) (by simp) (by decide)
    rw [s1] at this; exact this
  have c3 := CellsAt.new ((w.alloc (Obj.cells #[.slice none 0 0, .slice none 0 0, .int .i64 0, .slice none 0 0, .slice none 0 0, .slice none 0 0, .slice none 0 0, .slice none 0 0, .slice none 0 0, .slice none 0 0, .slice none 0 0, .slice none 0 0] 30)).alloc (Obj.cells #[.nilIface] 34)) [.slice ao b.length cap] 103
  rw [s2] at c3
  have HR0 : Rdr w (((w.alloc (Obj.cells #[.slice none 0 0, .slice none 0 0, .int .i64 0, .slice none 0 0, .slice none 0 0, .slice none 0 0, .slice none 0 0, .slice none 0 0, .slice none 0 0, .slice none 0 0, .slice none 0 0, .slice none 0 0] 30)).alloc (Obj.cells #[.nilIface] 34)).alloc (Obj.cells #[.slice ao b.length cap] 103)) (w.heap.size + 1 + 1) b := ⟨⟨_, c3.at_ 0 (by simp), h⟩, c3.fr 0 (by simp), (x1.trans x2).trans x3, by omega⟩
  have hs0 : w.heap.size + 1 + 1 + 1 ≤ (((w.alloc (Obj.cells #[.slice none 0 0, .slice none 0 0, .int .i64 0, .slice none 0 0, .slice none 0 0, .slice none 0 0, .slice none 0 0, .slice none 0 0, .slice none 0 0, .slice none 0 0, .slice none 0 0, .slice none 0 0] 30)).alloc (Obj.cells #[.nilIface] 34)).alloc (Obj.cells #[.slice ao b.length cap] 103)).heap.size := by rw [s3]; exact Nat.le_refl _
  clear s1 s2 s3 x1 x2 x3 c3 h
  have HD := Lib.hid HD0; have HE := Lib.hid HE0; have HR := Lib.hid HR0; have HSZ := Lib.hid hs0
  clear HD0 HE0 HR0 hs0
  have HB0 := Lib.hid hb
  have L0 := Lib.hid h32
  clear hb h32
  go_enter_defers Tryd.func11, Tryd.ntmps11
  go_wp2_with fail
  have C1 := rnums_any HR.out (by have := HSZ.out; omega) HB0.out L0.out
  rcases h1 : rdIs b with _ | ⟨x1, t1⟩
  · have HN : ∀ vch, rdV b ≠ some (vch, []) := by intro vch; unfold rdV; rw [h1]; simp
    rw [h1] at C1
    (with_reducible refine C1.mono ?_)
    rintro e w1 ⟨rfl, hx, hg⟩
    have hd := HD.out.grown hg (by simp; try omega) (by first | decide | simp)
    have hee := HE.out.grown hg (by simp; try omega) (by first | decide | simp)
    have HN := Lib.hid HN; have HDD := Lib.hid hd; have HEE := Lib.hid hee
    clear hd hee
    go_wp2_with fail
    refine leaves_cons (f := 44) (args := #[.pointer (some ⟨w.heap.size, 0, none⟩), .pointer (some ⟨w.heap.size + 1, 0, none⟩)]) (by simp) (by simp [go_sem]) ?_
    refine (catch_panics w.heap.size (w.heap.size + 1) [] _ _ HDD.out (by first | decide | simp) .nilIface (HEE.out.at_ 0 (by decide)) (HEE.out.fr 0 (by decide)) (by omega)).mono ?_
    rintro e u' w'' ⟨rfl, rfl, hc, he, hx2⟩
    refine ⟨.tuple #[.agg zeros12.toArray, .iface 100 (.int .i64 5)], ?_, read_none HN.out rfl (hx2 _ hx (Nat.le_refl _) (by omega))⟩
    exact res_read hc he _ rfl rfl
  rw [h1] at C1
  have HK1 := Lib.hid h1
  have hbk := rdIs_back _ _ _ HB0.out h1
  have HB1 := Lib.hid (show BytesIn t1 from by have := HB0.out; rw [hbk.1] at this; exact this.right)
  have L1 := Lib.hid (show t1.length ≤ 4294967296 by have h1 := congrArg List.length hbk.1; have h2 := L0.out; rw [List.length_append] at h1; omega)
  have HV1 := Lib.hid hbk.2
  clear hbk h1
  (with_reducible refine C1.mono ?_)
  rintro e w1 ⟨u1, rfl, ⟨E1, hE1⟩, hR1, hG1⟩
  obtain ⟨a1, c1, rfl⟩ := own_shape3 hE1.own
  have hsz : w.heap.size + 1 + 1 + 1 ≤ w1.heap.size := Nat.le_trans HSZ.out hG1.size
  have hd := HD.out.grown hG1 (by simp; try omega) (by first | decide | simp)
  have k0 := hd.at_ 0 (by first | decide | simp)
  have f0 := hd.fr 0 (by first | decide | simp)
  have gs : w1.grownBy (w1.setCell ⟨w.heap.size, 0, none⟩ (.slice a1 x1.length c1)) (some w.heap.size) := (setCell_grown _ _ _ _)
  have HD2 : Hid (CellsAt (w1.setCell ⟨w.heap.size, 0, none⟩ (.slice a1 x1.length c1)) w.heap.size [.slice a1 x1.length c1, .slice none 0 0, .int .i64 0, .slice none 0 0, .slice none 0 0, .slice none 0 0, .slice none 0 0, .slice none 0 0, .slice none 0 0, .slice none 0 0, .slice none 0 0, .slice none 0 0]) := Lib.hid (hd.set 0 (by (try simp only [List.length_set]); first | decide | simp) (.slice a1 x1.length c1))
  have HE2 := Lib.hid ((HE.out.grown hG1 (by simp; try omega) (by first | decide | simp)).grown gs (by simp) (by first | decide | simp))
  have HR2 := Lib.hid (rdr_grown hR1 gs (by omega) (Nat.le_refl _))
  have HSZ2 := Lib.hid (show w.heap.size + 1 + 1 + 1 ≤ (w1.setCell ⟨w.heap.size, 0, none⟩ (.slice a1 x1.length c1)).heap.size from Nat.le_trans hsz gs.size)
  have P1 := Lib.hid ((hE1.lower (B' := w.heap.size + 1 + 1 + 1) HSZ.out).low gs (by omega))
  clear HD HE HR HSZ gs hd hsz C1 hR1 hG1 
  have HD := HD2; have HE := HE2; have HR := HR2; have HSZ := HSZ2
  clear HD2 HE2 HR2 HSZ2
  clear hE1
  go_wp2_with fail
  clear k0 f0
  have C2 := rnums_any HR.out (by have := HSZ.out; omega) HB1.out L1.out
  rcases h2 : rdIs t1 with _ | ⟨x2, t2⟩
  · have HN : ∀ vch, rdV b ≠ some (vch, []) := by intro vch; unfold rdV; rw [HK1.out, Option.bind_some]; dsimp only; rw [h2]; simp
    rw [h2] at C2
    (with_reducible refine C2.mono ?_)
    rintro e w2 ⟨rfl, hx, hg⟩
    have hd := HD.out.grown hg (by simp; try omega) (by first | decide | simp)
    have hee := HE.out.grown hg (by simp; try omega) (by first | decide | simp)
    have HN := Lib.hid HN; have HDD := Lib.hid hd; have HEE := Lib.hid hee
    clear hd hee
    go_wp2_with fail
    refine leaves_cons (f := 44) (args := #[.pointer (some ⟨w.heap.size, 0, none⟩), .pointer (some ⟨w.heap.size + 1, 0, none⟩)]) (by simp) (by simp [go_sem]) ?_
    refine (catch_panics w.heap.size (w.heap.size + 1) [] _ _ HDD.out (by first | decide | simp) .nilIface (HEE.out.at_ 0 (by decide)) (HEE.out.fr 0 (by decide)) (by omega)).mono ?_
    rintro e u' w'' ⟨rfl, rfl, hc, he, hx2⟩
    refine ⟨.tuple #[.agg zeros12.toArray, .iface 100 (.int .i64 5)], ?_, read_none HN.out rfl (hx2 _ hx (Nat.le_refl _) (by omega))⟩
    exact res_read hc he _ rfl rfl
  rw [h2] at C2
  have HK2 := Lib.hid h2
  have hbk := rdIs_back _ _ _ HB1.out h2
  have HB2 := Lib.hid (show BytesIn t2 from by have := HB1.out; rw [hbk.1] at this; exact this.right)
  have L2 := Lib.hid (show t2.length ≤ 4294967296 by have h1 := congrArg List.length hbk.1; have h2 := L1.out; rw [List.length_append] at h1; omega)
  have HV2 := Lib.hid hbk.2
  clear hbk h2
  (with_reducible refine C2.mono ?_)
  rintro e w2 ⟨u2, rfl, ⟨E2, hE2⟩, hR2, hG2⟩
  obtain ⟨a2, c2, rfl⟩ := own_shape3 hE2.own
  have hsz : w.heap.size + 1 + 1 + 1 ≤ w2.heap.size := Nat.le_trans HSZ.out hG2.size
  have hd := HD.out.grown hG2 (by simp; try omega) (by first | decide | simp)
  have k1 := hd.at_ 1 (by first | decide | simp)
  have f1 := hd.fr 1 (by first | decide | simp)
  have gs : w2.grownBy (w2.setCell ⟨w.heap.size, 1, none⟩ (.slice a2 x2.length c2)) (some w.heap.size) := (setCell_grown _ _ _ _)
  have HD2 : Hid (CellsAt (w2.setCell ⟨w.heap.size, 1, none⟩ (.slice a2 x2.length c2)) w.heap.size [.slice a1 x1.length c1, .slice a2 x2.length c2, .int .i64 0, .slice none 0 0, .slice none 0 0, .slice none 0 0, .slice none 0 0, .slice none 0 0, .slice none 0 0, .slice none 0 0, .slice none 0 0, .slice none 0 0]) := Lib.hid (hd.set 1 (by (try simp only [List.length_set]); first | decide | simp) (.slice a2 x2.length c2))
  have HE2 := Lib.hid ((HE.out.grown hG2 (by simp; try omega) (by first | decide | simp)).grown gs (by simp) (by first | decide | simp))
  have HR2 := Lib.hid (rdr_grown hR2 gs (by omega) (Nat.le_refl _))
  have HSZ2 := Lib.hid (show w.heap.size + 1 + 1 + 1 ≤ (w2.setCell ⟨w.heap.size, 1, none⟩ (.slice a2 x2.length c2)).heap.size from Nat.le_trans hsz gs.size)
  have NP1 := Lib.hid ((P1.out.low hG2 (by omega)).low gs (by omega))
  have P2 := Lib.hid ((hE2.lower (B' := w.heap.size + 1 + 1 + 1) HSZ.out).low gs (by omega))
  clear HD HE HR HSZ gs hd hsz C2 hR2 hG2 P1
  have HD := HD2; have HE := HE2; have HR := HR2; have HSZ := HSZ2
  clear HD2 HE2 HR2 HSZ2
  clear hE2
  go_wp2_with fail
  clear k1 f1
  have C3 := rnum_any HR.out HB2.out
  rcases h3 : rdI t2 with _ | ⟨x3, t3⟩
  · have HN : ∀ vch, rdV b ≠ some (vch, []) := by intro vch; unfold rdV; rw [HK1.out, Option.bind_some]; dsimp only; rw [HK2.out, Option.bind_some]; dsimp only; rw [h3]; simp
    rw [h3] at C3
    (with_reducible refine C3.mono ?_)
    rintro e w3 ⟨rfl, hx, hg⟩
    have hd := HD.out.grown hg (by simp; try omega) (by first | decide | simp)
    have hee := HE.out.grown hg (by simp; try omega) (by first | decide | simp)
    have HN := Lib.hid HN; have HDD := Lib.hid hd; have HEE := Lib.hid hee
    clear hd hee
    go_wp2_with fail
    refine leaves_cons (f := 44) (args := #[.pointer (some ⟨w.heap.size, 0, none⟩), .pointer (some ⟨w.heap.size + 1, 0, none⟩)]) (by simp) (by simp [go_sem]) ?_
    refine (catch_panics w.heap.size (w.heap.size + 1) [] _ _ HDD.out (by first | decide | simp) .nilIface (HEE.out.at_ 0 (by decide)) (HEE.out.fr 0 (by decide)) (by omega)).mono ?_
    rintro e u' w'' ⟨rfl, rfl, hc, he, hx2⟩
    refine ⟨.tuple #[.agg zeros12.toArray, .iface 100 (.int .i64 5)], ?_, read_none HN.out rfl (hx2 _ hx (Nat.le_refl _) (by omega))⟩
    exact res_read hc he _ rfl rfl
  rw [h3] at C3
  have HK3 := Lib.hid h3
  have hbk := rdI_back HB2.out h3
  have HB3 := Lib.hid (show BytesIn t3 from by have := HB2.out; rw [hbk.1] at this; exact this.right)
  have L3 := Lib.hid (show t3.length ≤ 4294967296 by have h1 := congrArg List.length hbk.1; have h2 := L2.out; rw [List.length_append] at h1; omega)
  have HV3 := Lib.hid hbk.2
  clear hbk h3
  (with_reducible refine C3.mono ?_)
  rintro e w3 ⟨_, rfl, rfl, hR3, hG3⟩
  have hsz : w.heap.size + 1 + 1 + 1 ≤ w3.heap.size := Nat.le_trans HSZ.out hG3.size
  have hd := HD.out.grown hG3 (by simp; try omega) (by first | decide | simp)
  have k2 := hd.at_ 2 (by first | decide | simp)
  have f2 := hd.fr 2 (by first | decide | simp)
  have gs : w3.grownBy (w3.setCell ⟨w.heap.size, 2, none⟩ (.int .i64 x3)) (some w.heap.size) := (setCell_grown _ _ _ _)
  have HD2 : Hid (CellsAt (w3.setCell ⟨w.heap.size, 2, none⟩ (.int .i64 x3)) w.heap.size [.slice a1 x1.length c1, .slice a2 x2.length c2, .int .i64 x3, .slice none 0 0, .slice none 0 0, .slice none 0 0, .slice none 0 0, .slice none 0 0, .slice none 0 0, .slice none 0 0, .slice none 0 0, .slice none 0 0]) := Lib.hid (hd.set 2 (by (try simp only [List.length_set]); first | decide | simp) (.int .i64 x3))
  have HE2 := Lib.hid ((HE.out.grown hG3 (by simp; try omega) (by first | decide | simp)).grown gs (by simp) (by first | decide | simp))
  have HR2 := Lib.hid (rdr_grown hR3 gs (by omega) (Nat.le_refl _))
  have HSZ2 := Lib.hid (show w.heap.size + 1 + 1 + 1 ≤ (w3.setCell ⟨w.heap.size, 2, none⟩ (.int .i64 x3)).heap.size from Nat.le_trans hsz gs.size)
  have NNP1 := Lib.hid ((NP1.out.low hG3 (by omega)).low gs (by omega))
  have NP2 := Lib.hid ((P2.out.low hG3 (by omega)).low gs (by omega))
  clear HD HE HR HSZ gs hd hsz C3 hR3 hG3 NP1 P2
  have HD := HD2; have HE := HE2; have HR := HR2; have HSZ := HSZ2
  clear HD2 HE2 HR2 HSZ2
  go_wp2_with fail
  clear k2 f2
  have C4 := rlists_any HR.out (by have := HSZ.out; omega) HB3.out L3.out
  rcases h4 : rdRs t3 with _ | ⟨x4, t4⟩
  · have HN : ∀ vch, rdV b ≠ some (vch, []) := by intro vch; unfold rdV; rw [HK1.out, Option.bind_some]; dsimp only; rw [HK2.out, Option.bind_some]; dsimp only; rw [HK3.out, Option.bind_some]; dsimp only; rw [h4]; simp
    rw [h4] at C4
    (with_reducible refine C4.mono ?_)
    rintro e w4 ⟨rfl, hx, hg⟩
    have hd := HD.out.grown hg (by simp; try omega) (by first | decide | simp)
    have hee := HE.out.grown hg (by simp; try omega) (by first | decide | simp)
    have HN := Lib.hid HN; have HDD := Lib.hid hd; have HEE := Lib.hid hee
    clear hd hee
    go_wp2_with fail
    refine leaves_cons (f := 44) (args := #[.pointer (some ⟨w.heap.size, 0, none⟩), .pointer (some ⟨w.heap.size + 1, 0, none⟩)]) (by simp) (by simp [go_sem]) ?_
    refine (catch_panics w.heap.size (w.heap.size + 1) [] _ _ HDD.out (by first | decide | simp) .nilIface (HEE.out.at_ 0 (by decide)) (HEE.out.fr 0 (by decide)) (by omega)).mono ?_
    rintro e u' w'' ⟨rfl, rfl, hc, he, hx2⟩
    refine ⟨.tuple #[.agg zeros12.toArray, .iface 100 (.int .i64 5)], ?_, read_none HN.out rfl (hx2 _ hx (Nat.le_refl _) (by omega))⟩
    exact res_read hc he _ rfl rfl
  rw [h4] at C4
  have HK4 := Lib.hid h4
  have hbk := rdRs_back _ _ _ HB3.out h4
  have HB4 := Lib.hid (show BytesIn t4 from by have := HB3.out; rw [hbk.1] at this; exact this.right)
  have L4 := Lib.hid (show t4.length ≤ 4294967296 by have h1 := congrArg List.length hbk.1; have h2 := L3.out; rw [List.length_append] at h1; omega)
  have HV4 := Lib.hid hbk.2
  clear hbk h4
  (with_reducible refine C4.mono ?_)
  rintro e w4 ⟨u4, rfl, ⟨E4, hE4⟩, hR4, hG4⟩
  obtain ⟨a4, c4, rfl⟩ := own_shape3 hE4.own
  have hsz : w.heap.size + 1 + 1 + 1 ≤ w4.heap.size := Nat.le_trans HSZ.out hG4.size
  have hd := HD.out.grown hG4 (by simp; try omega) (by first | decide | simp)
  have k3 := hd.at_ 3 (by first | decide | simp)
  have f3 := hd.fr 3 (by first | decide | simp)
  have gs : w4.grownBy (w4.setCell ⟨w.heap.size, 3, none⟩ (.slice a4 x4.length c4)) (some w.heap.size) := (setCell_grown _ _ _ _)
  have HD2 : Hid (CellsAt (w4.setCell ⟨w.heap.size, 3, none⟩ (.slice a4 x4.length c4)) w.heap.size [.slice a1 x1.length c1, .slice a2 x2.length c2, .int .i64 x3, .slice a4 x4.length c4, .slice none 0 0, .slice none 0 0, .slice none 0 0, .slice none 0 0, .slice none 0 0, .slice none 0 0, .slice none 0 0, .slice none 0 0]) := Lib.hid (hd.set 3 (by (try simp only [List.length_set]); first | decide | simp) (.slice a4 x4.length c4))
  have HE2 := Lib.hid ((HE.out.grown hG4 (by simp; try omega) (by first | decide | simp)).grown gs (by simp) (by first | decide | simp))
  have HR2 := Lib.hid (rdr_grown hR4 gs (by omega) (Nat.le_refl _))
  have HSZ2 := Lib.hid (show w.heap.size + 1 + 1 + 1 ≤ (w4.setCell ⟨w.heap.size, 3, none⟩ (.slice a4 x4.length c4)).heap.size from Nat.le_trans hsz gs.size)
  have NNNP1 := Lib.hid ((NNP1.out.low hG4 (by omega)).low gs (by omega))
  have NNP2 := Lib.hid ((NP2.out.low hG4 (by omega)).low gs (by omega))
  have P4 := Lib.hid ((hE4.lower (B' := w.heap.size + 1 + 1 + 1) HSZ.out).low gs (by omega))
  clear HD HE HR HSZ gs hd hsz C4 hR4 hG4 NNP1 NP2
  have HD := HD2; have HE := HE2; have HR := HR2; have HSZ := HSZ2
  clear HD2 HE2 HR2 HSZ2
  clear hE4
  go_wp2_with fail
  clear k3 f3
  have C5 := rnums_any HR.out (by have := HSZ.out; omega) HB4.out L4.out
  rcases h5 : rdIs t4 with _ | ⟨x5, t5⟩
  · have HN : ∀ vch, rdV b ≠ some (vch, []) := by intro vch; unfold rdV; rw [HK1.out, Option.bind_some]; dsimp only; rw [HK2.out, Option.bind_some]; dsimp only; rw [HK3.out, Option.bind_some]; dsimp only; rw [HK4.out, Option.bind_some]; dsimp only; rw [h5]; simp
    rw [h5] at C5
    (with_reducible refine C5.mono ?_)
    rintro e w5 ⟨rfl, hx, hg⟩
    have hd := HD.out.grown hg (by simp; try omega) (by first | decide | simp)
    have hee := HE.out.grown hg (by simp; try omega) (by first | decide | simp)
    have HN := Lib.hid HN; have HDD := Lib.hid hd; have HEE := Lib.hid hee
    clear hd hee
    go_wp2_with fail
    refine leaves_cons (f := 44) (args := #[.pointer (some ⟨w.heap.size, 0, none⟩), .pointer (some ⟨w.heap.size + 1, 0, none⟩)]) (by simp) (by simp [go_sem]) ?_
    refine (catch_panics w.heap.size (w.heap.size + 1) [] _ _ HDD.out (by first | decide | simp) .nilIface (HEE.out.at_ 0 (by decide)) (HEE.out.fr 0 (by decide)) (by omega)).mono ?_
    rintro e u' w'' ⟨rfl, rfl, hc, he, hx2⟩
    refine ⟨.tuple #[.agg zeros12.toArray, .iface 100 (.int .i64 5)], ?_, read_none HN.out rfl (hx2 _ hx (Nat.le_refl _) (by omega))⟩
    exact res_read hc he _ rfl rfl
  rw [h5] at C5
  have HK5 := Lib.hid h5
  have hbk := rdIs_back _ _ _ HB4.out h5
  have HB5 := Lib.hid (show BytesIn t5 from by have := HB4.out; rw [hbk.1] at this; exact this.right)
  have L5 := Lib.hid (show t5.length ≤ 4294967296 by have h1 := congrArg List.length hbk.1; have h2 := L4.out; rw [List.length_append] at h1; omega)
  have HV5 := Lib.hid hbk.2
  clear hbk h5
  (with_reducible refine C5.mono ?_)
  rintro e w5 ⟨u5, rfl, ⟨E5, hE5⟩, hR5, hG5⟩
  obtain ⟨a5, c5, rfl⟩ := own_shape3 hE5.own
  have hsz : w.heap.size + 1 + 1 + 1 ≤ w5.heap.size := Nat.le_trans HSZ.out hG5.size
  have hd := HD.out.grown hG5 (by simp; try omega) (by first | decide | simp)
  have k4 := hd.at_ 4 (by first | decide | simp)
  have f4 := hd.fr 4 (by first | decide | simp)
  have gs : w5.grownBy (w5.setCell ⟨w.heap.size, 4, none⟩ (.slice a5 x5.length c5)) (some w.heap.size) := (setCell_grown _ _ _ _)
  have HD2 : Hid (CellsAt (w5.setCell ⟨w.heap.size, 4, none⟩ (.slice a5 x5.length c5)) w.heap.size [.slice a1 x1.length c1, .slice a2 x2.length c2, .int .i64 x3, .slice a4 x4.length c4, .slice a5 x5.length c5, .slice none 0 0, .slice none 0 0, .slice none 0 0, .slice none 0 0, .slice none 0 0, .slice none 0 0, .slice none 0 0]) := Lib.hid (hd.set 4 (by (try simp only [List.length_set]); first | decide | simp) (.slice a5 x5.length c5))
  have HE2 := Lib.hid ((HE.out.grown hG5 (by simp; try omega) (by first | decide | simp)).grown gs (by simp) (by first | decide | simp))
  have HR2 := Lib.hid (rdr_grown hR5 gs (by omega) (Nat.le_refl _))
  have HSZ2 := Lib.hid (show w.heap.size + 1 + 1 + 1 ≤ (w5.setCell ⟨w.heap.size, 4, none⟩ (.slice a5 x5.length c5)).heap.size from Nat.le_trans hsz gs.size)
  have NNNNP1 := Lib.hid ((NNNP1.out.low hG5 (by omega)).low gs (by omega))
  have NNNP2 := Lib.hid ((NNP2.out.low hG5 (by omega)).low gs (by omega))
  have NP4 := Lib.hid ((P4.out.low hG5 (by omega)).low gs (by omega))
  have P5 := Lib.hid ((hE5.lower (B' := w.heap.size + 1 + 1 + 1) HSZ.out).low gs (by omega))
  clear HD HE HR HSZ gs hd hsz C5 hR5 hG5 NNNP1 NNP2 P4
  have HD := HD2; have HE := HE2; have HR := HR2; have HSZ := HSZ2
  clear HD2 HE2 HR2 HSZ2
  clear hE5
  go_wp2_with fail
  clear k4 f4
  have C6 := ropns_any HR.out (by have := HSZ.out; omega) HB5.out L5.out
  rw [show rdL rdO = rdOs from rfl] at C6
  rcases h6 : rdOs t5 with _ | ⟨x6, t6⟩
  · have HN : ∀ vch, rdV b ≠ some (vch, []) := by intro vch; unfold rdV; rw [HK1.out, Option.bind_some]; dsimp only; rw [HK2.out, Option.bind_some]; dsimp only; rw [HK3.out, Option.bind_some]; dsimp only; rw [HK4.out, Option.bind_some]; dsimp only; rw [HK5.out, Option.bind_some]; dsimp only; rw [h6]; simp
    rw [h6] at C6
    (with_reducible refine C6.mono ?_)
    rintro e w6 ⟨rfl, hx, hg⟩
    have hd := HD.out.grown hg (by simp; try omega) (by first | decide | simp)
    have hee := HE.out.grown hg (by simp; try omega) (by first | decide | simp)
    have HN := Lib.hid HN; have HDD := Lib.hid hd; have HEE := Lib.hid hee
    clear hd hee
    go_wp2_with fail
    refine leaves_cons (f := 44) (args := #[.pointer (some ⟨w.heap.size, 0, none⟩), .pointer (some ⟨w.heap.size + 1, 0, none⟩)]) (by simp) (by simp [go_sem]) ?_
    refine (catch_panics w.heap.size (w.heap.size + 1) [] _ _ HDD.out (by first | decide | simp) .nilIface (HEE.out.at_ 0 (by decide)) (HEE.out.fr 0 (by decide)) (by omega)).mono ?_
    rintro e u' w'' ⟨rfl, rfl, hc, he, hx2⟩
    refine ⟨.tuple #[.agg zeros12.toArray, .iface 100 (.int .i64 5)], ?_, read_none HN.out rfl (hx2 _ hx (Nat.le_refl _) (by omega))⟩
    exact res_read hc he _ rfl rfl
  rw [h6] at C6
  have HK6 := Lib.hid h6
  have hbk := rdOs_back _ _ _ HB5.out h6
  have HB6 := Lib.hid (show BytesIn t6 from by have := HB5.out; rw [hbk.1] at this; exact this.right)
  have L6 := Lib.hid (show t6.length ≤ 4294967296 by have h1 := congrArg List.length hbk.1; have h2 := L5.out; rw [List.length_append] at h1; omega)
  have HV6 := Lib.hid hbk.2
  clear hbk h6
  (with_reducible refine C6.mono ?_)
  rintro e w6 ⟨u6, rfl, ⟨E6, hE6⟩, hR6, hG6⟩
  obtain ⟨a6, c6, rfl⟩ := own_shape3 hE6.own
  have hsz : w.heap.size + 1 + 1 + 1 ≤ w6.heap.size := Nat.le_trans HSZ.out hG6.size
  have hd := HD.out.grown hG6 (by simp; try omega) (by first | decide | simp)
  have k5 := hd.at_ 5 (by first | decide | simp)
  have f5 := hd.fr 5 (by first | decide | simp)
  have gs : w6.grownBy (w6.setCell ⟨w.heap.size, 5, none⟩ (.slice a6 x6.length c6)) (some w.heap.size) := (setCell_grown _ _ _ _)
  have HD2 : Hid (CellsAt (w6.setCell ⟨w.heap.size, 5, none⟩ (.slice a6 x6.length c6)) w.heap.size [.slice a1 x1.length c1, .slice a2 x2.length c2, .int .i64 x3, .slice a4 x4.length c4, .slice a5 x5.length c5, .slice a6 x6.length c6, .slice none 0 0, .slice none 0 0, .slice none 0 0, .slice none 0 0, .slice none 0 0, .slice none 0 0]) := Lib.hid (hd.set 5 (by (try simp only [List.length_set]); first | decide | simp) (.slice a6 x6.length c6))
  have HE2 := Lib.hid ((HE.out.grown hG6 (by simp; try omega) (by first | decide | simp)).grown gs (by simp) (by first | decide | simp))
  have HR2 := Lib.hid (rdr_grown hR6 gs (by omega) (Nat.le_refl _))
  have HSZ2 := Lib.hid (show w.heap.size + 1 + 1 + 1 ≤ (w6.setCell ⟨w.heap.size, 5, none⟩ (.slice a6 x6.length c6)).heap.size from Nat.le_trans hsz gs.size)
  have NNNNNP1 := Lib.hid ((NNNNP1.out.low hG6 (by omega)).low gs (by omega))
  have NNNNP2 := Lib.hid ((NNNP2.out.low hG6 (by omega)).low gs (by omega))
  have NNP4 := Lib.hid ((NP4.out.low hG6 (by omega)).low gs (by omega))
  have NP5 := Lib.hid ((P5.out.low hG6 (by omega)).low gs (by omega))
  have P6 := Lib.hid ((hE6.lower (B' := w.heap.size + 1 + 1 + 1) HSZ.out).low gs (by omega))
  clear HD HE HR HSZ gs hd hsz C6 hR6 hG6 NNNNP1 NNNP2 NP4 P5
  have HD := HD2; have HE := HE2; have HR := HR2; have HSZ := HSZ2
  clear HD2 HE2 HR2 HSZ2
  clear hE6
  go_wp2_with fail
  clear k5 f5
  have C7 := ropn_any HR.out (by have := HSZ.out; omega) HB6.out L6.out
  rcases h7 : rdO t6 with _ | ⟨x7, t7⟩
  · have HN : ∀ vch, rdV b ≠ some (vch, []) := by intro vch; unfold rdV; rw [HK1.out, Option.bind_some]; dsimp only; rw [HK2.out, Option.bind_some]; dsimp only; rw [HK3.out, Option.bind_some]; dsimp only; rw [HK4.out, Option.bind_some]; dsimp only; rw [HK5.out, Option.bind_some]; dsimp only; rw [HK6.out, Option.bind_some]; dsimp only; rw [h7]; simp
    rw [h7] at C7
    (with_reducible refine C7.mono ?_)
    rintro e w7 ⟨rfl, hx, hg⟩
    have hd := HD.out.grown hg (by simp; try omega) (by first | decide | simp)
    have hee := HE.out.grown hg (by simp; try omega) (by first | decide | simp)
    have HN := Lib.hid HN; have HDD := Lib.hid hd; have HEE := Lib.hid hee
    clear hd hee
    go_wp2_with fail
    refine leaves_cons (f := 44) (args := #[.pointer (some ⟨w.heap.size, 0, none⟩), .pointer (some ⟨w.heap.size + 1, 0, none⟩)]) (by simp) (by simp [go_sem]) ?_
    refine (catch_panics w.heap.size (w.heap.size + 1) [] _ _ HDD.out (by first | decide | simp) .nilIface (HEE.out.at_ 0 (by decide)) (HEE.out.fr 0 (by decide)) (by omega)).mono ?_
    rintro e u' w'' ⟨rfl, rfl, hc, he, hx2⟩
    refine ⟨.tuple #[.agg zeros12.toArray, .iface 100 (.int .i64 5)], ?_, read_none HN.out rfl (hx2 _ hx (Nat.le_refl _) (by omega))⟩
    exact res_read hc he _ rfl rfl
  rw [h7] at C7
  have HK7 := Lib.hid h7
  have hbk := rdO_back _ _ _ HB6.out h7
  have HB7 := Lib.hid (show BytesIn t7 from by have := HB6.out; rw [hbk.1] at this; exact this.right)
  have L7 := Lib.hid (show t7.length ≤ 4294967296 by have h1 := congrArg List.length hbk.1; have h2 := L6.out; rw [List.length_append] at h1; omega)
  have HV7 := Lib.hid hbk.2
  clear hbk h7
  (with_reducible refine C7.mono ?_)
  rintro e w7 ⟨_, rfl, ⟨y7a, y7b, y7c, rfl, hS7⟩, hR7, hG7⟩
  obtain ⟨a7a, c7a, a7b, c7b, a7c, c7c, rfl, rfl, rfl⟩ := opn_shapes hS7
  have hsz : w.heap.size + 1 + 1 + 1 ≤ w7.heap.size := Nat.le_trans HSZ.out hG7.size
  have hd := HD.out.grown hG7 (by simp; try omega) (by first | decide | simp)
  have k6 := hd.at_ 6 (by first | decide | simp)
  have f6 := hd.fr 6 (by first | decide | simp)
  have k7 := hd.at_ 7 (by first | decide | simp)
  have f7 := hd.fr 7 (by first | decide | simp)
  have k8 := hd.at_ 8 (by first | decide | simp)
  have f8 := hd.fr 8 (by first | decide | simp)
  have gs : w7.grownBy (((w7.setCell ⟨w.heap.size, 6, none⟩ (.slice a7a x7.1.length c7a)).setCell ⟨w.heap.size, 7, none⟩ (.slice a7b x7.2.1.length c7b)).setCell ⟨w.heap.size, 8, none⟩ (.slice a7c x7.2.2.length c7c)) (some w.heap.size) := (grown_same (grown_same (setCell_grown _ _ _ _) (setCell_grown _ _ _ _)) (setCell_grown _ _ _ _))
  have HD2 : Hid (CellsAt (((w7.setCell ⟨w.heap.size, 6, none⟩ (.slice a7a x7.1.length c7a)).setCell ⟨w.heap.size, 7, none⟩ (.slice a7b x7.2.1.length c7b)).setCell ⟨w.heap.size, 8, none⟩ (.slice a7c x7.2.2.length c7c)) w.heap.size [.slice a1 x1.length c1, .slice a2 x2.length c2, .int .i64 x3, .slice a4 x4.length c4, .slice a5 x5.length c5, .slice a6 x6.length c6, .slice a7a x7.1.length c7a, .slice a7b x7.2.1.length c7b, .slice a7c x7.2.2.length c7c, .slice none 0 0, .slice none 0 0, .slice none 0 0]) := Lib.hid (((hd.set 6 (by (try simp only [List.length_set]); first | decide | simp) (.slice a7a x7.1.length c7a)).set 7 (by (try simp only [List.length_set]); first | decide | simp) (.slice a7b x7.2.1.length c7b)).set 8 (by (try simp only [List.length_set]); first | decide | simp) (.slice a7c x7.2.2.length c7c))
  have HE2 := Lib.hid ((HE.out.grown hG7 (by simp; try omega) (by first | decide | simp)).grown gs (by simp) (by first | decide | simp))
  have HR2 := Lib.hid (rdr_grown hR7 gs (by omega) (Nat.le_refl _))
  have HSZ2 := Lib.hid (show w.heap.size + 1 + 1 + 1 ≤ (((w7.setCell ⟨w.heap.size, 6, none⟩ (.slice a7a x7.1.length c7a)).setCell ⟨w.heap.size, 7, none⟩ (.slice a7b x7.2.1.length c7b)).setCell ⟨w.heap.size, 8, none⟩ (.slice a7c x7.2.2.length c7c)).heap.size from Nat.le_trans hsz gs.size)
  have NNNNNNP1 := Lib.hid ((NNNNNP1.out.low hG7 (by omega)).low gs (by omega))
  have NNNNNP2 := Lib.hid ((NNNNP2.out.low hG7 (by omega)).low gs (by omega))
  have NNNP4 := Lib.hid ((NNP4.out.low hG7 (by omega)).low gs (by omega))
  have NNP5 := Lib.hid ((NP5.out.low hG7 (by omega)).low gs (by omega))
  have NP6 := Lib.hid ((P6.out.low hG7 (by omega)).low gs (by omega))
  have P7 := Lib.hid (sat_low (rgOpn.wide (X' := w.heap.size + 1 + 1 + 1) hS7 HSZ.out (Nat.le_refl _)) gs (by omega))
  clear HD HE HR HSZ gs hd hsz C7 hR7 hG7 NNNNNP1 NNNNP2 NNP4 NP5 P6
  have HD := HD2; have HE := HE2; have HR := HR2; have HSZ := HSZ2
  clear HD2 HE2 HR2 HSZ2
  clear hS7
  go_wp2_with fail
  clear k6 f6 k7 f7 k8 f8
  have C8 := ropn_any HR.out (by have := HSZ.out; omega) HB7.out L7.out
  rcases h8 : rdO t7 with _ | ⟨x8, t8⟩
  · have HN : ∀ vch, rdV b ≠ some (vch, []) := by intro vch; unfold rdV; rw [HK1.out, Option.bind_some]; dsimp only; rw [HK2.out, Option.bind_some]; dsimp only; rw [HK3.out, Option.bind_some]; dsimp only; rw [HK4.out, Option.bind_some]; dsimp only; rw [HK5.out, Option.bind_some]; dsimp only; rw [HK6.out, Option.bind_some]; dsimp only; rw [HK7.out, Option.bind_some]; dsimp only; rw [h8]; simp
    rw [h8] at C8
    (with_reducible refine C8.mono ?_)
    rintro e w8 ⟨rfl, hx, hg⟩
    have hd := HD.out.grown hg (by simp; try omega) (by first | decide | simp)
    have hee := HE.out.grown hg (by simp; try omega) (by first | decide | simp)
    have HN := Lib.hid HN; have HDD := Lib.hid hd; have HEE := Lib.hid hee
    clear hd hee
    go_wp2_with fail
    refine leaves_cons (f := 44) (args := #[.pointer (some ⟨w.heap.size, 0, none⟩), .pointer (some ⟨w.heap.size + 1, 0, none⟩)]) (by simp) (by simp [go_sem]) ?_
    refine (catch_panics w.heap.size (w.heap.size + 1) [] _ _ HDD.out (by first | decide | simp) .nilIface (HEE.out.at_ 0 (by decide)) (HEE.out.fr 0 (by decide)) (by omega)).mono ?_
    rintro e u' w'' ⟨rfl, rfl, hc, he, hx2⟩
    refine ⟨.tuple #[.agg zeros12.toArray, .iface 100 (.int .i64 5)], ?_, read_none HN.out rfl (hx2 _ hx (Nat.le_refl _) (by omega))⟩
    exact res_read hc he _ rfl rfl
  rw [h8] at C8
  have HK8 := Lib.hid h8
  have hbk := rdO_back _ _ _ HB7.out h8
  have HB8 := Lib.hid (show BytesIn t8 from by have := HB7.out; rw [hbk.1] at this; exact this.right)
  have L8 := Lib.hid (show t8.length ≤ 4294967296 by have h1 := congrArg List.length hbk.1; have h2 := L7.out; rw [List.length_append] at h1; omega)
  have HV8 := Lib.hid hbk.2
  clear hbk h8
  (with_reducible refine C8.mono ?_)
  rintro e w8 ⟨_, rfl, ⟨y8a, y8b, y8c, rfl, hS8⟩, hR8, hG8⟩
  obtain ⟨a8a, c8a, a8b, c8b, a8c, c8c, rfl, rfl, rfl⟩ := opn_shapes hS8
  have hsz : w.heap.size + 1 + 1 + 1 ≤ w8.heap.size := Nat.le_trans HSZ.out hG8.size
  have hd := HD.out.grown hG8 (by simp; try omega) (by first | decide | simp)
  have k9 := hd.at_ 9 (by first | decide | simp)
  have f9 := hd.fr 9 (by first | decide | simp)
  have k10 := hd.at_ 10 (by first | decide | simp)
  have f10 := hd.fr 10 (by first | decide | simp)
  have k11 := hd.at_ 11 (by first | decide | simp)
  have f11 := hd.fr 11 (by first | decide | simp)
  have gs : w8.grownBy (((w8.setCell ⟨w.heap.size, 9, none⟩ (.slice a8a x8.1.length c8a)).setCell ⟨w.heap.size, 10, none⟩ (.slice a8b x8.2.1.length c8b)).setCell ⟨w.heap.size, 11, none⟩ (.slice a8c x8.2.2.length c8c)) (some w.heap.size) := (grown_same (grown_same (setCell_grown _ _ _ _) (setCell_grown _ _ _ _)) (setCell_grown _ _ _ _))
  have HD2 : Hid (CellsAt (((w8.setCell ⟨w.heap.size, 9, none⟩ (.slice a8a x8.1.length c8a)).setCell ⟨w.heap.size, 10, none⟩ (.slice a8b x8.2.1.length c8b)).setCell ⟨w.heap.size, 11, none⟩ (.slice a8c x8.2.2.length c8c)) w.heap.size [.slice a1 x1.length c1, .slice a2 x2.length c2, .int .i64 x3, .slice a4 x4.length c4, .slice a5 x5.length c5, .slice a6 x6.length c6, .slice a7a x7.1.length c7a, .slice a7b x7.2.1.length c7b, .slice a7c x7.2.2.length c7c, .slice a8a x8.1.length c8a, .slice a8b x8.2.1.length c8b, .slice a8c x8.2.2.length c8c]) := Lib.hid (((hd.set 9 (by (try simp only [List.length_set]); first | decide | simp) (.slice a8a x8.1.length c8a)).set 10 (by (try simp only [List.length_set]); first | decide | simp) (.slice a8b x8.2.1.length c8b)).set 11 (by (try simp only [List.length_set]); first | decide | simp) (.slice a8c x8.2.2.length c8c))
  have HE2 := Lib.hid ((HE.out.grown hG8 (by simp; try omega) (by first | decide | simp)).grown gs (by simp) (by first | decide | simp))
  have HR2 := Lib.hid (rdr_grown hR8 gs (by omega) (Nat.le_refl _))
  have HSZ2 := Lib.hid (show w.heap.size + 1 + 1 + 1 ≤ (((w8.setCell ⟨w.heap.size, 9, none⟩ (.slice a8a x8.1.length c8a)).setCell ⟨w.heap.size, 10, none⟩ (.slice a8b x8.2.1.length c8b)).setCell ⟨w.heap.size, 11, none⟩ (.slice a8c x8.2.2.length c8c)).heap.size from Nat.le_trans hsz gs.size)
  have NNNNNNNP1 := Lib.hid ((NNNNNNP1.out.low hG8 (by omega)).low gs (by omega))
  have NNNNNNP2 := Lib.hid ((NNNNNP2.out.low hG8 (by omega)).low gs (by omega))
  have NNNNP4 := Lib.hid ((NNNP4.out.low hG8 (by omega)).low gs (by omega))
  have NNNP5 := Lib.hid ((NNP5.out.low hG8 (by omega)).low gs (by omega))
  have NNP6 := Lib.hid ((NP6.out.low hG8 (by omega)).low gs (by omega))
  have NP7 := Lib.hid (sat_low (sat_low P7.out hG8 (by omega)) gs (by omega))
  have P8 := Lib.hid (sat_low (rgOpn.wide (X' := w.heap.size + 1 + 1 + 1) hS8 HSZ.out (Nat.le_refl _)) gs (by omega))
  clear HD HE HR HSZ gs hd hsz C8 hR8 hG8 NNNNNNP1 NNNNNP2 NNNP4 NNP5 NP6 P7
  have HD := HD2; have HE := HE2; have HR := HR2; have HSZ := HSZ2
  clear HD2 HE2 HR2 HSZ2
  clear hS8
  obtain ⟨⟨vr, cr, hvr⟩, -, hxr, -⟩ := HR.out
  have hlr := Sl.run_len (P := Tryd.prog) hvr slByts
  have m0 := HD.out.at_ 0 (by simp)
  have g0 := HD.out.fr 0 (by simp)
  have m1 := HD.out.at_ 1 (by simp)
  have g1 := HD.out.fr 1 (by simp)
  have m2 := HD.out.at_ 2 (by simp)
  have g2 := HD.out.fr 2 (by simp)
  have m3 := HD.out.at_ 3 (by simp)
  have g3 := HD.out.fr 3 (by simp)
  have m4 := HD.out.at_ 4 (by simp)
  have g4 := HD.out.fr 4 (by simp)
  have m5 := HD.out.at_ 5 (by simp)
  have g5 := HD.out.fr 5 (by simp)
  have m6 := HD.out.at_ 6 (by simp)
  have g6 := HD.out.fr 6 (by simp)
  have m7 := HD.out.at_ 7 (by simp)
  have g7 := HD.out.fr 7 (by simp)
  have m8 := HD.out.at_ 8 (by simp)
  have g8 := HD.out.fr 8 (by simp)
  have m9 := HD.out.at_ 9 (by simp)
  have g9 := HD.out.fr 9 (by simp)
  have m10 := HD.out.at_ 10 (by simp)
  have g10 := HD.out.fr 10 (by simp)
  have m11 := HD.out.at_ 11 (by simp)
  have g11 := HD.out.fr 11 (by simp)
  have me := HE.out.at_ 0 (by simp)
  have ge := HE.out.fr 0 (by simp)
  simp only [List.getElem_cons_zero, List.getElem_cons_succ] at m0 m1 m2 m3 m4 m5 m6 m7 m8 m9 m10 m11 me
  rcases t8 with _ | ⟨c, t9⟩
  · have hl0 : (([] : List Int).length : Int) = 0 := rfl
    rw [hl0] at hlr
    have G1 : ((((w8.setCell ⟨w.heap.size, 9, none⟩ (.slice a8a x8.1.length c8a)).setCell ⟨w.heap.size, 10, none⟩ (.slice a8b x8.2.1.length c8b)).setCell ⟨w.heap.size, 11, none⟩ (.slice a8c x8.2.2.length c8c))).grownBy (((((((((((((((w8.setCell ⟨w.heap.size, 9, none⟩ (.slice a8a x8.1.length c8a)).setCell ⟨w.heap.size, 10, none⟩ (.slice a8b x8.2.1.length c8b)).setCell ⟨w.heap.size, 11, none⟩ (.slice a8c x8.2.2.length c8c)).setCell ⟨w.heap.size, 0, none⟩ (.slice a1 x1.length c1)).setCell ⟨w.heap.size, 1, none⟩ (.slice a2 x2.length c2)).setCell ⟨w.heap.size, 2, none⟩ (.int .i64 x3)).setCell ⟨w.heap.size, 3, none⟩ (.slice a4 x4.length c4)).setCell ⟨w.heap.size, 4, none⟩ (.slice a5 x5.length c5)).setCell ⟨w.heap.size, 5, none⟩ (.slice a6 x6.length c6)).setCell ⟨w.heap.size, 6, none⟩ (.slice a7a x7.1.length c7a)).setCell ⟨w.heap.size, 7, none⟩ (.slice a7b x7.2.1.length c7b)).setCell ⟨w.heap.size, 8, none⟩ (.slice a7c x7.2.2.length c7c)).setCell ⟨w.heap.size, 9, none⟩ (.slice a8a x8.1.length c8a)).setCell ⟨w.heap.size, 10, none⟩ (.slice a8b x8.2.1.length c8b)).setCell ⟨w.heap.size, 11, none⟩ (.slice a8c x8.2.2.length c8c)) (some w.heap.size) := (grown_same (grown_same (grown_same (grown_same (grown_same (grown_same (grown_same (grown_same (grown_same (grown_same (grown_same (setCell_grown _ _ _ _) (setCell_grown _ _ _ _)) (setCell_grown _ _ _ _)) (setCell_grown _ _ _ _)) (setCell_grown _ _ _ _)) (setCell_grown _ _ _ _)) (setCell_grown _ _ _ _)) (setCell_grown _ _ _ _)) (setCell_grown _ _ _ _)) (setCell_grown _ _ _ _)) (setCell_grown _ _ _ _)) (setCell_grown _ _ _ _))
    have D1 : CellsAt (((((((((((((((w8.setCell ⟨w.heap.size, 9, none⟩ (.slice a8a x8.1.length c8a)).setCell ⟨w.heap.size, 10, none⟩ (.slice a8b x8.2.1.length c8b)).setCell ⟨w.heap.size, 11, none⟩ (.slice a8c x8.2.2.length c8c)).setCell ⟨w.heap.size, 0, none⟩ (.slice a1 x1.length c1)).setCell ⟨w.heap.size, 1, none⟩ (.slice a2 x2.length c2)).setCell ⟨w.heap.size, 2, none⟩ (.int .i64 x3)).setCell ⟨w.heap.size, 3, none⟩ (.slice a4 x4.length c4)).setCell ⟨w.heap.size, 4, none⟩ (.slice a5 x5.length c5)).setCell ⟨w.heap.size, 5, none⟩ (.slice a6 x6.length c6)).setCell ⟨w.heap.size, 6, none⟩ (.slice a7a x7.1.length c7a)).setCell ⟨w.heap.size, 7, none⟩ (.slice a7b x7.2.1.length c7b)).setCell ⟨w.heap.size, 8, none⟩ (.slice a7c x7.2.2.length c7c)).setCell ⟨w.heap.size, 9, none⟩ (.slice a8a x8.1.length c8a)).setCell ⟨w.heap.size, 10, none⟩ (.slice a8b x8.2.1.length c8b)).setCell ⟨w.heap.size, 11, none⟩ (.slice a8c x8.2.2.length c8c)) w.heap.size [.slice a1 x1.length c1, .slice a2 x2.length c2, .int .i64 x3, .slice a4 x4.length c4, .slice a5 x5.length c5, .slice a6 x6.length c6, .slice a7a x7.1.length c7a, .slice a7b x7.2.1.length c7b, .slice a7c x7.2.2.length c7c, .slice a8a x8.1.length c8a, .slice a8b x8.2.1.length c8b, .slice a8c x8.2.2.length c8c] := ((((((((((((HD.out.set 0 (by simp) (.slice a1 x1.length c1)).set 1 (by simp) (.slice a2 x2.length c2)).set 2 (by simp) (.int .i64 x3)).set 3 (by simp) (.slice a4 x4.length c4)).set 4 (by simp) (.slice a5 x5.length c5)).set 5 (by simp) (.slice a6 x6.length c6)).set 6 (by simp) (.slice a7a x7.1.length c7a)).set 7 (by simp) (.slice a7b x7.2.1.length c7b)).set 8 (by simp) (.slice a7c x7.2.2.length c7c)).set 9 (by simp) (.slice a8a x8.1.length c8a)).set 10 (by simp) (.slice a8b x8.2.1.length c8b)).set 11 (by simp) (.slice a8c x8.2.2.length c8c))
    have E1' := (HE.out.grown G1 (by simp) (by simp)).set 0 (by simp) (.nilIface)
    have G2 := setCell_grown (((((((((((((((w8.setCell ⟨w.heap.size, 9, none⟩ (.slice a8a x8.1.length c8a)).setCell ⟨w.heap.size, 10, none⟩ (.slice a8b x8.2.1.length c8b)).setCell ⟨w.heap.size, 11, none⟩ (.slice a8c x8.2.2.length c8c)).setCell ⟨w.heap.size, 0, none⟩ (.slice a1 x1.length c1)).setCell ⟨w.heap.size, 1, none⟩ (.slice a2 x2.length c2)).setCell ⟨w.heap.size, 2, none⟩ (.int .i64 x3)).setCell ⟨w.heap.size, 3, none⟩ (.slice a4 x4.length c4)).setCell ⟨w.heap.size, 4, none⟩ (.slice a5 x5.length c5)).setCell ⟨w.heap.size, 5, none⟩ (.slice a6 x6.length c6)).setCell ⟨w.heap.size, 6, none⟩ (.slice a7a x7.1.length c7a)).setCell ⟨w.heap.size, 7, none⟩ (.slice a7b x7.2.1.length c7b)).setCell ⟨w.heap.size, 8, none⟩ (.slice a7c x7.2.2.length c7c)).setCell ⟨w.heap.size, 9, none⟩ (.slice a8a x8.1.length c8a)).setCell ⟨w.heap.size, 10, none⟩ (.slice a8b x8.2.1.length c8b)).setCell ⟨w.heap.size, 11, none⟩ (.slice a8c x8.2.2.length c8c)) (w.heap.size + 1) 0 (.nilIface)
    have D2 := D1.grown G2 (by simp) (by simp)
    have X2 : Ext w ((((((((((((((((w8.setCell ⟨w.heap.size, 9, none⟩ (.slice a8a x8.1.length c8a)).setCell ⟨w.heap.size, 10, none⟩ (.slice a8b x8.2.1.length c8b)).setCell ⟨w.heap.size, 11, none⟩ (.slice a8c x8.2.2.length c8c)).setCell ⟨w.heap.size, 0, none⟩ (.slice a1 x1.length c1)).setCell ⟨w.heap.size, 1, none⟩ (.slice a2 x2.length c2)).setCell ⟨w.heap.size, 2, none⟩ (.int .i64 x3)).setCell ⟨w.heap.size, 3, none⟩ (.slice a4 x4.length c4)).setCell ⟨w.heap.size, 4, none⟩ (.slice a5 x5.length c5)).setCell ⟨w.heap.size, 5, none⟩ (.slice a6 x6.length c6)).setCell ⟨w.heap.size, 6, none⟩ (.slice a7a x7.1.length c7a)).setCell ⟨w.heap.size, 7, none⟩ (.slice a7b x7.2.1.length c7b)).setCell ⟨w.heap.size, 8, none⟩ (.slice a7c x7.2.2.length c7c)).setCell ⟨w.heap.size, 9, none⟩ (.slice a8a x8.1.length c8a)).setCell ⟨w.heap.size, 10, none⟩ (.slice a8b x8.2.1.length c8b)).setCell ⟨w.heap.size, 11, none⟩ (.slice a8c x8.2.2.length c8c)).setCell ⟨w.heap.size + 1, 0, none⟩ (.nilIface)) := Below.grown (Below.grown hxr G1 hxr.size (fun k hk => by have := Option.some.inj hk; omega)) G2 (Nat.le_trans hxr.size G1.size) (fun k hk => by have := Option.some.inj hk; omega)
    have QNNNNNNNP1 := (NNNNNNNP1.out.low G1 (by omega)).low G2 (by omega)
    have QNNNNNNP2 := (NNNNNNP2.out.low G1 (by omega)).low G2 (by omega)
    have QNNNNP4 := (NNNNP4.out.low G1 (by omega)).low G2 (by omega)
    have QNNNP5 := (NNNP5.out.low G1 (by omega)).low G2 (by omega)
    have QNNP6 := (NNP6.out.low G1 (by omega)).low G2 (by omega)
    have QNP7 := sat_low (sat_low NP7.out G1 (by omega)) G2 (by omega)
    have QP8 := sat_low (sat_low P8.out G1 (by omega)) G2 (by omega)
    have HVV : Hid (rdV b = some (⟨x1, x2, x3, x4, x5, x6, x7, x8⟩, [])) := Lib.hid (by unfold rdV; rw [HK1.out, Option.bind_some]; dsimp only; rw [HK2.out, Option.bind_some]; dsimp only; rw [HK3.out, Option.bind_some]; dsimp only; rw [HK4.out, Option.bind_some]; dsimp only; rw [HK5.out, Option.bind_some]; dsimp only; rw [HK6.out, Option.bind_some]; dsimp only; rw [HK7.out, Option.bind_some]; dsimp only; rw [HK8.out]; rfl)
    have HFIN := Lib.hid (VchAt.mk (v := ⟨x1, x2, x3, x4, x5, x6, x7, x8⟩) (Ints.of_own (Lst.ints QNNNNNNNP1)) (Ints.of_own (Lst.ints QNNNNNNP2)) (let ⟨R, h, _⟩ := Lst.rws QNNNNP4; ⟨R, h⟩) (Ints.of_own (Lst.ints QNNNP5)) (Lst.opns QNNP6) (opnAt_of QNP7) (opnAt_of QP8))
    have HSTB := Lib.hid (fun (W' : World) (bb : Nat) (g : World.grownBy _ W' (some bb)) (hbb : bb < w.heap.size) => VchAt.mk (v := ⟨x1, x2, x3, x4, x5, x6, x7, x8⟩) (Ints.of_own (Lst.ints (Lst.low QNNNNNNNP1 g (by omega)))) (Ints.of_own (Lst.ints (Lst.low QNNNNNNP2 g (by omega)))) (let ⟨R, h, _⟩ := Lst.rws (Lst.low QNNNNP4 g (by omega)); ⟨R, h⟩) (Ints.of_own (Lst.ints (Lst.low QNNNP5 g (by omega)))) (Lst.opns (Lst.low QNNP6 g (by omega))) (opnAt_of (sat_low QNP7 g (by omega))) (opnAt_of (sat_low QP8 g (by omega))))
    have DD := Lib.hid D2; have EE := Lib.hid E1'; have XX := Lib.hid X2
    clear G1 D1 E1' G2 D2 X2 hl0 QNNNNNNNP1 QNNNNNNP2 QNNNNP4 QNNNP5 QNNP6 QNP7 QP8
    go_wp2_with fail
    refine leaves_cons (f := 44) (args := #[.pointer (some ⟨w.heap.size, 0, none⟩), .pointer (some ⟨w.heap.size + 1, 0, none⟩)]) (by simp) (by simp [go_sem]) ?_
    refine (catch_idle _ _ _).mono ?_
    rintro e u' w'' ⟨rfl, rfl, rfl⟩
    exact ⟨_, res_read DD.out.at_ (EE.out.at_ 0 (by simp)) _ rfl rfl, .inl ⟨_, HVV.out, _, _, _, _, _, _, _, _, _, _, _, rfl, HFIN.out, HSTB.out, XX.out⟩⟩
  · have hl0 : (((c :: t9).length : Nat) : Int) = (t9.length : Int) + 1 := by simp
    rw [hl0] at hlr
    have hlb := Sl.len hvr
    unfold maxLen at hlb
    simp only [List.length_cons] at hlb
    have hp0 : (0 : Int) < (t9.length : Int) + 1 := by omega
    have G1 : ((((w8.setCell ⟨w.heap.size, 9, none⟩ (.slice a8a x8.1.length c8a)).setCell ⟨w.heap.size, 10, none⟩ (.slice a8b x8.2.1.length c8b)).setCell ⟨w.heap.size, 11, none⟩ (.slice a8c x8.2.2.length c8c))).grownBy (((((((((((((((w8.setCell ⟨w.heap.size, 9, none⟩ (.slice a8a x8.1.length c8a)).setCell ⟨w.heap.size, 10, none⟩ (.slice a8b x8.2.1.length c8b)).setCell ⟨w.heap.size, 11, none⟩ (.slice a8c x8.2.2.length c8c)).setCell ⟨w.heap.size, 0, none⟩ (.slice none 0 0)).setCell ⟨w.heap.size, 1, none⟩ (.slice none 0 0)).setCell ⟨w.heap.size, 2, none⟩ (.int .i64 0)).setCell ⟨w.heap.size, 3, none⟩ (.slice none 0 0)).setCell ⟨w.heap.size, 4, none⟩ (.slice none 0 0)).setCell ⟨w.heap.size, 5, none⟩ (.slice none 0 0)).setCell ⟨w.heap.size, 6, none⟩ (.slice none 0 0)).setCell ⟨w.heap.size, 7, none⟩ (.slice none 0 0)).setCell ⟨w.heap.size, 8, none⟩ (.slice none 0 0)).setCell ⟨w.heap.size, 9, none⟩ (.slice none 0 0)).setCell ⟨w.heap.size, 10, none⟩ (.slice none 0 0)).setCell ⟨w.heap.size, 11, none⟩ (.slice none 0 0)) (some w.heap.size) := (grown_same (grown_same (grown_same (grown_same (grown_same (grown_same (grown_same (grown_same (grown_same (grown_same (grown_same (setCell_grown _ _ _ _) (setCell_grown _ _ _ _)) (setCell_grown _ _ _ _)) (setCell_grown _ _ _ _)) (setCell_grown _ _ _ _)) (setCell_grown _ _ _ _)) (setCell_grown _ _ _ _)) (setCell_grown _ _ _ _)) (setCell_grown _ _ _ _)) (setCell_grown _ _ _ _)) (setCell_grown _ _ _ _)) (setCell_grown _ _ _ _))
    have D1 : CellsAt (((((((((((((((w8.setCell ⟨w.heap.size, 9, none⟩ (.slice a8a x8.1.length c8a)).setCell ⟨w.heap.size, 10, none⟩ (.slice a8b x8.2.1.length c8b)).setCell ⟨w.heap.size, 11, none⟩ (.slice a8c x8.2.2.length c8c)).setCell ⟨w.heap.size, 0, none⟩ (.slice none 0 0)).setCell ⟨w.heap.size, 1, none⟩ (.slice none 0 0)).setCell ⟨w.heap.size, 2, none⟩ (.int .i64 0)).setCell ⟨w.heap.size, 3, none⟩ (.slice none 0 0)).setCell ⟨w.heap.size, 4, none⟩ (.slice none 0 0)).setCell ⟨w.heap.size, 5, none⟩ (.slice none 0 0)).setCell ⟨w.heap.size, 6, none⟩ (.slice none 0 0)).setCell ⟨w.heap.size, 7, none⟩ (.slice none 0 0)).setCell ⟨w.heap.size, 8, none⟩ (.slice none 0 0)).setCell ⟨w.heap.size, 9, none⟩ (.slice none 0 0)).setCell ⟨w.heap.size, 10, none⟩ (.slice none 0 0)).setCell ⟨w.heap.size, 11, none⟩ (.slice none 0 0)) w.heap.size [.slice none 0 0, .slice none 0 0, .int .i64 0, .slice none 0 0, .slice none 0 0, .slice none 0 0, .slice none 0 0, .slice none 0 0, .slice none 0 0, .slice none 0 0, .slice none 0 0, .slice none 0 0] := ((((((((((((HD.out.set 0 (by simp) (.slice none 0 0)).set 1 (by simp) (.slice none 0 0)).set 2 (by simp) (.int .i64 0)).set 3 (by simp) (.slice none 0 0)).set 4 (by simp) (.slice none 0 0)).set 5 (by simp) (.slice none 0 0)).set 6 (by simp) (.slice none 0 0)).set 7 (by simp) (.slice none 0 0)).set 8 (by simp) (.slice none 0 0)).set 9 (by simp) (.slice none 0 0)).set 10 (by simp) (.slice none 0 0)).set 11 (by simp) (.slice none 0 0))
    have E1' := (HE.out.grown G1 (by simp) (by simp)).set 0 (by simp) (.iface 100 (.int .i64 5))
    have G2 := setCell_grown (((((((((((((((w8.setCell ⟨w.heap.size, 9, none⟩ (.slice a8a x8.1.length c8a)).setCell ⟨w.heap.size, 10, none⟩ (.slice a8b x8.2.1.length c8b)).setCell ⟨w.heap.size, 11, none⟩ (.slice a8c x8.2.2.length c8c)).setCell ⟨w.heap.size, 0, none⟩ (.slice none 0 0)).setCell ⟨w.heap.size, 1, none⟩ (.slice none 0 0)).setCell ⟨w.heap.size, 2, none⟩ (.int .i64 0)).setCell ⟨w.heap.size, 3, none⟩ (.slice none 0 0)).setCell ⟨w.heap.size, 4, none⟩ (.slice none 0 0)).setCell ⟨w.heap.size, 5, none⟩ (.slice none 0 0)).setCell ⟨w.heap.size, 6, none⟩ (.slice none 0 0)).setCell ⟨w.heap.size, 7, none⟩ (.slice none 0 0)).setCell ⟨w.heap.size, 8, none⟩ (.slice none 0 0)).setCell ⟨w.heap.size, 9, none⟩ (.slice none 0 0)).setCell ⟨w.heap.size, 10, none⟩ (.slice none 0 0)).setCell ⟨w.heap.size, 11, none⟩ (.slice none 0 0)) (w.heap.size + 1) 0 (.iface 100 (.int .i64 5))
    have D2 := D1.grown G2 (by simp) (by simp)
    have X2 : Ext w ((((((((((((((((w8.setCell ⟨w.heap.size, 9, none⟩ (.slice a8a x8.1.length c8a)).setCell ⟨w.heap.size, 10, none⟩ (.slice a8b x8.2.1.length c8b)).setCell ⟨w.heap.size, 11, none⟩ (.slice a8c x8.2.2.length c8c)).setCell ⟨w.heap.size, 0, none⟩ (.slice none 0 0)).setCell ⟨w.heap.size, 1, none⟩ (.slice none 0 0)).setCell ⟨w.heap.size, 2, none⟩ (.int .i64 0)).setCell ⟨w.heap.size, 3, none⟩ (.slice none 0 0)).setCell ⟨w.heap.size, 4, none⟩ (.slice none 0 0)).setCell ⟨w.heap.size, 5, none⟩ (.slice none 0 0)).setCell ⟨w.heap.size, 6, none⟩ (.slice none 0 0)).setCell ⟨w.heap.size, 7, none⟩ (.slice none 0 0)).setCell ⟨w.heap.size, 8, none⟩ (.slice none 0 0)).setCell ⟨w.heap.size, 9, none⟩ (.slice none 0 0)).setCell ⟨w.heap.size, 10, none⟩ (.slice none 0 0)).setCell ⟨w.heap.size, 11, none⟩ (.slice none 0 0)).setCell ⟨w.heap.size + 1, 0, none⟩ (.iface 100 (.int .i64 5))) := Below.grown (Below.grown hxr G1 hxr.size (fun k hk => by have := Option.some.inj hk; omega)) G2 (Nat.le_trans hxr.size G1.size) (fun k hk => by have := Option.some.inj hk; omega)
    have HN : Hid (∀ vch, rdV b ≠ some (vch, [])) := Lib.hid (by intro vch; unfold rdV; rw [HK1.out, Option.bind_some]; dsimp only; rw [HK2.out, Option.bind_some]; dsimp only; rw [HK3.out, Option.bind_some]; dsimp only; rw [HK4.out, Option.bind_some]; dsimp only; rw [HK5.out, Option.bind_some]; dsimp only; rw [HK6.out, Option.bind_some]; dsimp only; rw [HK7.out, Option.bind_some]; dsimp only; rw [HK8.out]; simp)
    have DD := Lib.hid D2; have EE := Lib.hid E1'; have XX := Lib.hid X2
    clear G1 D1 E1' G2 D2 X2 hl0
    go_wp2_with fail
    refine leaves_cons (f := 44) (args := #[.pointer (some ⟨w.heap.size, 0, none⟩), .pointer (some ⟨w.heap.size + 1, 0, none⟩)]) (by simp) (by simp [go_sem]) ?_
    refine (catch_idle _ _ _).mono ?_
    rintro e u' w'' ⟨rfl, rfl, rfl⟩
    exact ⟨_, res_read DD.out.at_ (EE.out.at_ 0 (by simp)) _ rfl rfl, read_none HN.out rfl XX.out⟩
end Go.Proofs.YthpgmjdepigihaaDoor
