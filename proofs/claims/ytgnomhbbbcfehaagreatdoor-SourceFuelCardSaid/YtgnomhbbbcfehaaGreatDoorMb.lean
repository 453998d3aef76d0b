/- The program's machine: begun. -/
import Derived.Test.YtgnomhbbbcfehaaGreatDoorZx6
import Derived.Carry
namespace Go.Att
open Go.RowKit
theorem fault2 {p sz : Int} {n : Nat} {lim : Int} {cd : List In4} (hn : cd.length = n) (h : sz < 0 ∨ 65536 < sz ∨ n = 0 ∨ 4096 < n ∨ p < n) : walkM p sz cd lim = .no 2 := by
  have e : faultM p sz cd.length lim = 2 := by unfold faultM; rw [hn, if_pos h]
  unfold walkM; rw [e, if_neg (by decide)]
theorem fault3 {p sz : Int} {n : Nat} {lim : Int} {cd : List In4} (hn : cd.length = n) (h : ¬ (sz < 0 ∨ 65536 < sz ∨ n = 0 ∨ 4096 < n ∨ p < n)) (h2 : lim < 0 ∨ 16384 < lim) : walkM p sz cd lim = .no 3 := by
  have e : faultM p sz cd.length lim = 3 := by unfold faultM; rw [hn, if_neg h, if_pos h2]
  unfold walkM; rw [e, if_neg (by decide)]
theorem fault0 {p sz : Int} {n : Nat} {lim : Int} {cd : List In4} (hn : cd.length = n) (h : ¬ (sz < 0 ∨ 65536 < sz ∨ n = 0 ∨ 4096 < n ∨ p < n)) (h2 : ¬ (lim < 0 ∨ 16384 < lim)) : walkM p sz cd lim = runM p cd lim.toNat [] (startM p sz) := by
  have e : faultM p sz cd.length lim = 0 := by unfold faultM; rw [hn, if_neg h, if_neg h2]
  unfold walkM; rw [e, if_pos rfl]
end Go.Att
namespace Go.Proofs.YtgnomhbbbcfehaaGreatDoor
open Go.RowKit Go.Att Go.Maps
attribute [local go_sem ↓] Go.wp_at_zero Go.wp_at_succ
def BegGot (w : World) (p : Int) (r : Rw) (e : Ending) (w' : World) : Prop :=
  match r with
  | .done l out mem => ∃ (b mb : Nat) (cs : List Value) (sv : Value) (nn : Int), e = .returned (.tuple #[.pointer (some ⟨b, 0, none⟩), .int .i64 out, .nilIface]) ∧ w'.cell? ⟨b, 3, none⟩ = some (.map (some mb)) ∧ w'.cell? ⟨b, 15, none⟩ = some sv ∧ w'.cell? ⟨b, 16, none⟩ = some (.int .i64 ((l.length : Int) - 1)) ∧ BlkOf w' b cs 167 ∧ Tmem Tryz.prog 3 w' mb nn mem ∧ (∀ c ∈ mem, (0 ≤ c.1 ∧ c.1 < p) ∧ (0 ≤ c.2 ∧ c.2 < p)) ∧ 1 ≤ l.length ∧ l.length ≤ 16385 ∧ w.heap.size ≤ b ∧ w.heap.size ≤ mb ∧ w'.ownsRow w.heap.size 222 10 sv l.length (flatS l) ∧ Ext w w'
  | .no k => e = .returned (.tuple #[.pointer none, .int .i64 0, .iface 60 (.int .i64 k)]) ∧ Ext w w'
theorem res_begun {w : World} {r1 r2 r3 : Nat} {v1 v2 v3 : Value} (h1 : BlkOf w r1 [v1] 160) (h2 : BlkOf w r2 [v2] 3) (h3 : BlkOf w r3 [v3] 28) (tmps : Array Value) (g1 : tmps.getD 6 undef = .pointer (some ⟨r1, 0, none⟩)) (g2 : tmps.getD 7 undef = .pointer (some ⟨r2, 0, none⟩)) (g3 : tmps.getD 8 undef = .pointer (some ⟨r3, 0, none⟩)) :
    (results Tryz.f81 tmps).run Tryz.prog w = .ok (.tuple #[v1, v2, v3]) w := by
  have g1' : tmps[6]?.getD undef = .pointer (some ⟨r1, 0, none⟩) := by simpa using g1
  have g2' : tmps[7]?.getD undef = .pointer (some ⟨r2, 0, none⟩) := by simpa using g2
  have g3' : tmps[8]?.getD undef = .pointer (some ⟨r3, 0, none⟩) := by simpa using g3
  have k1 : w.cell? ⟨r1, 0, none⟩ = some v1 := h1.cell 0
  have k2 : w.cell? ⟨r2, 0, none⟩ = some v2 := h2.cell 0
  have k3 : w.cell? ⟨r3, 0, none⟩ = some v3 := h3.cell 0
  clear h1 h2 h3
  simp [results, Tryz.results81, go_sem, g1', g2', g3', k1, k2, k3]
theorem three_set {V w0 : World} {r1 r2 r3 : Nat} {v1 v2 v3 u1 u2 u3 : Value} {t1 t2 t3 : TypeId} (h1 : BlkOf V r1 [v1] t1) (h2 : BlkOf V r2 [v2] t2) (h3 : BlkOf V r3 [v3] t3) (n1 : r1 ≠ r2) (n2 : r1 ≠ r3) (n3 : r2 ≠ r3) (hx : Ext w0 V) (l1 : w0.heap.size ≤ r1) (l2 : w0.heap.size ≤ r2) (l3 : w0.heap.size ≤ r3) :
    BlkOf (((V.setCell ⟨r1, 0, none⟩ u1).setCell ⟨r2, 0, none⟩ u2).setCell ⟨r3, 0, none⟩ u3) r1 [u1] t1 ∧ BlkOf (((V.setCell ⟨r1, 0, none⟩ u1).setCell ⟨r2, 0, none⟩ u2).setCell ⟨r3, 0, none⟩ u3) r2 [u2] t2 ∧ BlkOf (((V.setCell ⟨r1, 0, none⟩ u1).setCell ⟨r2, 0, none⟩ u2).setCell ⟨r3, 0, none⟩ u3) r3 [u3] t3 ∧ Ext w0 (((V.setCell ⟨r1, 0, none⟩ u1).setCell ⟨r2, 0, none⟩ u2).setCell ⟨r3, 0, none⟩ u3) := by
  have G1 := setCell_grown V r1 0 u1
  have G2 := setCell_grown (V.setCell ⟨r1, 0, none⟩ u1) r2 0 u2
  have G3 := setCell_grown ((V.setCell ⟨r1, 0, none⟩ u1).setCell ⟨r2, 0, none⟩ u2) r3 0 u3
  refine ⟨((h1.set 0 u1).grown G2 (fun e => n1 (Option.some.inj e))).grown G3 (fun e => n2 (Option.some.inj e)), ((h2.grown G1 (fun e => n1 (Option.some.inj e).symm)).set 0 u2).grown G3 (fun e => n3 (Option.some.inj e)), ((h3.grown G1 (fun e => n2 (Option.some.inj e).symm)).grown G2 (fun e => n3 (Option.some.inj e).symm)).set 0 u3, ?_⟩
  exact Below.setCell (Below.setCell (Below.setCell hx l1 _) l2 _) l3 _
theorem beg_eq {w V1 Y W6 : World} {b mb r1 bf : Nat} {p g : Int} {fs : List Int} {sz : Int} {ao : Option Addr} {n cap : Nat} {cd : List In4} {lim : Int} {R : Rw}
    (hW : (Y.alloc (Obj.cells #[.pointer (some ⟨bf, 0, none⟩), .int .i64 sz, .slice ao n cap, .map (some mb), .int .i64 0, .int .i64 (fof p 1), .int .i64 (fof p (1 + sz)), .int .i64 0, .int .i64 0, .int .i64 0, .int .i64 0, .int .i64 0, .int .i64 0, .int .i64 0, .int .i64 0, .slice none 0 0, .int .i64 0] 167)).setCell ⟨r1, 0, none⟩ (.pointer (some ⟨b, 0, none⟩)) = W6) (hb : Y.heap.size = b)
    (hT : Tmem Tryz.prog 3 Y mb 1 [(0, 0)]) (hE : Ext V1 Y) (hmb : V1.heap.size = mb) (h1 : BlkOf V1 r1 [.pointer none] 160) (hx : Ext w V1) (hr : w.heap.size ≤ r1) (hf : Fld w (.pointer (some ⟨bf, 0, none⟩)) p g fs) (hc : Inqs w (.slice ao n cap) cd) (h0 : 0 ≤ lim) (hR : runM p cd lim.toNat [] (startM p sz) = R) :
    RunAt (V1.setCell ⟨r1, 0, none⟩ (.pointer (some ⟨b, 0, none⟩))) W6 b mb (.pointer (some ⟨bf, 0, none⟩)) p g fs sz (.slice ao n cap) cd R lim ∧ BlkOf W6 r1 [.pointer (some ⟨b, 0, none⟩)] 160 := by
  subst hb
  have hlt := h1.lt
  have hYs := hE.size
  have hmY := hT.lt
  have hw0 : Ext w (V1.setCell ⟨r1, 0, none⟩ (.pointer (some ⟨Y.heap.size, 0, none⟩))) := Below.setCell hx hr _
  have hsz : (V1.setCell ⟨r1, 0, none⟩ (.pointer (some ⟨Y.heap.size, 0, none⟩))).heap.size = V1.heap.size := by simp
  have ha := Ext.alloc Y (Obj.cells #[.pointer (some ⟨bf, 0, none⟩), .int .i64 sz, .slice ao n cap, .map (some mb), .int .i64 0, .int .i64 (fof p 1), .int .i64 (fof p (1 + sz)), .int .i64 0, .int .i64 0, .int .i64 0, .int .i64 0, .int .i64 0, .int .i64 0, .int .i64 0, .int .i64 0, .slice none 0 0, .int .i64 0] 167)
  have hbn := BlkOf.new Y (mcells (.pointer (some ⟨bf, 0, none⟩)) sz (.slice ao n cap) mb (startM p sz) (.slice none 0 0) 0) 167
  replace hbn : BlkOf (Y.alloc (Obj.cells #[.pointer (some ⟨bf, 0, none⟩), .int .i64 sz, .slice ao n cap, .map (some mb), .int .i64 0, .int .i64 (fof p 1), .int .i64 (fof p (1 + sz)), .int .i64 0, .int .i64 0, .int .i64 0, .int .i64 0, .int .i64 0, .int .i64 0, .int .i64 0, .int .i64 0, .slice none 0 0, .int .i64 0] 167)) Y.heap.size (mcells (.pointer (some ⟨bf, 0, none⟩)) sz (.slice ao n cap) mb (startM p sz) (.slice none 0 0) 0) 167 := hbn
  have hg : (Y.alloc (Obj.cells #[.pointer (some ⟨bf, 0, none⟩), .int .i64 sz, .slice ao n cap, .map (some mb), .int .i64 0, .int .i64 (fof p 1), .int .i64 (fof p (1 + sz)), .int .i64 0, .int .i64 0, .int .i64 0, .int .i64 0, .int .i64 0, .int .i64 0, .int .i64 0, .int .i64 0, .slice none 0 0, .int .i64 0] 167)).grownBy W6 (some r1) := by rw [← hW]; exact setCell_grown _ _ _ _
  have hB1 : BlkOf W6 r1 [.pointer (some ⟨Y.heap.size, 0, none⟩)] 160 := by rw [← hW]; exact ((h1.ext hE).ext ha).set 0 _
  generalize Y.alloc (Obj.cells #[.pointer (some ⟨bf, 0, none⟩), .int .i64 sz, .slice ao n cap, .map (some mb), .int .i64 0, .int .i64 (fof p 1), .int .i64 (fof p (1 + sz)), .int .i64 0, .int .i64 0, .int .i64 0, .int .i64 0, .int .i64 0, .int .i64 0, .int .i64 0, .int .i64 0, .slice none 0 0, .int .i64 0] 167) = Z at *
  have hY : Ext V1 Z := hE.trans ha
  have hxW : Ext (V1.setCell ⟨r1, 0, none⟩ (.pointer (some ⟨Y.heap.size, 0, none⟩))) W6 := by
    have k1 := hY.below
    have g0 := setCell_grown V1 r1 0 (.pointer (some ⟨Y.heap.size, 0, none⟩))
    refine ⟨?_, ?_, ?_, ?_, ?_⟩
    · rw [hg.os, k1.os, ← g0.os]
    · rw [hg.tape, k1.tape, ← g0.tape]
    · rw [hg.output, k1.output, ← g0.output]
    · rw [hsz]; exact Nat.le_trans hY.size hg.size
    · intro i hi
      rw [hsz] at hi
      by_cases e : i = r1
      · subst e
        have q1 : BlkOf (V1.setCell ⟨i, 0, none⟩ (.pointer (some ⟨Y.heap.size, 0, none⟩))) i [.pointer (some ⟨Y.heap.size, 0, none⟩)] 160 := h1.set 0 _
        unfold BlkOf at q1 hB1
        rw [hB1, q1]
      · rw [hg.block i (Nat.lt_of_lt_of_le hi hY.size) (fun h => e (Option.some.inj h)), k1.block i hi, g0.block i hi (fun h => e (Option.some.inj h))]
  refine ⟨⟨lim.toNat, [], startM p sz, 1, .slice none 0 0, ⟨?_, ?_, hxW, hf.ext hw0, Sl.ext hc hw0, ?_, ?_, ?_, start_ok hf.two, by simp⟩, by simp, by simp; omega, hR, World.ownsRow_nil _ _ _ _⟩, hB1⟩
  · exact hbn.grown hg (fun e => by have := Option.some.inj e; omega)
  · exact (hT.kept (ha.grownBy none) (by simp)).kept hg (fun e => by have := Option.some.inj e; omega)
  · rw [hsz]; exact hYs
  · rw [hsz]; omega
  · omega
theorem ownrow_lower {w : World} {B B' e sz n : Nat} {v : Value} {xs : List Value} (h : w.ownsRow B e sz v n xs) (hb : B' ≤ B) : w.ownsRow B' e sz v n xs := by
  refine ⟨h.1, ?_⟩
  rcases h.2 with h2 | ⟨g, cap, cur, hv, hg, r⟩
  · exact .inl h2
  · exact .inr ⟨g, cap, cur, hv, Nat.le_trans hb hg, r⟩
theorem fin_keep {W8 : World} {r1 r2 r3 B : Nat} {u1 u2 u3 : Value} (h1 : r1 < B) (h2 : r2 < B) (h3 : r3 < B) :
    (∀ b cs t, BlkOf W8 b cs t → B ≤ b → BlkOf (((W8.setCell ⟨r1, 0, none⟩ u1).setCell ⟨r2, 0, none⟩ u2).setCell ⟨r3, 0, none⟩ u3).drew b cs t) ∧
    (∀ P K mb n mem, Tmem P K W8 mb n mem → B ≤ mb → Tmem P K (((W8.setCell ⟨r1, 0, none⟩ u1).setCell ⟨r2, 0, none⟩ u2).setCell ⟨r3, 0, none⟩ u3).drew mb n mem) ∧
    (∀ e sz v n xs, W8.ownsRow B e sz v n xs → (((W8.setCell ⟨r1, 0, none⟩ u1).setCell ⟨r2, 0, none⟩ u2).setCell ⟨r3, 0, none⟩ u3).drew.ownsRow B e sz v n xs) := by
  have G1 := setCell_grown W8 r1 0 u1
  have G2 := setCell_grown (W8.setCell ⟨r1, 0, none⟩ u1) r2 0 u2
  have G3 := setCell_grown ((W8.setCell ⟨r1, 0, none⟩ u1).setCell ⟨r2, 0, none⟩ u2) r3 0 u3
  have G4 := Ext.drew (((W8.setCell ⟨r1, 0, none⟩ u1).setCell ⟨r2, 0, none⟩ u2).setCell ⟨r3, 0, none⟩ u3)
  refine ⟨fun b cs t h hb => ?_, fun P K mb n mem h hb => ?_, fun e sz v n xs h => ?_⟩
  · exact (((h.grown G1 (fun e => by have := Option.some.inj e; omega)).grown G2 (fun e => by have := Option.some.inj e; omega)).grown G3 (fun e => by have := Option.some.inj e; omega)).ext G4
  · exact (((h.kept G1 (fun e => by have := Option.some.inj e; omega)).kept G2 (fun e => by have := Option.some.inj e; omega)).kept G3 (fun e => by have := Option.some.inj e; omega)).kept (G4.grownBy none) (by simp)
  · have hn : ∀ r, r < B → v.ownBlock ≠ some r := fun r hr e => by have := (h.lt r e).1; omega
    exact own_ext ((Turned.one (c := r3) G3).own ((Turned.one (c := r2) G2).own ((Turned.one (c := r1) G1).own h (hn _ h1) (hn _ h1)) (hn _ h2) (hn _ h2)) (hn _ h3) (hn _ h3)) G4
section
variable {w : World} {p g : Int} {fs : List Int} {sz : Int} {lv : Value} {cd : List In4} {lim : Int}
set_option maxRecDepth 100000 in
set_option maxHeartbeats 8000000 in
theorem mbegun_any {f : Value} (hf : Fld w f p g fs) (hc : Inqs w lv cd) : Calls Tryz.prog 81 #[f, .agg #[.int .i64 sz, lv], .int .i64 lim] w (BegGot w p (walkM p sz cd lim)) := by
  have hmf : ∀ (fn : Fn) (first cap : Array Value) (w : World), (Instr.makeFunc fn first cap).run Tryz.prog w = .ok (.func fn first cap) w := fun _ _ _ _ => rfl
  have hmm := @run_makeMap Tryz.prog
  have hll : ∀ w', (Builtin.len_ #[112] 3 #[lv]).run Tryz.prog w' = .ok (.int .i64 cd.length) w' := fun w' => hc.run_len (P := Tryz.prog) slIns 3 w'
  obtain ⟨bf, rfl⟩ := hf.ptr
  obtain ⟨ao, cap, rfl⟩ := hc.shape
  have hcl := hc.len
  have hlo := hf.lo
  have hhi := hf.hi
  have HF := Lib.hid hf; have HC := Lib.hid hc
  clear hf hc
  obtain ⟨n, hn⟩ : ∃ n, cd.length = n := ⟨_, rfl⟩
  rw [hn] at hll hcl
  have HN := Lib.hid hn
  rw [hn]
  clear hn
  have s1 : (w.alloc (Obj.cells #[.int .i64 sz, .slice ao n cap] 114)).heap.size = w.heap.size + 1 := by simp
  have s2 : ((w.alloc (Obj.cells #[.int .i64 sz, .slice ao n cap] 114)).alloc (Obj.cells #[.pointer none] 160)).heap.size = w.heap.size + 1 + 1 := by simp
  have s3 : (((w.alloc (Obj.cells #[.int .i64 sz, .slice ao n cap] 114)).alloc (Obj.cells #[.pointer none] 160)).alloc (Obj.cells #[.int .i64 0] 3)).heap.size = w.heap.size + 1 + 1 + 1 := by simp
  have s4 : ((((w.alloc (Obj.cells #[.int .i64 sz, .slice ao n cap] 114)).alloc (Obj.cells #[.pointer none] 160)).alloc (Obj.cells #[.int .i64 0] 3)).alloc (Obj.cells #[.nilIface] 28)).heap.size = w.heap.size + 1 + 1 + 1 + 1 := by simp
  have x1 := Ext.alloc w (Obj.cells #[.int .i64 sz, .slice ao n cap] 114)
  have x2 := Ext.alloc (w.alloc (Obj.cells #[.int .i64 sz, .slice ao n cap] 114)) (Obj.cells #[.pointer none] 160)
  have x3 := Ext.alloc ((w.alloc (Obj.cells #[.int .i64 sz, .slice ao n cap] 114)).alloc (Obj.cells #[.pointer none] 160)) (Obj.cells #[.int .i64 0] 3)
  have x4 := Ext.alloc (((w.alloc (Obj.cells #[.int .i64 sz, .slice ao n cap] 114)).alloc (Obj.cells #[.pointer none] 160)).alloc (Obj.cells #[.int .i64 0] 3)) (Obj.cells #[.nilIface] 28)
  have B0 : BlkOf ((((w.alloc (Obj.cells #[.int .i64 sz, .slice ao n cap] 114)).alloc (Obj.cells #[.pointer none] 160)).alloc (Obj.cells #[.int .i64 0] 3)).alloc (Obj.cells #[.nilIface] 28)) w.heap.size [.int .i64 sz, .slice ao n cap] 114 := (((BlkOf.new w [.int .i64 sz, .slice ao n cap] 114).ext x2).ext x3).ext x4
  have B1 : BlkOf ((((w.alloc (Obj.cells #[.int .i64 sz, .slice ao n cap] 114)).alloc (Obj.cells #[.pointer none] 160)).alloc (Obj.cells #[.int .i64 0] 3)).alloc (Obj.cells #[.nilIface] 28)) (w.heap.size + 1) [.pointer none] 160 := by
    have := ((BlkOf.new (w.alloc (Obj.cells #[.int .i64 sz, .slice ao n cap] 114)) [.pointer none] 160).ext x3).ext x4
    rw [s1] at this; exact this
  have B2 : BlkOf ((((w.alloc (Obj.cells #[.int .i64 sz, .slice ao n cap] 114)).alloc (Obj.cells #[.pointer none] 160)).alloc (Obj.cells #[.int .i64 0] 3)).alloc (Obj.cells #[.nilIface] 28)) (w.heap.size + 1 + 1) [.int .i64 0] 3 := by
    have := (BlkOf.new ((w.alloc (Obj.cells #[.int .i64 sz, .slice ao n cap] 114)).alloc (Obj.cells #[.pointer none] 160)) [.int .i64 0] 3).ext x4
    rw [s2] at this; exact this
  have B3 : BlkOf ((((w.alloc (Obj.cells #[.int .i64 sz, .slice ao n cap] 114)).alloc (Obj.cells #[.pointer none] 160)).alloc (Obj.cells #[.int .i64 0] 3)).alloc (Obj.cells #[.nilIface] 28)) (w.heap.size + 1 + 1 + 1) [.nilIface] 28 := by
    have := BlkOf.new (((w.alloc (Obj.cells #[.int .i64 sz, .slice ao n cap] 114)).alloc (Obj.cells #[.pointer none] 160)).alloc (Obj.cells #[.int .i64 0] 3)) [.nilIface] 28
    rw [s3] at this; exact this
  have HXV := Lib.hid (((x1.trans x2).trans x3).trans x4)
  have HS4 := Lib.hid s4
  have HB0 := Lib.hid B0; have HB1 := Lib.hid B1; have HB2 := Lib.hid B2; have HB3 := Lib.hid B3
  clear s1 s2 s3 s4 x1 x2 x3 x4 B0 B1 B2 B3
  go_enter_defers Tryz.func81, Tryz.ntmps81
  go_upto_region 2 with (fail)
  generalize ((((w.alloc (Obj.cells #[.int .i64 sz, .slice ao n cap] 114)).alloc (Obj.cells #[.pointer none] 160)).alloc (Obj.cells #[.int .i64 0] 3)).alloc (Obj.cells #[.nilIface] 28)) = V at *
  obtain ⟨q, hq⟩ : ∃ q, w.heap.size = q := ⟨_, rfl⟩
  rw [hq] at HB0 HB1 HB2 HB3 HS4
  rw [hq]
  have HQ := Lib.hid hq
  clear hq
  have b0 : V.cell? ⟨q, 0, none⟩ = some (.int .i64 sz) := HB0.out.cell 0
  have b1 : V.cell? ⟨q, 1, none⟩ = some (.slice ao n cap) := HB0.out.cell 1
  have r1 : V.cell? ⟨q + 1, 0, none⟩ = some (.pointer none) := HB1.out.cell 0
  have r2 : V.cell? ⟨q + 1 + 1, 0, none⟩ = some (.int .i64 0) := HB2.out.cell 0
  have r3 : V.cell? ⟨q + 1 + 1 + 1, 0, none⟩ = some .nilIface := HB3.out.cell 0
  have f1 := HB1.out.free 0
  have f2 := HB2.out.free 0
  have f3 := HB3.out.free 0
  by_cases t1 : sz < 0
  · have d1 : decide (sz < 0) = true := by simpa using t1
    go_wp2_with fail
    have K := three_set (w0 := w) (u1 := .pointer none) (u2 := .int .i64 0) (u3 := .iface 60 (.int .i64 2)) HB1.out HB2.out HB3.out (by omega) (by omega) (by omega) HXV.out (by have := HQ.out; omega) (by have := HQ.out; omega) (by have := HQ.out; omega)
    exact ⟨_, res_begun K.1 K.2.1 K.2.2.1 _ rfl rfl rfl, by rw [fault2 HN.out (.inl t1)]; exact ⟨rfl, K.2.2.2⟩⟩
  have d1 : decide (sz < 0) = false := by simpa using t1
  by_cases t2 : 65536 < sz
  · have d2 : decide ((65536 : Int) < sz) = true := by simpa using t2
    go_wp2_with fail
    have K := three_set (w0 := w) (u1 := .pointer none) (u2 := .int .i64 0) (u3 := .iface 60 (.int .i64 2)) HB1.out HB2.out HB3.out (by omega) (by omega) (by omega) HXV.out (by have := HQ.out; omega) (by have := HQ.out; omega) (by have := HQ.out; omega)
    exact ⟨_, res_begun K.1 K.2.1 K.2.2.1 _ rfl rfl rfl, by rw [fault2 HN.out (.inr (.inl t2))]; exact ⟨rfl, K.2.2.2⟩⟩
  have d2 : decide ((65536 : Int) < sz) = false := by simpa using t2
  by_cases t3 : n = 0
  · have d3 : ((n : Int) == 0) = true := by rw [beq_iff_eq]; omega
    have T3 := Lib.hid t3
    clear t3
    go_wp2_with fail
    have K := three_set (w0 := w) (u1 := .pointer none) (u2 := .int .i64 0) (u3 := .iface 60 (.int .i64 2)) HB1.out HB2.out HB3.out (by omega) (by omega) (by omega) HXV.out (by have := HQ.out; omega) (by have := HQ.out; omega) (by have := HQ.out; omega)
    exact ⟨_, res_begun K.1 K.2.1 K.2.2.1 _ rfl rfl rfl, by rw [fault2 HN.out (.inr (.inr (.inl T3.out)))]; exact ⟨rfl, K.2.2.2⟩⟩
  have d3 : ((n : Int) == 0) = false := by rw [beq_eq_false_iff_ne]; omega
  by_cases t4 : 4096 < n
  · have d4 : decide ((4096 : Int) < n) = true := by rw [decide_eq_true_eq]; omega
    go_wp2_with fail
    have K := three_set (w0 := w) (u1 := .pointer none) (u2 := .int .i64 0) (u3 := .iface 60 (.int .i64 2)) HB1.out HB2.out HB3.out (by omega) (by omega) (by omega) HXV.out (by have := HQ.out; omega) (by have := HQ.out; omega) (by have := HQ.out; omega)
    exact ⟨_, res_begun K.1 K.2.1 K.2.2.1 _ rfl rfl rfl, by rw [fault2 HN.out (.inr (.inr (.inr (.inl t4))))]; exact ⟨rfl, K.2.2.2⟩⟩
  have d4 : decide ((4096 : Int) < n) = false := by rw [decide_eq_false_iff_not]; omega
  by_cases t5 : p < n
  · have d5 : decide (p < (n : Int)) = true := by simpa using t5
    go_wp2_with (go_at_call 116; refine (p_any (HF.out.ext HXV.out)).mono ?_; rintro e w' ⟨rfl, m, rfl⟩)
    have K := three_set (w0 := w) (u1 := .pointer none) (u2 := .int .i64 0) (u3 := .iface 60 (.int .i64 2)) (HB1.out.ext (Ext.drewN V m)) (HB2.out.ext (Ext.drewN V m)) (HB3.out.ext (Ext.drewN V m)) (by omega) (by omega) (by omega) (HXV.out.trans (Ext.drewN V m)) (by have := HQ.out; omega) (by have := HQ.out; omega) (by have := HQ.out; omega)
    exact ⟨_, res_begun K.1 K.2.1 K.2.2.1 _ rfl rfl rfl, by rw [fault2 HN.out (.inr (.inr (.inr (.inr t5))))]; exact ⟨rfl, K.2.2.2⟩⟩
  have d5 : decide (p < (n : Int)) = false := by simpa using t5
  have HNF : Hid (¬ (sz < 0 ∨ 65536 < sz ∨ n = 0 ∨ 4096 < n ∨ p < n)) := Lib.hid (by rintro (h | h | h | h | h) <;> contradiction)
  by_cases t6 : lim < 0
  · have d6 : decide (lim < 0) = true := by simpa using t6
    go_wp2_with (go_at_call 116; refine (p_any (HF.out.ext HXV.out)).mono ?_; rintro e w' ⟨rfl, m, rfl⟩)
    have K := three_set (w0 := w) (u1 := .pointer none) (u2 := .int .i64 0) (u3 := .iface 60 (.int .i64 3)) (HB1.out.ext (Ext.drewN V m)) (HB2.out.ext (Ext.drewN V m)) (HB3.out.ext (Ext.drewN V m)) (by omega) (by omega) (by omega) (HXV.out.trans (Ext.drewN V m)) (by have := HQ.out; omega) (by have := HQ.out; omega) (by have := HQ.out; omega)
    exact ⟨_, res_begun K.1 K.2.1 K.2.2.1 _ rfl rfl rfl, by rw [fault3 HN.out HNF.out (.inl t6)]; exact ⟨rfl, K.2.2.2⟩⟩
  have d6 : decide (lim < 0) = false := by simpa using t6
  by_cases t7 : 16384 < lim
  · have d7 : decide ((16384 : Int) < lim) = true := by simpa using t7
    go_wp2_with (go_at_call 116; refine (p_any (HF.out.ext HXV.out)).mono ?_; rintro e w' ⟨rfl, m, rfl⟩)
    have K := three_set (w0 := w) (u1 := .pointer none) (u2 := .int .i64 0) (u3 := .iface 60 (.int .i64 3)) (HB1.out.ext (Ext.drewN V m)) (HB2.out.ext (Ext.drewN V m)) (HB3.out.ext (Ext.drewN V m)) (by omega) (by omega) (by omega) (HXV.out.trans (Ext.drewN V m)) (by have := HQ.out; omega) (by have := HQ.out; omega) (by have := HQ.out; omega)
    exact ⟨_, res_begun K.1 K.2.1 K.2.2.1 _ rfl rfl rfl, by rw [fault3 HN.out HNF.out (.inr t7)]; exact ⟨rfl, K.2.2.2⟩⟩
  have d7 : decide ((16384 : Int) < lim) = false := by simpa using t7
  have hw1 : IntKind.i64.wrap (1 + sz) = 1 + sz := IntWalk.i64_in _ (by omega)
  go_wp2_with (go_at_call 116; refine (p_any (HF.out.ext HXV.out)).mono ?_; rintro e w' ⟨rfl, m, rfl⟩)
  have HXV1 := Lib.hid (HXV.out.trans (Ext.drewN V m)); have HS1 : Hid ((V.drewN m).heap.size = q + 1 + 1 + 1 + 1) := HS4
  replace HB0 := Lib.hid (HB0.out.ext (Ext.drewN V m)); replace HB1 := Lib.hid (HB1.out.ext (Ext.drewN V m)); replace HB2 := Lib.hid (HB2.out.ext (Ext.drewN V m)); replace HB3 := Lib.hid (HB3.out.ext (Ext.drewN V m))
  clear b0 b1 r1 r2 r3 f1 f2 f3 HXV HS4 d1 d2 d3 d4 d5 d6 d7 hll
  generalize V.drewN m = V1 at *
  have b0 : V1.cell? ⟨q, 0, none⟩ = some (.int .i64 sz) := HB0.out.cell 0
  have b1 : V1.cell? ⟨q, 1, none⟩ = some (.slice ao n cap) := HB0.out.cell 1
  have r1 : V1.cell? ⟨q + 1, 0, none⟩ = some (.pointer none) := HB1.out.cell 0
  have f1 := HB1.out.free 0
  obtain ⟨G, hG⟩ : ∃ G : World → World, ∀ W, Tmem Tryz.prog 3 W V1.heap.size 0 [] → (Instr.mapUpdate 163 (.map (some V1.heap.size)) (.int .i64 0) (.int .i64 0)).run Tryz.prog W = .ok () (G W) ∧ Tmem Tryz.prog 3 (G W) V1.heap.size 1 [(0, 0)] ∧ W.grownBy (G W) (some V1.heap.size) := by
    refine Classical.axiomOfChoice (r := fun (W w' : World) => Tmem Tryz.prog 3 W V1.heap.size 0 [] → (Instr.mapUpdate 163 (.map (some V1.heap.size)) (.int .i64 0) (.int .i64 0)).run Tryz.prog W = .ok () w' ∧ Tmem Tryz.prog 3 w' V1.heap.size 1 [(0, 0)] ∧ W.grownBy w' (some V1.heap.size)) (fun W => ?_)
    by_cases h : Tmem Tryz.prog 3 W V1.heap.size 0 []
    · obtain ⟨w', h1, h2, h3⟩ := h.store Tryz.underlying3 Tryz.underlying163 (by omega) (k := 0) (v := 0) (by omega) (by omega) (by omega) (by omega) (mem' := [(0, 0)]) (.inl ⟨rfl, rfl⟩)
      exact ⟨w', fun _ => ⟨h1, h2, h3⟩⟩
    · exact ⟨W, fun h' => absurd h' h⟩
  have hA : Tmem Tryz.prog 3 (V1.alloc (Obj.map #[] 0)) V1.heap.size 0 [] := ⟨0, _, by omega, World.ownsMap_made _ _ _ _, MemD.nil⟩
  have hE : ∀ W W' : World, Ext V1 W → W.grownBy W' (some V1.heap.size) → Ext V1 W' := fun W W' h1 h2 => Below.grown h1 h2 h1.size (fun k hk => by have := Option.some.inj hk; omega)
  have hA0 : Tmem Tryz.prog 3 ((V1.alloc (Obj.map #[] 0)).drew) V1.heap.size 0 [] := hA.kept ((Ext.drew _).grownBy none) (by simp)
  have hi0 : (Instr.mapUpdate 163 (.map (some V1.heap.size)) (.int .i64 0) (.int .i64 0)).run Tryz.prog ((V1.alloc (Obj.map #[] 0)).drew) = .ok () (G ((V1.alloc (Obj.map #[] 0)).drew)) := (hG _ (hA0)).1
  have hT0 : Tmem Tryz.prog 3 (G ((V1.alloc (Obj.map #[] 0)).drew)) V1.heap.size 1 [(0, 0)] := (hG _ (hA0)).2.1
  have hE0 : Ext V1 (G ((V1.alloc (Obj.map #[] 0)).drew)) := hE _ _ ((Ext.alloc V1 _).trans (Ext.drew _)) (hG _ (hA0)).2.2
  have hc0a : ∀  (o : Obj), ((G ((V1.alloc (Obj.map #[] 0)).drew)).alloc o).cell? ⟨q + 1, 0, none⟩ = some (.pointer none) := fun  o => ((hE0).trans (Ext.alloc _ o)).cell r1
  have hf0a : ∀  (o : Obj), ((G ((V1.alloc (Obj.map #[] 0)).drew)).alloc o).frozen? ⟨q + 1, 0, none⟩ = false := fun  o => (HB1.out.ext ((hE0).trans (Ext.alloc _ o))).free 0
  have hc0b : ∀  (i : Nat) (o : Obj), (((G ((V1.alloc (Obj.map #[] 0)).drew)).drewN i).alloc o).cell? ⟨q + 1, 0, none⟩ = some (.pointer none) := fun  i o => (((hE0).trans (Ext.drewN _ i)).trans (Ext.alloc _ o)).cell r1
  have hf0b : ∀  (i : Nat) (o : Obj), (((G ((V1.alloc (Obj.map #[] 0)).drew)).drewN i).alloc o).frozen? ⟨q + 1, 0, none⟩ = false := fun  i o => (HB1.out.ext (((hE0).trans (Ext.drewN _ i)).trans (Ext.alloc _ o))).free 0
  have HT0 := Lib.hid hT0; have HE0 := Lib.hid hE0
  have hA1 : ∀ (k : Nat), Tmem Tryz.prog 3 ((V1.alloc (Obj.map #[] 0)).drewN k) V1.heap.size 0 [] := fun k => hA.kept ((Ext.drewN _ k).grownBy none) (by simp)
  have hi1 : ∀ (k : Nat), (Instr.mapUpdate 163 (.map (some V1.heap.size)) (.int .i64 0) (.int .i64 0)).run Tryz.prog ((V1.alloc (Obj.map #[] 0)).drewN k) = .ok () (G ((V1.alloc (Obj.map #[] 0)).drewN k)) := fun k => (hG _ (hA1 k)).1
  have hT1 : ∀ (k : Nat), Tmem Tryz.prog 3 (G ((V1.alloc (Obj.map #[] 0)).drewN k)) V1.heap.size 1 [(0, 0)] := fun k => (hG _ (hA1 k)).2.1
  have hE1 : ∀ (k : Nat), Ext V1 (G ((V1.alloc (Obj.map #[] 0)).drewN k)) := fun k => hE _ _ ((Ext.alloc V1 _).trans (Ext.drewN _ k)) (hG _ (hA1 k)).2.2
  have hc1a : ∀ (k : Nat) (o : Obj), ((G ((V1.alloc (Obj.map #[] 0)).drewN k)).alloc o).cell? ⟨q + 1, 0, none⟩ = some (.pointer none) := fun k o => ((hE1 k).trans (Ext.alloc _ o)).cell r1
  have hf1a : ∀ (k : Nat) (o : Obj), ((G ((V1.alloc (Obj.map #[] 0)).drewN k)).alloc o).frozen? ⟨q + 1, 0, none⟩ = false := fun k o => (HB1.out.ext ((hE1 k).trans (Ext.alloc _ o))).free 0
  have hc1b : ∀ (k : Nat) (i : Nat) (o : Obj), (((G ((V1.alloc (Obj.map #[] 0)).drewN k)).drewN i).alloc o).cell? ⟨q + 1, 0, none⟩ = some (.pointer none) := fun k i o => (((hE1 k).trans (Ext.drewN _ i)).trans (Ext.alloc _ o)).cell r1
  have hf1b : ∀ (k : Nat) (i : Nat) (o : Obj), (((G ((V1.alloc (Obj.map #[] 0)).drewN k)).drewN i).alloc o).frozen? ⟨q + 1, 0, none⟩ = false := fun k i o => (HB1.out.ext (((hE1 k).trans (Ext.drewN _ i)).trans (Ext.alloc _ o))).free 0
  have HT1 := Lib.hid hT1; have HE1 := Lib.hid hE1
  have hA2 : ∀ (k : Nat), Tmem Tryz.prog 3 ((V1.drewN k).alloc (Obj.map #[] 0)) V1.heap.size 0 [] := fun k => ⟨0, _, by omega, World.ownsMap_made _ _ _ _, MemD.nil⟩
  have hi2 : ∀ (k : Nat), (Instr.mapUpdate 163 (.map (some V1.heap.size)) (.int .i64 0) (.int .i64 0)).run Tryz.prog ((V1.drewN k).alloc (Obj.map #[] 0)) = .ok () (G ((V1.drewN k).alloc (Obj.map #[] 0))) := fun k => (hG _ (hA2 k)).1
  have hT2 : ∀ (k : Nat), Tmem Tryz.prog 3 (G ((V1.drewN k).alloc (Obj.map #[] 0))) V1.heap.size 1 [(0, 0)] := fun k => (hG _ (hA2 k)).2.1
  have hE2 : ∀ (k : Nat), Ext V1 (G ((V1.drewN k).alloc (Obj.map #[] 0))) := fun k => hE _ _ ((Ext.drewN V1 k).trans (Ext.alloc _ _)) (hG _ (hA2 k)).2.2
  have hc2a : ∀ (k : Nat) (o : Obj), ((G ((V1.drewN k).alloc (Obj.map #[] 0))).alloc o).cell? ⟨q + 1, 0, none⟩ = some (.pointer none) := fun k o => ((hE2 k).trans (Ext.alloc _ o)).cell r1
  have hf2a : ∀ (k : Nat) (o : Obj), ((G ((V1.drewN k).alloc (Obj.map #[] 0))).alloc o).frozen? ⟨q + 1, 0, none⟩ = false := fun k o => (HB1.out.ext ((hE2 k).trans (Ext.alloc _ o))).free 0
  have hc2b : ∀ (k : Nat) (i : Nat) (o : Obj), (((G ((V1.drewN k).alloc (Obj.map #[] 0))).drewN i).alloc o).cell? ⟨q + 1, 0, none⟩ = some (.pointer none) := fun k i o => (((hE2 k).trans (Ext.drewN _ i)).trans (Ext.alloc _ o)).cell r1
  have hf2b : ∀ (k : Nat) (i : Nat) (o : Obj), (((G ((V1.drewN k).alloc (Obj.map #[] 0))).drewN i).alloc o).frozen? ⟨q + 1, 0, none⟩ = false := fun k i o => (HB1.out.ext (((hE2 k).trans (Ext.drewN _ i)).trans (Ext.alloc _ o))).free 0
  have HT2 := Lib.hid hT2; have HE2 := Lib.hid hE2
  have hA3 : ∀ (k j : Nat), Tmem Tryz.prog 3 (((V1.drewN k).alloc (Obj.map #[] 0)).drewN j) V1.heap.size 0 [] := fun k j => (hA2 k).kept ((Ext.drewN _ j).grownBy none) (by simp)
  have hi3 : ∀ (k j : Nat), (Instr.mapUpdate 163 (.map (some V1.heap.size)) (.int .i64 0) (.int .i64 0)).run Tryz.prog (((V1.drewN k).alloc (Obj.map #[] 0)).drewN j) = .ok () (G (((V1.drewN k).alloc (Obj.map #[] 0)).drewN j)) := fun k j => (hG _ (hA3 k j)).1
  have hT3 : ∀ (k j : Nat), Tmem Tryz.prog 3 (G (((V1.drewN k).alloc (Obj.map #[] 0)).drewN j)) V1.heap.size 1 [(0, 0)] := fun k j => (hG _ (hA3 k j)).2.1
  have hE3 : ∀ (k j : Nat), Ext V1 (G (((V1.drewN k).alloc (Obj.map #[] 0)).drewN j)) := fun k j => hE _ _ (((Ext.drewN V1 k).trans (Ext.alloc _ _)).trans (Ext.drewN _ j)) (hG _ (hA3 k j)).2.2
  have hc3a : ∀ (k j : Nat) (o : Obj), ((G (((V1.drewN k).alloc (Obj.map #[] 0)).drewN j)).alloc o).cell? ⟨q + 1, 0, none⟩ = some (.pointer none) := fun k j o => ((hE3 k j).trans (Ext.alloc _ o)).cell r1
  have hf3a : ∀ (k j : Nat) (o : Obj), ((G (((V1.drewN k).alloc (Obj.map #[] 0)).drewN j)).alloc o).frozen? ⟨q + 1, 0, none⟩ = false := fun k j o => (HB1.out.ext ((hE3 k j).trans (Ext.alloc _ o))).free 0
  have hc3b : ∀ (k j : Nat) (i : Nat) (o : Obj), (((G (((V1.drewN k).alloc (Obj.map #[] 0)).drewN j)).drewN i).alloc o).cell? ⟨q + 1, 0, none⟩ = some (.pointer none) := fun k j i o => (((hE3 k j).trans (Ext.drewN _ i)).trans (Ext.alloc _ o)).cell r1
  have hf3b : ∀ (k j : Nat) (i : Nat) (o : Obj), (((G (((V1.drewN k).alloc (Obj.map #[] 0)).drewN j)).drewN i).alloc o).frozen? ⟨q + 1, 0, none⟩ = false := fun k j i o => (HB1.out.ext (((hE3 k j).trans (Ext.drewN _ i)).trans (Ext.alloc _ o))).free 0
  have HT3 := Lib.hid hT3; have HE3 := Lib.hid hE3
  clear hE hG hA hA0 hT0 hE0 hA1 hT1 hE1 hA2 hT2 hE2 hA3 hT3 hE3
  go_region_held3 (fun w' => w'.cell? ⟨q, 0, none⟩ = some (.int .i64 sz) ∧ w'.cell? ⟨q, 1, none⟩ = some (.slice ao n cap)) (first | (with_reducible exact ⟨(Ext.drew V1).cell b0, (Ext.drew V1).cell b1⟩) | (with_reducible exact ⟨(Ext.drewN V1 _).cell b0, (Ext.drewN V1 _).cell b1⟩) | (with_reducible exact ⟨((Ext.alloc V1 _).trans (Ext.drew _)).cell b0, ((Ext.alloc V1 _).trans (Ext.drew _)).cell b1⟩) | (with_reducible exact ⟨((Ext.alloc V1 _).trans (Ext.drewN _ _)).cell b0, ((Ext.alloc V1 _).trans (Ext.drewN _ _)).cell b1⟩) | (with_reducible exact ⟨((Ext.drewN V1 _).trans (Ext.alloc _ _)).cell b0, ((Ext.drewN V1 _).trans (Ext.alloc _ _)).cell b1⟩) | (with_reducible exact ⟨(((Ext.drewN V1 _).trans (Ext.alloc _ _)).trans (Ext.drewN _ _)).cell b0, (((Ext.drewN V1 _).trans (Ext.alloc _ _)).trans (Ext.drewN _ _)).cell b1⟩) | (with_reducible exact ⟨(HE0.out).cell b0, (HE0.out).cell b1⟩) | (with_reducible exact ⟨(HE1.out _).cell b0, (HE1.out _).cell b1⟩) | (with_reducible exact ⟨(HE2.out _).cell b0, (HE2.out _).cell b1⟩) | (with_reducible exact ⟨(HE3.out _ _).cell b0, (HE3.out _ _).cell b1⟩) | (with_reducible exact ⟨((HE0.out).trans (Ext.drewN _ _)).cell b0, ((HE0.out).trans (Ext.drewN _ _)).cell b1⟩) | (with_reducible exact ⟨((HE1.out _).trans (Ext.drewN _ _)).cell b0, ((HE1.out _).trans (Ext.drewN _ _)).cell b1⟩) | (with_reducible exact ⟨((HE2.out _).trans (Ext.drewN _ _)).cell b0, ((HE2.out _).trans (Ext.drewN _ _)).cell b1⟩) | (with_reducible exact ⟨((HE3.out _ _).trans (Ext.drewN _ _)).cell b0, ((HE3.out _ _).trans (Ext.drewN _ _)).cell b1⟩) | (with_reducible exact ⟨((HE0.out).trans (Ext.alloc _ _)).cell b0, ((HE0.out).trans (Ext.alloc _ _)).cell b1⟩) | (with_reducible exact ⟨((HE1.out _).trans (Ext.alloc _ _)).cell b0, ((HE1.out _).trans (Ext.alloc _ _)).cell b1⟩) | (with_reducible exact ⟨((HE2.out _).trans (Ext.alloc _ _)).cell b0, ((HE2.out _).trans (Ext.alloc _ _)).cell b1⟩) | (with_reducible exact ⟨((HE3.out _ _).trans (Ext.alloc _ _)).cell b0, ((HE3.out _ _).trans (Ext.alloc _ _)).cell b1⟩) | (with_reducible exact ⟨(((HE0.out).trans (Ext.drewN _ _)).trans (Ext.alloc _ _)).cell b0, (((HE0.out).trans (Ext.drewN _ _)).trans (Ext.alloc _ _)).cell b1⟩) | (with_reducible exact ⟨(((HE1.out _).trans (Ext.drewN _ _)).trans (Ext.alloc _ _)).cell b0, (((HE1.out _).trans (Ext.drewN _ _)).trans (Ext.alloc _ _)).cell b1⟩) | (with_reducible exact ⟨(((HE2.out _).trans (Ext.drewN _ _)).trans (Ext.alloc _ _)).cell b0, (((HE2.out _).trans (Ext.drewN _ _)).trans (Ext.alloc _ _)).cell b1⟩) | (with_reducible exact ⟨(((HE3.out _ _).trans (Ext.drewN _ _)).trans (Ext.alloc _ _)).cell b0, (((HE3.out _ _).trans (Ext.drewN _ _)).trans (Ext.alloc _ _)).cell b1⟩) | (refine ⟨(World.cell?_setCell_other _ _ _ _ (by simp)).trans ?_, (World.cell?_setCell_other _ _ _ _ (by simp)).trans ?_⟩ <;> (first | (with_reducible exact ((HE0.out).trans (Ext.alloc _ _)).cell b0) | (with_reducible exact ((HE1.out _).trans (Ext.alloc _ _)).cell b0) | (with_reducible exact ((HE2.out _).trans (Ext.alloc _ _)).cell b0) | (with_reducible exact ((HE3.out _ _).trans (Ext.alloc _ _)).cell b0) | (with_reducible exact (((HE0.out).trans (Ext.drewN _ _)).trans (Ext.alloc _ _)).cell b0) | (with_reducible exact (((HE1.out _).trans (Ext.drewN _ _)).trans (Ext.alloc _ _)).cell b0) | (with_reducible exact (((HE2.out _).trans (Ext.drewN _ _)).trans (Ext.alloc _ _)).cell b0) | (with_reducible exact (((HE3.out _ _).trans (Ext.drewN _ _)).trans (Ext.alloc _ _)).cell b0) | (with_reducible exact ((HE0.out).trans (Ext.alloc _ _)).cell b1) | (with_reducible exact ((HE1.out _).trans (Ext.alloc _ _)).cell b1) | (with_reducible exact ((HE2.out _).trans (Ext.alloc _ _)).cell b1) | (with_reducible exact ((HE3.out _ _).trans (Ext.alloc _ _)).cell b1) | (with_reducible exact (((HE0.out).trans (Ext.drewN _ _)).trans (Ext.alloc _ _)).cell b1) | (with_reducible exact (((HE1.out _).trans (Ext.drewN _ _)).trans (Ext.alloc _ _)).cell b1) | (with_reducible exact (((HE2.out _).trans (Ext.drewN _ _)).trans (Ext.alloc _ _)).cell b1) | (with_reducible exact (((HE3.out _ _).trans (Ext.drewN _ _)).trans (Ext.alloc _ _)).cell b1)))) (first | (go_at_call 33; (first | (with_reducible refine (of_any (HF.out.ext (HXV1.out.trans (Ext.drew V1))) _).mono ?_) | (with_reducible refine (of_any (HF.out.ext (HXV1.out.trans (Ext.drewN V1 _))) _).mono ?_) | (with_reducible refine (of_any (HF.out.ext (HXV1.out.trans ((Ext.alloc V1 _).trans (Ext.drew _)))) _).mono ?_) | (with_reducible refine (of_any (HF.out.ext (HXV1.out.trans ((Ext.alloc V1 _).trans (Ext.drewN _ _)))) _).mono ?_) | (with_reducible refine (of_any (HF.out.ext (HXV1.out.trans ((Ext.drewN V1 _).trans (Ext.alloc _ _)))) _).mono ?_) | (with_reducible refine (of_any (HF.out.ext (HXV1.out.trans (((Ext.drewN V1 _).trans (Ext.alloc _ _)).trans (Ext.drewN _ _)))) _).mono ?_) | (with_reducible refine (of_any (HF.out.ext (HXV1.out.trans (HE0.out))) _).mono ?_) | (with_reducible refine (of_any (HF.out.ext (HXV1.out.trans (HE1.out _))) _).mono ?_) | (with_reducible refine (of_any (HF.out.ext (HXV1.out.trans (HE2.out _))) _).mono ?_) | (with_reducible refine (of_any (HF.out.ext (HXV1.out.trans (HE3.out _ _))) _).mono ?_) | (with_reducible refine (of_any (HF.out.ext (HXV1.out.trans ((HE0.out).trans (Ext.drewN _ _)))) _).mono ?_) | (with_reducible refine (of_any (HF.out.ext (HXV1.out.trans ((HE1.out _).trans (Ext.drewN _ _)))) _).mono ?_) | (with_reducible refine (of_any (HF.out.ext (HXV1.out.trans ((HE2.out _).trans (Ext.drewN _ _)))) _).mono ?_) | (with_reducible refine (of_any (HF.out.ext (HXV1.out.trans ((HE3.out _ _).trans (Ext.drewN _ _)))) _).mono ?_)); rintro e mw ⟨rfl, m1, rfl⟩))
  all_goals
    rename_i hHeld; clear hHeld
    generalize hW : World.setCell _ _ _ = W6
    generalize hb : (G _).heap.size = b at hW ⊢
    have H6 := beg_eq (V1 := V1) (w := w) hW (show _ = _ from hb) (by first | exact HT0.out | exact HT1.out _ | exact HT2.out _ | exact HT3.out _ _ | exact HT0.out.kept ((Ext.drewN _ _).grownBy none) (by simp) | exact (HT1.out _).kept ((Ext.drewN _ _).grownBy none) (by simp) | exact (HT2.out _).kept ((Ext.drewN _ _).grownBy none) (by simp) | exact (HT3.out _ _).kept ((Ext.drewN _ _).grownBy none) (by simp)) (by first | exact HE0.out | exact HE1.out _ | exact HE2.out _ | exact HE3.out _ _ | exact HE0.out.trans (Ext.drewN _ _) | exact (HE1.out _).trans (Ext.drewN _ _) | exact (HE2.out _).trans (Ext.drewN _ _) | exact (HE3.out _ _).trans (Ext.drewN _ _)) rfl HB1.out HXV1.out (by have := HQ.out; omega) HF.out (show Inqs w _ cd from by have := HC.out; rw [HN.out] at this; exact this) t6 (fault0 HN.out HNF.out (by omega)).symm
    obtain ⟨H6, H6b⟩ := H6
    have hg0 := setCell_grown V1 (q + 1) 0 (.pointer (some ⟨b, 0, none⟩))
    have k1 : BlkOf (V1.setCell ⟨q + 1, 0, none⟩ (.pointer (some ⟨b, 0, none⟩))) (q + 1) [.pointer (some ⟨b, 0, none⟩)] 160 := HB1.out.set 0 (.pointer (some ⟨b, 0, none⟩))
    have k2 : BlkOf (V1.setCell ⟨q + 1, 0, none⟩ (.pointer (some ⟨b, 0, none⟩))) (q + 1 + 1) [.int .i64 0] 3 := HB2.out.grown hg0 (fun e => by have := Option.some.inj e; omega)
    have k3 : BlkOf (V1.setCell ⟨q + 1, 0, none⟩ (.pointer (some ⟨b, 0, none⟩))) (q + 1 + 1 + 1) [.nilIface] 28 := HB3.out.grown hg0 (fun e => by have := Option.some.inj e; omega)
    have hq0 : w.heap.size = q := HQ.out
    have kx : Ext w (V1.setCell ⟨q + 1, 0, none⟩ (.pointer (some ⟨b, 0, none⟩))) := Below.setCell HXV1.out (show w.heap.size ≤ q + 1 by omega) _
    have c1 : W6.cell? ⟨q + 1, 0, none⟩ = some (.pointer (some ⟨b, 0, none⟩)) := H6b.cell 0
    have hsz : (V1.setCell ⟨q + 1, 0, none⟩ (.pointer (some ⟨b, 0, none⟩))).heap.size = q + 1 + 1 + 1 + 1 := by have := HS1.out; simp at this ⊢; omega
    have HR6 := Lib.hid H6; have K1 := Lib.hid k1; have K2 := Lib.hid k2; have K3 := Lib.hid k3; have KX := Lib.hid kx; have HSZ := Lib.hid hsz
    clear H6 H6b hg0 k1 k2 k3 kx hsz b0 b1 r1 f1 hi0 hi1 hi2 hi3 hc0a hc0b hc1a hc1b hc2a hc2b hc3a hc3b hf0a hf0b hf1a hf1b hf2a hf2b hf3a hf3b HT0 HT1 HT2 HT3 HE0 HE1 HE2 HE3 hW hb HB0 HB1 HB2 HB3
    generalize (V1.setCell ⟨q + 1, 0, none⟩ (.pointer (some ⟨b, 0, none⟩))) = W0 at *
    go_wp2_with fail
    refine (mrun_any bf _ lim t7 HR6.out).mono ?_
    intro e w7 h7
    cases hR : walkM p sz cd lim with
    | no k =>
      rw [hR] at h7
      obtain ⟨rfl, hx7⟩ := h7
      have HX7 := Lib.hid hx7; have HRR := Lib.hid hR
      clear hx7 hR
      go_wp2_with fail
      refine leaves_cons (f := 117) (args := #[.pointer (some ⟨q + 1, 0, none⟩), .pointer (some ⟨q + 1 + 1, 0, none⟩), .pointer (some ⟨q + 1 + 1 + 1, 0, none⟩)]) (by simp) (by simp [go_sem]) ?_
      refine (mcatch_stops _ _ _ k [] _ (K1.out.ext HX7.out) (K2.out.ext HX7.out) (K3.out.ext HX7.out) (by omega) (by omega) (by omega)).mono ?_
      rintro e u' w'' ⟨rfl, rfl, z1, z2, z3, zx⟩
      refine ⟨_, res_begun z1 z2 z3 _ rfl rfl rfl, ?_⟩
      exact ⟨rfl, zx w (KX.out.trans HX7.out) (by omega) (by omega) (by omega)⟩
    | done l out mem =>
      rw [hR] at h7
      obtain ⟨rfl, s', n', sv, dn, hm7, hmem, hll, ho7⟩ := h7
      have HRR := Lib.hid hR; have HM7 := Lib.hid hm7; have HMEM := Lib.hid hmem; have HLL := Lib.hid hll; have HO7 := Lib.hid ho7
      have j1 := K1.out.ext hm7.ext
      have j2 := K2.out.ext hm7.ext
      have j3 := K3.out.ext hm7.ext
      have l1 : w7.cell? ⟨q + 1, 0, none⟩ = some (.pointer (some ⟨b, 0, none⟩)) := j1.cell 0
      have l2 : w7.cell? ⟨q + 1 + 1, 0, none⟩ = some (.int .i64 0) := j2.cell 0
      have l3 : w7.cell? ⟨q + 1 + 1 + 1, 0, none⟩ = some .nilIface := j3.cell 0
      have g1 := j1.free 0
      have g2 := j2.free 0
      have g3 := j3.free 0
      have J1 := Lib.hid j1; have J2 := Lib.hid j2; have J3 := Lib.hid j3
      clear hR hm7 hmem hll ho7 j1 j2 j3 c1
      go_wp2_with fail
      have G8 := setCell_grown w7 (q + 1 + 1) 0 (.int .i64 out)
      have hbge : q + 1 + 1 + 1 + 1 ≤ b := by have := HM7.out.nb; have := HSZ.out; omega
      have hmge : q + 1 + 1 + 1 + 1 ≤ V1.heap.size := by have := HM7.out.nm; have := HSZ.out; omega
      have j1 := J1.out.grown G8 (fun e => by have := Option.some.inj e; omega)
      have j2 := J2.out.set 0 (.int .i64 out)
      have j3 := J3.out.grown G8 (fun e => by have := Option.some.inj e; omega)
      have jb := HM7.out.blk.grown G8 (fun e => by have := Option.some.inj e; omega)
      have jm := HM7.out.told.kept G8 (fun e => by have := Option.some.inj e; omega)
      have ho0 := HO7.out
      rw [HSZ.out] at ho0
      have jo := (Turned.one (c := q + 1 + 1) G8).own ho0 (fun e => by have := (ho0.lt _ e).1; omega) (fun e => by have := (ho0.lt _ e).1; omega)
      have jx : Ext w (w7.setCell ⟨q + 1 + 1, 0, none⟩ (.int .i64 out)) := Below.setCell (KX.out.trans HM7.out.ext) (show w.heap.size ≤ q + 1 + 1 by omega) _
      clear G8 l1 l2 l3 g1 g2 g3 J1 J2 J3 ho0 K1 K2 K3 HR6
      have HBG := Lib.hid hbge; have HMG := Lib.hid hmge
      clear hbge hmge
      generalize w7.setCell ⟨q + 1 + 1, 0, none⟩ (.int .i64 out) = W8 at *
      have l1 : W8.cell? ⟨q + 1, 0, none⟩ = some (.pointer (some ⟨b, 0, none⟩)) := j1.cell 0
      have l2 : W8.cell? ⟨q + 1 + 1, 0, none⟩ = some (.int .i64 out) := j2.cell 0
      have l3 : W8.cell? ⟨q + 1 + 1 + 1, 0, none⟩ = some .nilIface := j3.cell 0
      have g1 := j1.free 0
      have g2 := j2.free 0
      have g3 := j3.free 0
      have J1 := Lib.hid j1; have J2 := Lib.hid j2; have J3 := Lib.hid j3; have JB := Lib.hid jb; have JM := Lib.hid jm; have JO := Lib.hid jo; have JX := Lib.hid jx
      clear j1 j2 j3 jb jm jo jx
      have z1 : (W8.setCell ⟨q + 1, 0, none⟩ (.pointer (some ⟨b, 0, none⟩))).cell? ⟨q + 1, 0, none⟩ = some (.pointer (some ⟨b, 0, none⟩)) := World.cell?_setCell_same _ _ _ l1
      have z2 : ((W8.setCell ⟨q + 1, 0, none⟩ (.pointer (some ⟨b, 0, none⟩))).setCell ⟨q + 1 + 1, 0, none⟩ (.int .i64 out)).cell? ⟨q + 1 + 1, 0, none⟩ = some (.int .i64 out) := World.cell?_setCell_same _ _ _ ((World.cell?_setCell_other _ _ _ _ (by simp)).trans l2)
      go_region_held3 (fun w' => w'.cell? ⟨q + 1, 0, none⟩ = some (.pointer (some ⟨b, 0, none⟩)) ∧ w'.cell? ⟨q + 1 + 1, 0, none⟩ = some (.int .i64 out)) (first | exact ⟨l1, l2⟩ | exact ⟨z1, (World.cell?_setCell_other _ _ _ _ (by simp)).trans l2⟩ | exact ⟨(World.cell?_setCell_other _ _ _ _ (by simp)).trans z1, z2⟩ | exact ⟨(World.cell?_setCell_other _ _ _ _ (by simp)).trans ((World.cell?_setCell_other _ _ _ _ (by simp)).trans z1), (World.cell?_setCell_other _ _ _ _ (by simp)).trans z2⟩) (fail)
      rename_i hHeld; clear hHeld
      go_wp2_with fail
      have K := three_set (w0 := w) (u1 := .pointer (some ⟨b, 0, none⟩)) (u2 := .int .i64 out) (u3 := .nilIface) J1.out J2.out J3.out (by omega) (by omega) (by omega) JX.out (by omega) (by omega) (by omega)
      have Kf := fin_keep (W8 := W8) (r1 := q + 1) (r2 := q + 1 + 1) (r3 := q + 1 + 1 + 1) (B := q + 1 + 1 + 1 + 1) (u1 := .pointer (some ⟨b, 0, none⟩)) (u2 := .int .i64 out) (u3 := .nilIface) (by omega) (by omega) (by omega)
      have hb9 := Kf.1 _ _ _ JB.out HBG.out
      have hm9 := Kf.2.1 _ _ _ _ _ JM.out HMG.out
      have ho9 := ownrow_lower (Kf.2.2 _ _ _ _ _ JO.out) (B' := w.heap.size) (by omega)
      rw [HMEM.out] at hm9
      have hmb := HM7.out.ok.mem
      rw [HMEM.out] at hmb
      have hdn := HM7.out.dnb
      have hll := HLL.out
      have hbge := HBG.out
      have hmge := HMG.out
      have hc16 := hb9.cell 16
      have hdl : (l.length : Int) - 1 = dn := by omega
      refine leaves_cons (f := 117) (args := #[.pointer (some ⟨q + 1, 0, none⟩), .pointer (some ⟨q + 1 + 1, 0, none⟩), .pointer (some ⟨q + 1 + 1 + 1, 0, none⟩)]) (by simp) (by simp [go_sem]) ?_
      refine (mcatch_idle _ _ _ _).mono ?_
      rintro e u' w'' ⟨rfl, rfl, rfl⟩
      refine ⟨_, res_begun (K.1.ext (Ext.drew _)) (K.2.1.ext (Ext.drew _)) (K.2.2.1.ext (Ext.drew _)) _ rfl rfl rfl, ?_⟩
      rw [HRR.out]
      exact ⟨b, V1.heap.size, _, sv, n', rfl, hb9.cell 3, hb9.cell 15, by rw [hdl]; exact hc16, hb9, hm9, hmb, by omega, by omega, by omega, by omega, ho9, Ext.trans K.2.2.2 (Ext.drew _)⟩
end
end Go.Proofs.YtgnomhbbbcfehaaGreatDoor
