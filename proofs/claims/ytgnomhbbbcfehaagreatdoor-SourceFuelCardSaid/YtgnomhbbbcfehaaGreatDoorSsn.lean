/- A text's reader, the program's side: Parse: contract. Printed by wip/mkpa.py. -/
import Derived.Test.YtgnomhbbbcfehaaGreatDoorSsm
namespace Go.Att
theorem fun_gt2 {L : List UInt8} {i j : Nat} {x : Fn} (hi : i ≤ L.length) (h : funT L i = .ok x j) : nxtN L i < j ∧ j ≤ L.length := by
  unfold funT at h
  obtain ⟨_, m, e1, h⟩ := bind_ok.mp h
  obtain ⟨e2, rfl⟩ := must_ok.mp e1
  have a2 := nxtN_le L i hi
  obtain ⟨_, m, e1, h⟩ := bind_ok.mp h
  obtain ⟨a3, a4⟩ := wt_name _ _ _ a2 e1
  obtain ⟨_, m, e1, h⟩ := bind_ok.mp h
  obtain ⟨a5, a6⟩ := mono_list mono_name _ _ _ _ a4 e1
  obtain ⟨_, m, e1, h⟩ := bind_ok.mp h
  obtain ⟨a7, a8⟩ := wt_must a6 e1
  obtain ⟨_, m, e1, h⟩ := bind_ok.mp h
  obtain ⟨a9, a10⟩ := (mono_read 65).2 _ _ _ a8 e1
  cases h
  exact ⟨by dsimp only at a3; omega, a10⟩
theorem wei_each {fs : List Fn} {n : Nat} (h : (fs.map weiF).sum ≤ n) : ∀ f ∈ fs, weiF f ≤ n := by
  induction fs with
  | nil => intro f hf; cases hf
  | cons g fs ih =>
    intro f hf
    rw [List.map_cons, List.sum_cons] at h
    rcases List.mem_cons.mp hf with e | e
    · subst e; omega
    · exact ih (by omega) f e
def OrHaltD (F : Act → Prop) (R : List PanicEntry → World → Prop) (Q : Exit → Act → World → Prop) : Exit → Act → World → Prop
  | .panic c, a, w => F a ∧ R c w
  | e, a, w => Q e a w
theorem wp_region_haltD {P : Program} {id : Nat} {ops : Array Oper} {b : Bool} {Q : Exit → Act → World → Prop} {a : Act} {w : World} (F : Act → Prop) (R : List PanicEntry → World → Prop) (hq : ∀ c a w, F a → R c w → Q (.panic c) a w) (h : (Code.region id ops b).wp P (OrHaltD F R Q) a w) : (Code.region id ops b).wp P Q a w :=
  Code.wp_mono (fun e a w h => by cases e <;> first | exact h | exact hq _ _ _ h.1 h.2) h
theorem OrHaltD.normal {F : Act → Prop} {R : List PanicEntry → World → Prop} {Q : Exit → Act → World → Prop} {a : Act} {w : World} (h : Q .normal a w) : OrHaltD F R Q .normal a w := h
theorem OrHaltD.panic {F : Act → Prop} {R : List PanicEntry → World → Prop} {Q : Exit → Act → World → Prop} {c : List PanicEntry} {a : Act} {w : World} (h : F a) (h2 : R c w) : OrHaltD F R Q (.panic c) a w := ⟨h, h2⟩
end Go.Att
namespace Go.Proofs.YtgnomhbbbcfehaaGreatDoor
open Go.RowKit Go.Att Go.Shelf
def ParseFrame (r : Nat) (a : Act) : Prop := a.defers = [{ target := .fn (.func 23) #[.pointer (some ⟨r, 0, none⟩), .pointer (some ⟨r + 1, 0, none⟩), .pointer (some ⟨r + 1 + 1, 0, none⟩)], args := #[] }] ∧ a.tmps.getD 2 undef = .pointer (some ⟨r, 0, none⟩) ∧ a.tmps.getD 3 undef = .pointer (some ⟨r + 1, 0, none⟩) ∧ a.tmps.getD 4 undef = .pointer (some ⟨r + 1 + 1, 0, none⟩)
theorem parse_frame {r : Nat} {a : Act} (h1 : a.defers = [{ target := .fn (.func 23) #[.pointer (some ⟨r, 0, none⟩), .pointer (some ⟨r + 1, 0, none⟩), .pointer (some ⟨r + 1 + 1, 0, none⟩)], args := #[] }]) (h2 : a.tmps.getD 2 undef = .pointer (some ⟨r, 0, none⟩)) (h3 : a.tmps.getD 3 undef = .pointer (some ⟨r + 1, 0, none⟩)) (h4 : a.tmps.getD 4 undef = .pointer (some ⟨r + 1 + 1, 0, none⟩)) : ParseFrame r a := ⟨h1, h2, h3, h4⟩
def ParGot (w : World) (r : Ps (List Att.Fn)) (e : Ending) (w' : World) : Prop :=
  match r with
  | .ok fs _ => ∃ q fv, e = .returned (.tuple #[.pointer (some ⟨q, 0, none⟩), .int .i64 0, .nilIface]) ∧ w.heap.size ≤ q ∧ q < w'.heap.size ∧ BlkOf w' q [fv] 71 ∧ fsAt fs w.heap.size w'.heap.size w' fv ∧ Ext w w'
  | .bad a k => e = .returned (.tuple #[.pointer none, .int .i64 a, .iface 60 (.int .i64 k)]) ∧ Ext w w'
theorem res_parse {w : World} {r1 r2 r3 : Nat} {v1 v2 v3 : Value} (h1 : BlkOf w r1 [v1] 26) (h2 : BlkOf w r2 [v2] 3) (h3 : BlkOf w r3 [v3] 28) (tmps : Array Value) (g1 : tmps.getD 2 undef = .pointer (some ⟨r1, 0, none⟩)) (g2 : tmps.getD 3 undef = .pointer (some ⟨r2, 0, none⟩)) (g3 : tmps.getD 4 undef = .pointer (some ⟨r3, 0, none⟩)) :
    (results Tryz.f7 tmps).run Tryz.prog w = .ok (.tuple #[v1, v2, v3]) w := by
  have g1' : tmps[2]?.getD undef = .pointer (some ⟨r1, 0, none⟩) := by simpa using g1
  have g2' : tmps[3]?.getD undef = .pointer (some ⟨r2, 0, none⟩) := by simpa using g2
  have g3' : tmps[4]?.getD undef = .pointer (some ⟨r3, 0, none⟩) := by simpa using g3
  have k1 : w.cell? ⟨r1, 0, none⟩ = some v1 := h1.cell 0
  have k2 : w.cell? ⟨r2, 0, none⟩ = some v2 := h2.cell 0
  have k3 : w.cell? ⟨r3, 0, none⟩ = some v3 := h3.cell 0
  clear h1 h2 h3
  simp [results, Tryz.results7, go_sem, g1', g2', g3', k1, k2, k3]
theorem three_put {V w0 : World} {r1 r2 r3 : Nat} {v1 v2 v3 u1 u2 u3 : Value} {t1 t2 t3 : TypeId} (h1 : BlkOf V r1 [v1] t1) (h2 : BlkOf V r2 [v2] t2) (h3 : BlkOf V r3 [v3] t3) (n1 : r1 ≠ r2) (n2 : r1 ≠ r3) (n3 : r2 ≠ r3) (hx : Ext w0 V) (l1 : w0.heap.size ≤ r1) (l2 : w0.heap.size ≤ r2) (l3 : w0.heap.size ≤ r3) :
    BlkOf (((V.setCell ⟨r1, 0, none⟩ u1).setCell ⟨r2, 0, none⟩ u2).setCell ⟨r3, 0, none⟩ u3) r1 [u1] t1 ∧ BlkOf (((V.setCell ⟨r1, 0, none⟩ u1).setCell ⟨r2, 0, none⟩ u2).setCell ⟨r3, 0, none⟩ u3) r2 [u2] t2 ∧ BlkOf (((V.setCell ⟨r1, 0, none⟩ u1).setCell ⟨r2, 0, none⟩ u2).setCell ⟨r3, 0, none⟩ u3) r3 [u3] t3 ∧ Ext w0 (((V.setCell ⟨r1, 0, none⟩ u1).setCell ⟨r2, 0, none⟩ u2).setCell ⟨r3, 0, none⟩ u3) := by
  have G1 := setCell_grown V r1 0 u1
  have G2 := setCell_grown (V.setCell ⟨r1, 0, none⟩ u1) r2 0 u2
  have G3 := setCell_grown ((V.setCell ⟨r1, 0, none⟩ u1).setCell ⟨r2, 0, none⟩ u2) r3 0 u3
  exact ⟨((h1.set 0 u1).grown G2 (fun e => n1 (Option.some.inj e))).grown G3 (fun e => n2 (Option.some.inj e)), ((h2.grown G1 (fun e => n1 (Option.some.inj e).symm)).set 0 u2).grown G3 (fun e => n3 (Option.some.inj e)), ((h3.grown G1 (fun e => n2 (Option.some.inj e).symm)).grown G2 (fun e => n3 (Option.some.inj e).symm)).set 0 u3, ext_turn (ext_turn (ext_turn hx G1 l1) G2 l2) G3 l3⟩
def Three (W : World) (r q : Nat) : Prop := BlkOf W r [.pointer (some ⟨q, 0, none⟩)] 26 ∧ BlkOf W (r + 1) [.int .i64 0] 3 ∧ BlkOf W (r + 1 + 1) [.nilIface] 28
theorem Three.kept {W W' : World} {r q : Nat} (h : Three W r q) {row : Option Nat} (hg : W.grownBy W' row) (hr : ∀ A, row = some A → r + 1 + 1 < A) : Three W' r q :=
  ⟨h.1.grown hg (fun e => by have := hr _ e.symm; omega), h.2.1.grown hg (fun e => by have := hr _ e.symm; omega), h.2.2.grown hg (fun e => by have := hr _ e.symm; omega)⟩
def fnC (w0 : World) (b q lo : Nat) (R : Nat → World → Prop) (X : World → Prop) (cs : Value → List Value) (kv : Value) (vs0 : List Value) (ks : List Att.Fn) (vp : List Value) (tp : List Att.Fn) (r : Ps Att.Fn) (i sc sb sa : Nat) : FnC :=
  { w0 := w0, b := b, q := q, lo := lo, R := R, X := X, cs := cs, T := 71, E := 72, kv := kv, vs0 := vs0, ks := ks, vp := vp, tp := tp, r := r, i := i, sc := sc, sb := sb, sa := sa }
theorem fsAt.mono {fs : List Att.Fn} {lo hi lo' hi' : Nat} {w : World} {v : Value} (h : fsAt fs lo hi w v) (h1 : lo' ≤ lo) (h2 : hi ≤ hi') : fsAt fs lo' hi' w v := by
  obtain ⟨vs, a1, a2, a3⟩ := h
  exact ⟨vs, own_from a1 h1, fun A hA => Nat.lt_of_lt_of_le (a2 A hA) h2, a3.imp fun x f _ h => h.mono h1 h2⟩
section
variable {w : World} {b q r : Nat} {L : List UInt8}
theorem fn_ok (kv : Value) (vs0 : List Value) (ks : List Att.Fn) (rr : Ps Att.Fn) (i sc sb sa : Nat) (hrb : r + 1 + 1 < b) (hbq : b < q) (hw : w.heap.size ≤ q) (hs : ks.length + 1 ≤ 65536) :
    FnAOk (fnC w b q (q + 1) (fun j W => RdAt W b L j 0) (fun W => Three W r q) (fun u => [u]) kv vs0 ks [] [] rr i sc sb sa) :=
  ⟨fun W W' row hX hg hr => hX.kept hg (fun A e => by rcases hr A e with e | e | e <;> (dsimp only [fnC] at e; omega)), fun j W W' row hR hg hr => ⟨BlkOf.grown hR.blk hg (fun e => hr _ e.symm rfl), hR.le⟩, Nat.ne_of_lt hbq, Nat.lt_succ_of_lt hbq, Nat.lt_succ_self q, hw, hs⟩
theorem fn_i0 {W : World} {kv : Value} {vs0 : List Value} {ks : List Att.Fn} {rr : Ps Att.Fn} {i sc sb sa : Nat} (iL iC iB iA iS : Nat) (hR : RdAt W b L i 0) (hG : w.grownBy W (some b)) (hX : Three W r q) (hB : BlkOf W q [kv] 71) (hK : FnsIn 71 72 (q + 1) W kv vs0 ks) (vs : Nat → Value) :
    FnI (fnC w b q (q + 1) (fun j W => RdAt W b L j 0) (fun W => Three W r q) (fun u => [u]) kv vs0 ks [] [] rr i sc sb sa) iL iC iB iA iS (fun _ => false) vs W.drew :=
  ⟨fun h => (by cases h), fun h => (by cases h), fun h => (by cases h), fun h => (by cases h), grown_ext hG (Ext.drew _), hB.lt, hX.kept ((Ext.drew W).grownBy none) (fun A e => by cases e), ⟨hR.ext (Ext.drew _), hB.ext (Ext.drew _), hK.kept ((Ext.drew W).grownBy none) (by simp), .nil⟩⟩
set_option maxRecDepth 100000 in
set_option maxHeartbeats 16000000 in
theorem sparse_any (herr : ErrR w) : Calls Tryz.prog 7 #[.string ⟨L.toArray⟩] w (ParGot w (parseT L)) := by
  have hmf : ∀ (fn : Fn) (first cap : Array Value) (w : World), (Instr.makeFunc fn first cap).run Tryz.prog w = .ok (.func fn first cap) w := fun _ _ _ _ => rfl
  have s1 : (w.alloc (Obj.cells #[.pointer none] 26)).heap.size = w.heap.size + 1 := by simp
  have s2 : ((w.alloc (Obj.cells #[.pointer none] 26)).alloc (Obj.cells #[.int .i64 0] 3)).heap.size = w.heap.size + 1 + 1 := by simp
  have s3 : (((w.alloc (Obj.cells #[.pointer none] 26)).alloc (Obj.cells #[.int .i64 0] 3)).alloc (Obj.cells #[.nilIface] 28)).heap.size = w.heap.size + 1 + 1 + 1 := by simp
  have x1 := Ext.alloc w (Obj.cells #[.pointer none] 26)
  have x2 := Ext.alloc (w.alloc (Obj.cells #[.pointer none] 26)) (Obj.cells #[.int .i64 0] 3)
  have x3 := Ext.alloc ((w.alloc (Obj.cells #[.pointer none] 26)).alloc (Obj.cells #[.int .i64 0] 3)) (Obj.cells #[.nilIface] 28)
  have B1 : BlkOf (((w.alloc (Obj.cells #[.pointer none] 26)).alloc (Obj.cells #[.int .i64 0] 3)).alloc (Obj.cells #[.nilIface] 28)) w.heap.size [.pointer none] 26 := ((BlkOf.new w [.pointer none] 26).ext x2).ext x3
  have B2 : BlkOf (((w.alloc (Obj.cells #[.pointer none] 26)).alloc (Obj.cells #[.int .i64 0] 3)).alloc (Obj.cells #[.nilIface] 28)) (w.heap.size + 1) [.int .i64 0] 3 := by
    have := (BlkOf.new (w.alloc (Obj.cells #[.pointer none] 26)) [.int .i64 0] 3).ext x3
    rw [s1] at this; exact this
  have B3 : BlkOf (((w.alloc (Obj.cells #[.pointer none] 26)).alloc (Obj.cells #[.int .i64 0] 3)).alloc (Obj.cells #[.nilIface] 28)) (w.heap.size + 1 + 1) [.nilIface] 28 := by
    have := BlkOf.new ((w.alloc (Obj.cells #[.pointer none] 26)).alloc (Obj.cells #[.int .i64 0] 3)) [.nilIface] 28
    rw [s2] at this; exact this
  have HXV := Lib.hid ((x1.trans x2).trans x3)
  have HS3 := Lib.hid s3
  have HB1 := Lib.hid B1; have HB2 := Lib.hid B2; have HB3 := Lib.hid B3
  have HER := Lib.hid herr
  clear s1 s2 s3 x1 x2 x3 B1 B2 B3 herr
  go_enter_defers Tryz.func7, Tryz.ntmps7
  go_upto_region 1 with fail
  generalize (((w.alloc (Obj.cells #[.pointer none] 26)).alloc (Obj.cells #[.int .i64 0] 3)).alloc (Obj.cells #[.nilIface] 28)) = V at *
  obtain ⟨r, hr⟩ : ∃ r, w.heap.size = r := ⟨_, rfl⟩
  rw [hr] at HB1 HB2 HB3 HS3
  rw [hr]
  have HQ := Lib.hid hr
  clear hr
  have r1 : V.cell? ⟨r, 0, none⟩ = some (.pointer none) := HB1.out.cell 0
  have r2 : V.cell? ⟨r + 1, 0, none⟩ = some (.int .i64 0) := HB2.out.cell 0
  have r3 : V.cell? ⟨r + 1 + 1, 0, none⟩ = some .nilIface := HB3.out.cell 0
  have f1 := HB1.out.free 0
  have f2 := HB2.out.free 0
  have f3 := HB3.out.free 0
  by_cases hlen : 4000 < L.length
  · have d1 : decide ((4000 : Int) < (L.length : Int)) = true := by rw [decide_eq_true_eq]; omega
    have HP := Lib.hid (show parseT L = .bad 0 9 by unfold parseT; rw [if_pos hlen])
    clear hlen
    go_wp2_with fail
    have K := three_put (w0 := w) (u1 := .pointer none) (u2 := .int .i64 0) (u3 := .iface 60 (.int .i64 9)) HB1.out HB2.out HB3.out (by omega) (by omega) (by omega) HXV.out (by have := HQ.out; omega) (by have := HQ.out; omega) (by have := HQ.out; omega)
    exact ⟨_, res_parse K.1 K.2.1 K.2.2.1 _ rfl rfl rfl, by rw [HP.out]; exact ⟨rfl, K.2.2.2⟩⟩
  have d1 : decide ((4000 : Int) < (L.length : Int)) = false := by rw [decide_eq_false_iff_not]; omega
  have hL : L.length ≤ 4000 := by omega
  have HP := Lib.hid (show parseT L = (funsT L (L.length + 1) [] 0).bind fun fs j => match chkP L fs with | some (a, e) => .bad a e | none => .ok fs j by unfold parseT; rw [if_neg hlen]; rfl)
  clear hlen
  go_upto_region 5 with fail
  have e4 := Ext.alloc V (.cells #[.string ⟨L.toArray⟩, .int .i64 0, .int .i64 0, .int .i64 0, .string ⟨#[]⟩, .int .i64 0] 68)
  have HB4 : Hid (RdC (V.alloc (.cells #[.string ⟨L.toArray⟩, .int .i64 0, .int .i64 0, .int .i64 0, .string ⟨#[]⟩, .int .i64 0] 68)) V.heap.size L 0 ⟨0, 0, []⟩ 0) := Lib.hid (BlkOf.new V (rcells L 0 ⟨0, 0, []⟩ 0) 68)
  have HX4 := Lib.hid (HXV.out.trans e4)
  have HT4 := Lib.hid (And.intro (HB1.out.ext e4) (And.intro (HB2.out.ext e4) (HB3.out.ext e4)))
  clear r1 r2 r3 f1 f2 f3 e4 HB1 HB2 HB3 d1
  generalize V.alloc (.cells #[.string ⟨L.toArray⟩, .int .i64 0, .int .i64 0, .int .i64 0, .string ⟨#[]⟩, .int .i64 0] 68) = V4 at *
  obtain ⟨b, hb⟩ : ∃ b, V.heap.size = b := ⟨_, rfl⟩
  rw [hb] at HB4 HS3 ⊢
  clear hb
  have hrb : r + 1 + 1 < b := by have := HS3.out; omega
  have HWB : Hid (w.heap.size ≤ b) := Lib.hid (by rw [HQ.out]; omega)
  have HXZ := Lib.hid (Ext.refl w)
  have HAD := Lib.hid (sadv_any HB4.out (Nat.zero_le _) hL)
  clear HXV HS3
  go_wp2_with fail
  refine HAD.out.mono ?_
  rintro e w5 ⟨rfl, hr5, hg5⟩
  have HR5 : Hid (RdAt w5 b L 0 0) := Lib.hid ⟨hr5, Nat.zero_le _⟩
  have HG5 := Lib.hid (grown_one (HX4.out.grownBy (some b)) hg5)
  have t5 := And.intro (HT4.out.1.grown hg5 (by simp; omega)) (And.intro (HT4.out.2.1.grown hg5 (by simp; omega)) (HT4.out.2.2.grown hg5 (by simp; omega)))
  have hbq : b < w5.heap.size := HR5.out.lt
  have e6 := Ext.alloc w5 (.cells #[.slice none 0 0] 71)
  have r1 : (w5.alloc (.cells #[.slice none 0 0] 71)).cell? ⟨r, 0, none⟩ = some (.pointer none) := (t5.1.ext e6).cell 0
  have f1 := (t5.1.ext e6).free 0
  have HT5 := Lib.hid t5
  clear hr5 hg5 HAD HB4 HX4 HT4 t5 e6
  go_upto_region 7 with fail
  have e6 := Ext.alloc w5 (.cells #[.slice none 0 0] 71)
  have hb6 := BlkOf.new w5 [.slice none 0 0] 71
  obtain ⟨q, hq⟩ : ∃ q, w5.heap.size = q := ⟨_, rfl⟩
  rw [hq] at hb6 hbq
  rw [hq]
  have hg6 := setCell_grown (w5.alloc (.cells #[.slice none 0 0] 71)) r 0 (.pointer (some ⟨q, 0, none⟩))
  have HB6 := Lib.hid (hb6.grown hg6 (by simp; omega))
  have HX6 : Hid (Three ((w5.alloc (.cells #[.slice none 0 0] 71)).setCell ⟨r, 0, none⟩ (.pointer (some ⟨q, 0, none⟩))) r q) := Lib.hid ⟨(HT5.out.1.ext e6).set 0 _, (HT5.out.2.1.ext e6).grown hg6 (fun e => by have := Option.some.inj e; omega), (HT5.out.2.2.ext e6).grown hg6 (fun e => by have := Option.some.inj e; omega)⟩
  have HR6 : Hid (RdAt ((w5.alloc (.cells #[.slice none 0 0] 71)).setCell ⟨r, 0, none⟩ (.pointer (some ⟨q, 0, none⟩))) b L 0 0) := Lib.hid ⟨BlkOf.grown (BlkOf.ext HR5.out.blk e6) hg6 (by simp; omega), Nat.zero_le _⟩
  have HG6 := Lib.hid (grown_new (grown_ext HG5.out e6) hg6 (by rw [HQ.out]; exact Nat.le_refl _))
  clear r1 f1 e6 hb6 hg6 HT5 HR5 HG5 hq
  generalize (w5.alloc (.cells #[.slice none 0 0] 71)).setCell ⟨r, 0, none⟩ (.pointer (some ⟨q, 0, none⟩)) = w6 at *
  generalize hFF : funsT L (L.length + 1) [] 0 = FF at *
  have HFF := Lib.hid hFF.symm
  clear hFF
  go_loopw [] (fun wr => ∃ (acc : List Att.Fn) (j n : Nat) (kv : Value) (vs0 : List Value), Hid (RdAt wr b L j 0) ∧ Hid (w.grownBy wr (some b)) ∧ Hid (Three wr r q) ∧ Hid (BlkOf wr q [kv] 71) ∧ Hid (FnsIn 71 72 (q + 1) wr kv vs0 acc) ∧ Hid (FF = funsT L n acc j) ∧ L.length + 1 ≤ n + j ∧ j ≤ L.length ∧ acc.length ≤ j) (fun wr => L.length - nextAt wr b)
  case atStart => exact ⟨[], 0, L.length + 1, _, _, HR6, HG6, HX6, HB6, Lib.hid (FnsIn.nil _), HFF, by omega, Nat.zero_le _, Nat.zero_le _⟩
  case round =>
    clear HR6 HG6 HX6 HB6
    obtain ⟨acc, j, n, kv, vs0, HR, HG, HX, HB, HK, HF, hn, hj, hac⟩ := hrel
    obtain ⟨n, rfl⟩ : ∃ m, n = m + 1 := ⟨n - 1, by omega⟩
    have c2 : wr.cell? ⟨b, 2, none⟩ = some (.int .i64 (tokN L j).kind) := BlkOf.cell HR.out.blk 2
    have HF2 := Lib.hid (show FF = if (tokN L j).kind = 0 then .ok acc j else (funT L j).bind fun f j => funsT L n (acc ++ [f]) j from HF.out.trans (by rw [funsT]))
    have HM := Lib.hid (nextAt_rd HR.out.blk)
    by_cases hk : (tokN L j).kind = 0
    · have hk0 : (((tokN L j).kind : Int) == 0) = true := by rw [beq_iff_eq]; omega
      have hk1 : (((tokN L j).kind : Int) != 0) = false := by rw [bne, hk0]; rfl
      have HF3 := Lib.hid (HF2.out.trans (if_pos hk))
      generalize (tokN L j).kind = K at *
      clear hk HF HF2
      have hsum := wt_funs _ _ _ _ _ (Nat.zero_le _) (HFF.out.symm.trans HF3.out)
      have hok := funs_fit _ _ _ _ _ (by intro f hf; cases hf) (HFF.out.symm.trans HF3.out)
      have HCK := Lib.hid (scheck_any (len := L.length) HB.out (HK.out.done (lo' := r) (by omega)) HB.out.lt (Nat.le_refl _) hok (by omega) (fun f hf => wei_each (Nat.le_trans (show (acc.map weiF).sum ≤ j by have := hsum.1; simp at this; omega) (Nat.le_trans hj hL)) f hf))
      have HR0 := Lib.hid (show parseT L = match chkP L acc with | some (a, e) => .bad a e | none => .ok acc j from HP.out.trans (by rw [HF3.out]; rfl))
      have r1 : wr.cell? ⟨r, 0, none⟩ = some (.pointer (some ⟨q, 0, none⟩)) := HX.out.1.cell 0
      clear hsum hok
      go_wp2_with fail
      refine HCK.out.mono ?_
      intro e w7 h7
      obtain ⟨hx7, ⟨hr, rfl⟩ | ⟨a, k, hr, rfl⟩⟩ := h7.cases
      · have HPO := Lib.hid (show parseT L = .ok acc j from HR0.out.trans (by rw [show chkP L acc = none from hr]))
        have hx := HX.out.kept (hx7.grownBy none) (fun A e => by cases e)
        have g1 : w7.cell? ⟨r, 0, none⟩ = some (.pointer (some ⟨q, 0, none⟩)) := hx.1.cell 0
        have g2 : w7.cell? ⟨r + 1, 0, none⟩ = some (.int .i64 0) := hx.2.1.cell 0
        have g3 : w7.cell? ⟨r + 1 + 1, 0, none⟩ = some .nilIface := hx.2.2.cell 0
        have f1 := hx.1.free 0
        have f2 := hx.2.1.free 0
        have f3 := hx.2.2.free 0
        have hb7 := HB.out.ext hx7
        have hf7 := (HK.out.done (lo' := q + 1) (Nat.le_refl _)).ext hx7
        have hxx := (ext_turn HXZ.out HG.out HWB.out).trans hx7
        have HX7 := Lib.hid hx; have HB7 := Lib.hid hb7; have HF7 := Lib.hid hf7; have HXX := Lib.hid hxx; have HSZ := Lib.hid hx7.size
        clear h7 hr hx7 hx hb7 hf7 hxx r1
        go_wp2_with fail
        have K := three_put (w0 := w) (u1 := .pointer (some ⟨q, 0, none⟩)) (u2 := .int .i64 0) (u3 := .nilIface) HX7.out.1 HX7.out.2.1 HX7.out.2.2 (by omega) (by omega) (by omega) HXX.out (by rw [HQ.out]; exact Nat.le_refl _) (by rw [HQ.out]; omega) (by rw [HQ.out]; omega)
        have G1 := setCell_grown w7 r 0 (.pointer (some ⟨q, 0, none⟩))
        have G2 := setCell_grown (w7.setCell ⟨r, 0, none⟩ (.pointer (some ⟨q, 0, none⟩))) (r + 1) 0 (.int .i64 0)
        have G3 := setCell_grown ((w7.setCell ⟨r, 0, none⟩ (.pointer (some ⟨q, 0, none⟩))).setCell ⟨r + 1, 0, none⟩ (.int .i64 0)) (r + 1 + 1) 0 .nilIface
        have kb := ((HB7.out.grown G1 (fun e => by have := Option.some.inj e; omega)).grown G2 (fun e => by have := Option.some.inj e; omega)).grown G3 (fun e => by have := Option.some.inj e; omega)
        have kf := ((HF7.out.kept G1 (fun A e => by have := Option.some.inj e; omega)).kept G2 (fun A e => by have := Option.some.inj e; omega)).kept G3 (fun A e => by have := Option.some.inj e; omega)
        have kz := Nat.le_trans (Nat.le_trans (Nat.le_trans HSZ.out G1.size) G2.size) G3.size
        refine leaves_cons (f := 23) (args := #[.pointer (some ⟨r, 0, none⟩), .pointer (some ⟨r + 1, 0, none⟩), .pointer (some ⟨r + 1 + 1, 0, none⟩)]) (by simp) (by simp [go_sem]) ?_
        refine (pcatch_idle _ _ _ _).mono ?_
        rintro e u' w2 ⟨rfl, rfl, rfl⟩
        refine ⟨_, res_parse K.1 K.2.1 K.2.2.1 _ rfl rfl rfl, ?_⟩
        rw [HPO.out]
        exact ⟨q, kv, rfl, by rw [HQ.out]; omega, kb.lt, kb, kf.mono (by rw [HQ.out]; omega) kz, K.2.2.2⟩
      · have HPB := Lib.hid (show parseT L = .bad a k from HR0.out.trans (by rw [show chkP L acc = some (a, k) from hr]))
        have HA := Lib.hid (And.intro (ext_turn HXZ.out HG.out HWB.out) (And.intro hx7 (HX.out.kept (hx7.grownBy none) (fun A e => by cases e))))
        clear h7 hr hx7
        go_wp2_with fail
        refine leaves_cons (f := 23) (args := #[.pointer (some ⟨r, 0, none⟩), .pointer (some ⟨r + 1, 0, none⟩), .pointer (some ⟨r + 1 + 1, 0, none⟩)]) (by simp) (by simp [go_sem]) ?_
        refine (pcatch_faults _ _ _ a k [] _ HA.out.2.2.1 HA.out.2.2.2.1 HA.out.2.2.2.2 (by omega) (by omega) (by omega)).mono ?_
        rintro e u' w2 ⟨rfl, rfl, z1, z2, z3, zx⟩
        refine ⟨_, res_parse z1 z2 z3 _ rfl rfl rfl, ?_⟩
        rw [HPB.out]
        exact ⟨rfl, zx w (HA.out.1.trans HA.out.2.1) (by rw [HQ.out]; exact Nat.le_refl _) (by rw [HQ.out]; omega) (by rw [HQ.out]; omega)⟩
    · have hk0 : (((tokN L j).kind : Int) == 0) = false := by rw [beq_eq_false_iff_ne]; omega
      have hk1 : (((tokN L j).kind : Int) != 0) = true := by rw [bne, hk0]; rfl
      have HF3 := Lib.hid (HF2.out.trans (if_neg hk))
      generalize (tokN L j).kind = K at *
      clear hk HF HF2
      have OK := Lib.hid (fn_ok (w := w) (b := b) (q := q) (r := r) (L := L) kv vs0 acc (funT L j) j 30 31 32 hrb hbq (by have := HWB.out; omega) (by omega))
      have AIA := Lib.hid (fun vs => fn_i0 (w := w) (b := b) (q := q) (r := r) (L := L) (rr := funT L j) (sc := 30) (sb := 31) (sa := 32) 4 6 7 8 11 HR.out HG.out HX.out HB.out HK.out vs)
      have HE : Hid (∀ W i, RdAt W b L i 0 → Ext w W → Calls Tryz.prog 25 #[.pointer (some ⟨b, 0, none⟩)] W (PGot W b L 0 (fun w' v x => fnAt x W.heap.size w'.heap.size w' v) (funT L i))) := Lib.hid (fun W i h hx => sfun_any hL HWB.out HER.out h hx)
      go_upto_region 8 with fail
      refine wp_region_haltD (ParseFrame r) (fun c w'' => ∃ a k, funT L j = .bad a k ∧ c = [{ v := .iface 62 (.agg #[.int .i64 a, .int .i64 k]), recovered := false }] ∧ Ext w w'' ∧ Three w'' r q) ?_ ?_
      · intro c a w'' hd hR
        obtain ⟨p, k, hr, rfl, hx2, hx3⟩ := hR
        obtain ⟨h1, g1, g2, g3⟩ := hd
        have HPB := Lib.hid (show parseT L = .bad p k from HP.out.trans (by rw [HF3.out, hr]; rfl))
        have HA := Lib.hid (And.intro hx2 hx3)
        clear hr hx2 hx3 OK AIA HE
        go_wp2_with fail
        show Leaves _ _ a.tmps _ a.defers _ w''
        rw [h1]
        refine leaves_cons (f := 23) (args := #[.pointer (some ⟨r, 0, none⟩), .pointer (some ⟨r + 1, 0, none⟩), .pointer (some ⟨r + 1 + 1, 0, none⟩)]) (by simp) (by simp [go_sem]) ?_
        refine (pcatch_faults _ _ _ p k [] _ HA.out.2.1 HA.out.2.2.1 HA.out.2.2.2 (by omega) (by omega) (by omega)).mono ?_
        rintro e u' w2 ⟨rfl, rfl, z1, z2, z3, zx⟩
        refine ⟨_, res_parse z1 z2 z3 _ g1 g2 g3, ?_⟩
        rw [HPB.out]
        exact ⟨rfl, zx w HA.out.1 (by rw [HQ.out]; exact Nat.le_refl _) (by rw [HQ.out]; omega) (by rw [HQ.out]; omega)⟩
      refine wp_region_mark 12 rfl (phiE [some (.pointer (some ⟨q, 0, none⟩)), some (.pointer (some ⟨q, 0, none⟩)), some (.pointer (some ⟨q, 0, none⟩)), some (.pointer (some ⟨q, 0, none⟩)), some kv, some (.pointer (some ⟨b, 0, none⟩)), none, none, none, some (.pointer (some ⟨q, 0, none⟩)), some (.pointer (some ⟨q, 0, none⟩)), none]) [4, 6, 7, 8, 11] (FnI (fnC w b q (q + 1) (fun j W => RdAt W b L j 0) (fun W => Three W r q) (fun u => [u]) kv vs0 acc [] [] (funT L j) j 30 31 32) 4 6 7 8 11) (fun _ _ => True) (by kernel_rfl) (by kernel_rfl) (by kernel_rfl) (fun j _ u W W' hu _ => phiE_stab _ j u W W' hu) (fun j hj hd u W => by have hj2 : j = 4 ∨ j = 6 ∨ j = 7 ∨ j = 8 ∨ j = 11 := (by simpa using hj); rcases hj2 with rfl | rfl | rfl | rfl | rfl <;> first | exact phiE_top _ _ rfl _ _ | (simp at hd)) (fun s s' vs vs' W W' h hg hs hv => h.free OK.out hg (hs 4 rfl) (hs 6 rfl) (hs 7 rfl) (hs 8 rfl) (hs 11 rfl) (hv 6 rfl 30 rfl) (hv 7 rfl 31 rfl) (hv 8 rfl 32 rfl)) ?_ (by kernel_rfl) ?_ ?_
      · exact AIA.out _
      · refine ⟨?_, ?_, ?_, ?_, ?_, ?_, ?_, ?_, ?_, ?_, ?_, ?_, trivial⟩
        · refine bifF rfl (FreeStep.mk rfl fun vs W hk hd => ?_)
          clear hd
          obtain ⟨_, s, hS⟩ := hk
          have hc0 : W.cell? ⟨r, 0, none⟩ = some (.pointer (some ⟨q, 0, none⟩)) := hS.x.1.cell 0
          clear hS
          simp only [fillA, fillL, dstL, List.take_succ_cons, List.take_zero, List.filterMap_cons, List.filterMap_nil, List.contains_cons, List.contains_nil, Nat.reduceAdd, Nat.zero_add, Nat.reduceBEq, Bool.or_false, Bool.or_true, Bool.false_eq_true, ↓reduceIte]
          go_wp2_with fail
          exact ⟨by trivial, World.grownBy.refl _ _, rfl⟩
        · refine bifF rfl (FreeStep.mk rfl fun vs W hk hd => ?_)
          clear hd
          obtain ⟨_, s, hS⟩ := hk
          have hc0 : W.cell? ⟨r, 0, none⟩ = some (.pointer (some ⟨q, 0, none⟩)) := hS.x.1.cell 0
          clear hS
          simp only [fillA, fillL, dstL, List.take_succ_cons, List.take_zero, List.filterMap_cons, List.filterMap_nil, List.contains_cons, List.contains_nil, Nat.reduceAdd, Nat.zero_add, Nat.reduceBEq, Bool.or_false, Bool.or_true, Bool.false_eq_true, ↓reduceIte]
          go_wp2_with fail
          exact ⟨by trivial, World.grownBy.refl _ _, rfl⟩
        · refine bifF rfl (FreeStep.mk rfl fun vs W hk hd => ?_)
          have e25 : vs 25 = (.pointer (some ⟨q, 0, none⟩)) := hd 1 (by kernel_rfl)
          clear hd
          obtain ⟨_, s, hS⟩ := hk
          clear hS
          simp only [fillA, fillL, dstL, List.take_succ_cons, List.take_zero, List.filterMap_cons, List.filterMap_nil, List.contains_cons, List.contains_nil, Nat.reduceAdd, Nat.zero_add, Nat.reduceBEq, Bool.or_false, Bool.or_true, Bool.false_eq_true, ↓reduceIte]
          rw [e25]
          go_wp2_with fail
          exact ⟨by trivial, World.grownBy.refl _ _, rfl⟩
        · refine bifF rfl (FreeStep.mk rfl fun vs W hk hd => ?_)
          have e26 : vs 26 = (.pointer (some ⟨q, 0, none⟩)) := hd 2 (by kernel_rfl)
          clear hd
          obtain ⟨_, s, hS⟩ := hk
          clear hS
          simp only [fillA, fillL, dstL, List.take_succ_cons, List.take_zero, List.filterMap_cons, List.filterMap_nil, List.contains_cons, List.contains_nil, Nat.reduceAdd, Nat.zero_add, Nat.reduceBEq, Bool.or_false, Bool.or_true, Bool.false_eq_true, ↓reduceIte]
          rw [e26]
          go_wp2_with fail
          exact ⟨by trivial, World.grownBy.refl _ _, rfl⟩
        · refine bifT rfl (MarkStep.mk rfl fun s vs W hS hi hdp hd => ?_)
          have e27 : vs 27 = (.pointer (some ⟨q, 0, none⟩)) := hd 3 (by kernel_rfl)
          clear hd
          have hk3 : W.cell? ⟨q, 0, none⟩ = some kv := (FnI.node hS hi).cell 0
          simp only [fillA, fillL, dstL, List.take_succ_cons, List.take_zero, List.filterMap_cons, List.filterMap_nil, List.contains_cons, List.contains_nil, Nat.reduceAdd, Nat.zero_add, Nat.reduceBEq, Bool.or_false, Bool.or_true, Bool.false_eq_true, ↓reduceIte]
          rw [e27]
          go_wp2_with fail
          exact ⟨by trivial, trivial, FnI.loaded OK.out hS (by decide) (World.grownBy.refl _ _) rfl rfl rfl, rfl⟩
        · refine bifF rfl (FreeStep.mk rfl fun vs W hk hd => ?_)
          clear hd
          obtain ⟨_, s, hS⟩ := hk
          clear hS
          simp only [fillA, fillL, dstL, List.take_succ_cons, List.take_zero, List.filterMap_cons, List.filterMap_nil, List.contains_cons, List.contains_nil, Nat.reduceAdd, Nat.zero_add, Nat.reduceBEq, Bool.or_false, Bool.or_true, Bool.false_eq_true, ↓reduceIte]
          go_wp2_with fail
          exact ⟨by trivial, World.grownBy.refl _ _, rfl⟩
        · refine bifT rfl (MarkStep.mk rfl fun s vs W hS hi hdp hd => ?_)
          have e29 : vs 29 = (.pointer (some ⟨b, 0, none⟩)) := hd 5 (by kernel_rfl)
          clear hd
          have hg0 := hS.g
          simp only [fillA, fillL, dstL, List.take_succ_cons, List.take_zero, List.filterMap_cons, List.filterMap_nil, List.contains_cons, List.contains_nil, Nat.reduceAdd, Nat.zero_add, Nat.reduceBEq, Bool.or_false, Bool.or_true, Bool.false_eq_true, ↓reduceIte]
          rw [e29]
          go_wp2_with fail
          refine (HE.out W _ (FnI.place hS hi) (ext_turn HXZ.out hg0 HWB.out)).mono ?_
          intro e w3 h3
          rcases h3.cases with ⟨a, k, hr, he, hg⟩ | ⟨x, j, v, hr, rfl, hr1, hg1, ht1⟩
          · subst he
            go_wp2_with fail
            exact OrHaltD.panic (parse_frame rfl rfl rfl rfl) (⟨a, k, hr, rfl, ext_turn HXZ.out (grown_one hg0 hg) HWB.out, OK.out.xk _ _ _ hS.x hg (fun A e => .inl (Option.some.inj e).symm)⟩)
          · go_wp2_with fail
            exact ⟨by trivial, trivial, FnI.called OK.out hS hi (by decide) hr hr1 hg1 ht1 rfl, trivial⟩
        · refine bifT rfl (MarkStep.mk rfl fun s vs W hS hi hdp hd => ?_)
          clear hd
          obtain ⟨p1, hp1⟩ := hS.ptr (hdp 6 (by kernel_rfl)) hi rfl
          replace hp1 : vs 30 = .pointer (some ⟨p1, 0, none⟩) := hp1
          simp only [fillA, fillL, dstL, List.take_succ_cons, List.take_zero, List.filterMap_cons, List.filterMap_nil, List.contains_cons, List.contains_nil, Nat.reduceAdd, Nat.zero_add, Nat.reduceBEq, Bool.or_false, Bool.or_true, Bool.false_eq_true, ↓reduceIte]
          rw [hp1]
          go_wp2_with fail
          exact ⟨by trivial, trivial, FnI.built OK.out hS (hdp 6 (by kernel_rfl)) hi (by decide) (congrArg (fun u => W.alloc (.cells #[u] 72)) hp1.symm) rfl rfl, trivial⟩
        · refine bifT rfl (MarkStep.mk rfl fun s vs W hS hi hdp hd => ?_)
          have e28 : vs 28 = kv := hd 4 (by kernel_rfl)
          clear hd
          obtain ⟨ho, z, hz, hzb, h1⟩ := hS.row (hdp 7 (by kernel_rfl)) hi
          replace hz : vs 31 = _ := hz
          have hlw := hS.lw
          simp only [fillA, fillL, dstL, List.take_succ_cons, List.take_zero, List.filterMap_cons, List.filterMap_nil, List.contains_cons, List.contains_nil, Nat.reduceAdd, Nat.zero_add, Nat.reduceBEq, Bool.or_false, Bool.or_true, Bool.false_eq_true, ↓reduceIte]
          rw [e28, hz]
          go_wp2_with (at_builtin; refine wpList_appBlk rfl _ _ 69 rfl slFns rfl hlw ho rfl hzb h1 rfl (by have := OK.out.small; simp at this ⊢; omega) (by decide) ?_; intro v' w' k1 k2 k3)
          exact ⟨by trivial, trivial, FnI.appd OK.out hS (hdp 4 (by kernel_rfl)) (hdp 7 (by kernel_rfl)) hi (by decide) k1 k2 k3 rfl, trivial⟩
        · refine bifF rfl (FreeStep.mk rfl fun vs W hk hd => ?_)
          have e24 : vs 24 = (.pointer (some ⟨q, 0, none⟩)) := hd 0 (by kernel_rfl)
          clear hd
          obtain ⟨_, s, hS⟩ := hk
          clear hS
          simp only [fillA, fillL, dstL, List.take_succ_cons, List.take_zero, List.filterMap_cons, List.filterMap_nil, List.contains_cons, List.contains_nil, Nat.reduceAdd, Nat.zero_add, Nat.reduceBEq, Bool.or_false, Bool.or_true, Bool.false_eq_true, ↓reduceIte]
          rw [e24]
          go_wp2_with fail
          exact ⟨by trivial, World.grownBy.refl _ _, rfl⟩
        · refine bifF rfl (FreeStep.mk rfl fun vs W hk hd => ?_)
          have e33 : vs 33 = (.pointer (some ⟨q, 0, none⟩)) := hd 9 (by kernel_rfl)
          clear hd
          obtain ⟨_, s, hS⟩ := hk
          clear hS
          simp only [fillA, fillL, dstL, List.take_succ_cons, List.take_zero, List.filterMap_cons, List.filterMap_nil, List.contains_cons, List.contains_nil, Nat.reduceAdd, Nat.zero_add, Nat.reduceBEq, Bool.or_false, Bool.or_true, Bool.false_eq_true, ↓reduceIte]
          rw [e33]
          go_wp2_with fail
          exact ⟨by trivial, World.grownBy.refl _ _, rfl⟩
        · refine bifT rfl (MarkStep.mk rfl fun s vs W hS hi hdp hd => ?_)
          have e34 : vs 34 = (.pointer (some ⟨q, 0, none⟩)) := hd 10 (by kernel_rfl)
          clear hd
          obtain ⟨hbk, ao, nn, cap, hsa⟩ := hS.node3 (hdp 8 (by kernel_rfl)) hi
          replace hsa : vs 32 = .slice ao nn cap := hsa
          have hk3 : W.cell? ⟨q, 0, none⟩ = some kv := hbk.cell 0
          have hf3 : W.frozen? ⟨q, 0, none⟩ = false := hbk.free 0
          simp only [fillA, fillL, dstL, List.take_succ_cons, List.take_zero, List.filterMap_cons, List.filterMap_nil, List.contains_cons, List.contains_nil, Nat.reduceAdd, Nat.zero_add, Nat.reduceBEq, Bool.or_false, Bool.or_true, Bool.false_eq_true, ↓reduceIte]
          rw [e34, hsa]
          go_wp2_with fail
          exact ⟨by trivial, trivial, FnI.stored OK.out hS (hdp 8 (by kernel_rfl)) hi (by decide) (f := 0) (fun _ => rfl) (congrArg (fun u => W.setCell ⟨q, 0, none⟩ u) hsa.symm), trivial⟩
      · intro s vs w5 hall hs hS
        obtain ⟨hg5, hx5, hl5, y5, j5, us5, kv5, hr5, hR5, hB5, hK5⟩ := FnI.end_ hS (hs 11 rfl)
        have HG5 := Lib.hid hg5; have HX5 := Lib.hid hx5; have HL5 := Lib.hid hl5; have HR5 := Lib.hid hr5; have HRD5 := Lib.hid hR5; have HB5 := Lib.hid hB5; have HK5 := Lib.hid hK5
        clear hg5 hx5 hl5 hr5 hR5 hB5 hK5 hS hs hall
        refine OrHaltD.normal ?_
        simp only [fillA, fillL, dstL, List.take_succ_cons, List.take_zero, List.filterMap_cons, List.filterMap_nil, List.contains_cons, List.contains_nil, Nat.reduceAdd, Nat.zero_add, Nat.reduceBEq, Bool.or_false, Bool.or_true, Bool.false_eq_true, ↓reduceIte]
        have hr5 : funT L j = .ok y5 j5 := HR5.out
        have HF5 := Lib.hid (show FF = funsT L n (acc ++ [y5]) j5 from HF3.out.trans (by rw [hr5]; rfl))
        have hgt := fun_gt2 hj hr5
        have HM5 := Lib.hid (nextAt_rd HRD5.out.blk)
        have hnx := nxtN_ge L j5; have hge := nxtN_ge L j
        have hnl := nxtN_le L j5 hgt.2
        have hmn : nxtN L j < nxtN L j5 := by omega
        go_wp2_with fail
        go_roundw
        case rel => exact ⟨acc ++ [y5], j5, n, kv5, us5, HRD5, HG5, HX5, HB5, HK5, HF5, by omega, hgt.2, by simp; omega⟩
        case measure => rw [HM.out, HM5.out]; omega
end
end Go.Proofs.YtgnomhbbbcfehaaGreatDoor
