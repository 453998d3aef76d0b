/- The document reads a voucher of bytes: contract. (Printed by mkz6.py.) -/
import Derived.Test.YthpgmjdepigihaaDoorZ5
namespace Go.Att
open Go.RowKit
/-- What the document's Read comes to. -/
def DRead (w : World) (b : List Int) (e : Ending) (w' : World) : Prop :=
  (∃ vch, rdV b = some (vch, []) ∧ ∃ m a r l o ra rb rc la lb lc, e = .returned (.tuple #[.agg #[m, a, .int .i64 vch.tries, r, l, o, ra, rb, rc, la, lb, lc], .bool true]) ∧ VchAt w' m a r l o ra rb rc la lb lc vch ∧ Ext w w') ∨
  ((∀ vch, rdV b ≠ some (vch, [])) ∧ e = .returned (.tuple #[.agg zeros12.toArray, .bool false]) ∧ Ext w w')
section
variable {α β : Type}
/-- One part more is read. -/
theorem rv_step {one : List Int → Option (α × List Int)} {r : Option β} {st st' : Option (List Int)} {x : α} {k : α × List Int → Option β} (h : r = st.bind fun t => (one t).bind k) (h1 : st.bind one = st'.map fun t => (x, t)) : r = st'.bind fun t => k (x, t) := by
  have e : r = (st.bind one).bind k := by rw [h]; cases st <;> rfl
  rw [e, h1]
  cases st' <;> rfl
end
theorem rv_last {α β : Type} {one : List Int → Option (α × List Int)} {r : Option β} {st st' : Option (List Int)} {x : α} {f : α × List Int → β} (h : r = st.bind fun t => (one t).map f) (h1 : st.bind one = st'.map fun t => (x, t)) : r = st'.map fun t => f (x, t) := by
  have e : r = (st.bind one).map f := by rw [h]; cases st <;> rfl
  rw [e, h1]
  cases st' <;> rfl
theorem dread_end {b : List Int} {v : Vch} {a : Nat} (h : rdV b = (some (b.drop a)).map fun t => (v, t)) : rdV b = some (v, b.drop a) := h
theorem dread_more {b : List Int} {v : Vch} {a : Nat} (h : rdV b = (some (b.drop a)).map fun t => (v, t)) (ha : a < b.length) (vch : Vch) : rdV b ≠ some (vch, []) := by
  rw [h]
  intro e
  have e2 := Option.some.inj e
  have e3 : b.drop a = [] := congrArg Prod.snd e2
  have := congrArg List.length e3
  rw [List.length_drop] at this
  simp at this
  omega
theorem dread_nil {b : List Int} {v : Vch} {st : Option (List Int)} (h : rdV b = st.map fun t => (v, t)) (hn : st = none) (vch : Vch) : rdV b ≠ some (vch, []) := by
  subst hn; rw [h]; simp
/-- What is known of the reader when it is done. -/
theorem dread_no {b : List Int} {st : Option (List Int)} {k : List Int → Option (Vch × List Int)} (h : rdV b = st.bind k) (hn : st = none) (vch : Vch) : rdV b ≠ some (vch, []) := by
  subst hn; rw [h]; simp
/-- Between two numbers of blocks nothing has turned. -/
def Fr (B T : Nat) (w w' : World) : Prop := ∀ j, B ≤ j → j < T → w'.heap[j]? = w.heap[j]?
theorem Fr.refl (B T : Nat) (w : World) : Fr B T w w := fun _ _ _ => rfl
theorem Fr.trans {B T : Nat} {a b c : World} (h : Fr B T a b) (k : Fr B T b c) : Fr B T a c := fun j h1 h2 => (k j h1 h2).trans (h j h1 h2)
theorem Fr.of {B T : Nat} {w w' : World} {bo : Option Nat} (hg : w.grownBy w' bo) (hT : T ≤ w.heap.size) (h : ∀ k, bo = some k → k < B ∨ T ≤ k) : Fr B T w w' := fun j h1 h2 => hg.block j (by omega) (fun e => by have := h j e.symm; omega)
theorem Sl.fr {B T : Nat} {w w' : World} {sz n : Nat} {v : Value} {cs : List Value} (h : Sl w sz v n cs) (hb : InB B T v) (hf : Fr B T w w') : Sl w' sz v n cs := by
  obtain ⟨ao, cap, rfl, h2, h3, h4, h5⟩ := h
  refine ⟨ao, cap, rfl, h2, h3, h4, fun i hi => ?_⟩
  obtain ⟨q, off, rfl, hc⟩ := h5 i hi
  obtain ⟨h6, h7⟩ := hb q rfl
  exact ⟨q, off, rfl, by rw [World.cell?_of_block (a := ⟨q, off + i, none⟩) (hf q h6 h7)]; exact hc⟩
/-- A slice of numbers, a slice of slices, within some blocks. -/
def IntsIn (B T : Nat) (w : World) (v : Value) (l : List Int) : Prop := Ints w v l ∧ InB B T v
def RwsIn (B T : Nat) (w : World) (v : Value) (l : List (List Int)) : Prop := ∃ R, RwsAt w v l R ∧ InB B T v ∧ ∀ i, i < l.length → InB B T (R i)
theorem IntsIn.fr {B T : Nat} {w w' : World} {v : Value} {l : List Int} (h : IntsIn B T w v l) (hf : Fr B T w w') : Ints w' v l := Sl.fr h.1 h.2 hf
theorem RwsIn.fr {B T : Nat} {w w' : World} {v : Value} {l : List (List Int)} (h : RwsIn B T w v l) (hf : Fr B T w w') : Rws w' v l := by
  obtain ⟨R, h1, h2, h3⟩ := h
  exact ⟨R, h1.sl.fr h2 hf, fun i hi => Sl.fr (h1.row i hi) (h3 i hi) hf⟩
theorem Lst.intsIn {B : Nat} {w : World} {e : Nat} {v : Value} {l : List Int} {E : Nat → List Value} (h : Lst rgInt B w e 1 v l E) : IntsIn B w.heap.size w v l := ⟨Ints.of_own h.ints, fun k hk => h.ints.lt k hk⟩
theorem Lst.rwsIn {B : Nat} {w : World} {e : Nat} {v : Value} {l : List (List Int)} {E : Nat → List Value} (h : Lst rgInts B w e 1 v l E) : RwsIn B w.heap.size w v l := by
  obtain ⟨R, h1, h2⟩ := h.rws
  exact ⟨R, h1, fun k hk => h.own.lt k hk, h2⟩
theorem rst_ownB {w0 w w' : World} {q B e sz n : Nat} {v u : Value} {b : List Int} {st : Option (List Int)} {xs : List Value} (h : RSt w0 w q v b st) (ho : w.ownsRow B e sz u n xs) (hq : q < B) (hg : w.grownBy w' u.ownBlock) : RSt w0 w' q v b st := by
  obtain ⟨a, bad, hc, ha, hx, hq0, e⟩ := h
  refine ⟨a, bad, hc.grown hg (fun e => by have := (ho.lt q e.symm).1; omega), ha, Below.grown hx hg hx.size (fun k hk => by have := (ho.lt k hk).1; omega), hq0, e⟩
/-- The list is read, or the bytes are none. -/
theorem dl_fin {α : Type} {one : List Int → Option (α × List Int)} {r : Option (List α × List Int)} {l : List α} {m i : Nat} {b : List Int} {a : Nat} {bad : Bool} (hi : i ≤ m) (hn : ¬ (i < m ∧ bad = false)) (h : r = (if bad = true then none else some (b.drop a)).bind fun t => (rdN one (m - i) t).map fun p => (l ++ p.1, p.2)) : r = (if bad = true then none else some (b.drop a)).map fun t => (l, t) := by
  cases bad
  · obtain rfl : i = m := by
      have : ¬ i < m := fun hlt => hn ⟨hlt, rfl⟩
      omega
    exact dl_end h
  · rw [h]; rfl
theorem CellsAt.ext {w w' : World} {b : Nat} {cs : List Value} (h : CellsAt w b cs) (hx : Ext w w') (hl : 0 < cs.length) : CellsAt w' b cs := h.grown (hx.grownBy none) (by simp) hl
theorem own_ne {w : World} {B e sz n k : Nat} {u : Value} {xs : List Value} (ho : w.ownsRow B e sz u n xs) (hk : k < B) : some k ≠ u.ownBlock := fun hc => by have := (ho.lt k hc.symm).1; omega
end Go.Att
namespace Go.Proofs.YthpgmjdepigihaaDoor
open Go.RowKit Go.Att
set_option maxRecDepth 100000 in
theorem res_dread {w : World} {b : Nat} {v0 v1 v2 v3 v4 v5 v6 v7 v8 v9 v10 v11 : Value} {x : Bool} (hc : ∀ i (h : i < [v0, v1, v2, v3, v4, v5, v6, v7, v8, v9, v10, v11].length), w.cell? ⟨b, i, none⟩ = some [v0, v1, v2, v3, v4, v5, v6, v7, v8, v9, v10, v11][i]) (tmps : Array Value) (h2 : tmps.getD 2 undef = .pointer (some ⟨b, 0, none⟩)) (h3 : tmps.getD 3 undef = .bool x) :
    (results Tryd.f13 tmps).run Tryd.prog w = .ok (.tuple #[.agg #[v0, v1, v2, v3, v4, v5, v6, v7, v8, v9, v10, v11], .bool x]) w := by
  have h2' : tmps[2]?.getD undef = .pointer (some ⟨b, 0, none⟩) := by simpa using h2
  have h3' : tmps[3]?.getD undef = .bool x := by simpa using h3
  have k0 : w.cell? ⟨b, 0, none⟩ = some v0 := hc 0 (by simp)
  have k1 : w.cell? ⟨b, 1, none⟩ = some v1 := hc 1 (by simp)
  have k2 : w.cell? ⟨b, 2, none⟩ = some v2 := hc 2 (by simp)
  have k3 : w.cell? ⟨b, 3, none⟩ = some v3 := hc 3 (by simp)
  have k4 : w.cell? ⟨b, 4, none⟩ = some v4 := hc 4 (by simp)
  have k5 : w.cell? ⟨b, 5, none⟩ = some v5 := hc 5 (by simp)
  have k6 : w.cell? ⟨b, 6, none⟩ = some v6 := hc 6 (by simp)
  have k7 : w.cell? ⟨b, 7, none⟩ = some v7 := hc 7 (by simp)
  have k8 : w.cell? ⟨b, 8, none⟩ = some v8 := hc 8 (by simp)
  have k9 : w.cell? ⟨b, 9, none⟩ = some v9 := hc 9 (by simp)
  have k10 : w.cell? ⟨b, 10, none⟩ = some v10 := hc 10 (by simp)
  have k11 : w.cell? ⟨b, 11, none⟩ = some v11 := hc 11 (by simp)
  clear hc
  simp [results, Tryd.results13, go_sem, h2', h3', k0, k1, k2, k3, k4, k5, k6, k7, k8, k9, k10, k11]
set_option maxRecDepth 100000 in
set_option maxHeartbeats 8000000 in
theorem dread_any {w : World} {v : Value} {b : List Int} (hv : Byts w v b) (hb : BytesIn b) (h32 : b.length ≤ 4294967296) :
    Calls Tryd.prog 13 #[v] w (DRead w b) := by
  have hll := Sl.run_len (P := Tryd.prog) hv slByts
  obtain ⟨ao, cap, rfl⟩ := hv.shape
  have s1 : (w.alloc (Obj.cells #[.slice none 0 0, .slice none 0 0, .int .i64 0, .slice none 0 0, .slice none 0 0, .slice none 0 0, .slice none 0 0, .slice none 0 0, .slice none 0 0, .slice none 0 0, .slice none 0 0, .slice none 0 0] 30)).heap.size = w.heap.size + 1 := by simp
  have s2 : ((w.alloc (Obj.cells #[.slice none 0 0, .slice none 0 0, .int .i64 0, .slice none 0 0, .slice none 0 0, .slice none 0 0, .slice none 0 0, .slice none 0 0, .slice none 0 0, .slice none 0 0, .slice none 0 0, .slice none 0 0] 30)).alloc (Obj.cells #[.slice none 0 0, .slice none 0 0, .int .i64 0, .slice none 0 0, .slice none 0 0, .slice none 0 0, .slice none 0 0, .slice none 0 0, .slice none 0 0, .slice none 0 0, .slice none 0 0, .slice none 0 0] 30)).heap.size = w.heap.size + 1 + 1 := by simp
  have s3 : (((w.alloc (Obj.cells #[.slice none 0 0, .slice none 0 0, .int .i64 0, .slice none 0 0, .slice none 0 0, .slice none 0 0, .slice none 0 0, .slice none 0 0, .slice none 0 0, .slice none 0 0, .slice none 0 0, .slice none 0 0] 30)).alloc (Obj.cells #[.slice none 0 0, .slice none 0 0, .int .i64 0, .slice none 0 0, .slice none 0 0, .slice none 0 0, .slice none 0 0, .slice none 0 0, .slice none 0 0, .slice none 0 0, .slice none 0 0, .slice none 0 0] 30)).alloc (Obj.cells #[.slice ao b.length cap, .int .i64 0, .bool false] 113)).heap.size = w.heap.size + 1 + 1 + 1 := by simp
  have x1 := Ext.alloc w (Obj.cells #[.slice none 0 0, .slice none 0 0, .int .i64 0, .slice none 0 0, .slice none 0 0, .slice none 0 0, .slice none 0 0, .slice none 0 0, .slice none 0 0, .slice none 0 0, .slice none 0 0, .slice none 0 0] 30)
  have x2 := Ext.alloc (w.alloc (Obj.cells #[.slice none 0 0, .slice none 0 0, .int .i64 0, .slice none 0 0, .slice none 0 0, .slice none 0 0, .slice none 0 0, .slice none 0 0, .slice none 0 0, .slice none 0 0, .slice none 0 0, .slice none 0 0] 30)) (Obj.cells #[.slice none 0 0, .slice none 0 0, .int .i64 0, .slice none 0 0, .slice none 0 0, .slice none 0 0, .slice none 0 0, .slice none 0 0, .slice none 0 0, .slice none 0 0, .slice none 0 0, .slice none 0 0] 30)
  have x3 := Ext.alloc ((w.alloc (Obj.cells #[.slice none 0 0, .slice none 0 0, .int .i64 0, .slice none 0 0, .slice none 0 0, .slice none 0 0, .slice none 0 0, .slice none 0 0, .slice none 0 0, .slice none 0 0, .slice none 0 0, .slice none 0 0] 30)).alloc (Obj.cells #[.slice none 0 0, .slice none 0 0, .int .i64 0, .slice none 0 0, .slice none 0 0, .slice none 0 0, .slice none 0 0, .slice none 0 0, .slice none 0 0, .slice none 0 0, .slice none 0 0, .slice none 0 0] 30)) (Obj.cells #[.slice ao b.length cap, .int .i64 0, .bool false] 113)
  have HZ : Hid (CellsAt (((w.alloc (Obj.cells #[.slice none 0 0, .slice none 0 0, .int .i64 0, .slice none 0 0, .slice none 0 0, .slice none 0 0, .slice none 0 0, .slice none 0 0, .slice none 0 0, .slice none 0 0, .slice none 0 0, .slice none 0 0] 30)).alloc (Obj.cells #[.slice none 0 0, .slice none 0 0, .int .i64 0, .slice none 0 0, .slice none 0 0, .slice none 0 0, .slice none 0 0, .slice none 0 0, .slice none 0 0, .slice none 0 0, .slice none 0 0, .slice none 0 0] 30)).alloc (Obj.cells #[.slice ao b.length cap, .int .i64 0, .bool false] 113)) w.heap.size zeros12) := Lib.hid ((CellsAt.new w zeros12 30).grown ((x2.trans x3).grownBy none) (by simp) (by decide))
  have HD : Hid (CellsAt (((w.alloc (Obj.cells #[.slice none 0 0, .slice none 0 0, .int .i64 0, .slice none 0 0, .slice none 0 0, .slice none 0 0, .slice none 0 0, .slice none 0 0, .slice none 0 0, .slice none 0 0, .slice none 0 0, .slice none 0 0] 30)).alloc (Obj.cells #[.slice none 0 0, .slice none 0 0, .int .i64 0, .slice none 0 0, .slice none 0 0, .slice none 0 0, .slice none 0 0, .slice none 0 0, .slice none 0 0, .slice none 0 0, .slice none 0 0, .slice none 0 0] 30)).alloc (Obj.cells #[.slice ao b.length cap, .int .i64 0, .bool false] 113)) (w.heap.size + 1) zeros12) := Lib.hid (by
    have := (CellsAt.new (w.alloc (Obj.cells #[.slice none 0 0, .slice none 0 0, .int .i64 0, .slice none 0 0, .slice none 0 0, .slice none 0 0, .slice none 0 0, .slice none 0 0, .slice none 0 0, .slice none 0 0, .slice none 0 0, .slice none 0 0] 30)) zeros12 30).grown (x3.grownBy none) (by simp) (by decide)
    rw [s1] at this; exact this)
  have c3 := C3.new ((w.alloc (Obj.cells #[.slice none 0 0, .slice none 0 0, .int .i64 0, .slice none 0 0, .slice none 0 0, .slice none 0 0, .slice none 0 0, .slice none 0 0, .slice none 0 0, .slice none 0 0, .slice none 0 0, .slice none 0 0] 30)).alloc (Obj.cells #[.slice none 0 0, .slice none 0 0, .int .i64 0, .slice none 0 0, .slice none 0 0, .slice none 0 0, .slice none 0 0, .slice none 0 0, .slice none 0 0, .slice none 0 0, .slice none 0 0, .slice none 0 0] 30)) (.slice ao b.length cap) (.int .i64 0) (.bool false) 113
  rw [s2] at c3
  have HR : Hid (RSt w (((w.alloc (Obj.cells #[.slice none 0 0, .slice none 0 0, .int .i64 0, .slice none 0 0, .slice none 0 0, .slice none 0 0, .slice none 0 0, .slice none 0 0, .slice none 0 0, .slice none 0 0, .slice none 0 0, .slice none 0 0] 30)).alloc (Obj.cells #[.slice none 0 0, .slice none 0 0, .int .i64 0, .slice none 0 0, .slice none 0 0, .slice none 0 0, .slice none 0 0, .slice none 0 0, .slice none 0 0, .slice none 0 0, .slice none 0 0, .slice none 0 0] 30)).alloc (Obj.cells #[.slice ao b.length cap, .int .i64 0, .bool false] 113)) (w.heap.size + 1 + 1) (.slice ao b.length cap) b (some b)) := Lib.hid ⟨0, false, c3, Nat.zero_le _, (x1.trans x2).trans x3, by omega, by simp⟩
  have HSZ := Lib.hid (show w.heap.size + 1 + 1 + 1 ≤ (((w.alloc (Obj.cells #[.slice none 0 0, .slice none 0 0, .int .i64 0, .slice none 0 0, .slice none 0 0, .slice none 0 0, .slice none 0 0, .slice none 0 0, .slice none 0 0, .slice none 0 0, .slice none 0 0, .slice none 0 0] 30)).alloc (Obj.cells #[.slice none 0 0, .slice none 0 0, .int .i64 0, .slice none 0 0, .slice none 0 0, .slice none 0 0, .slice none 0 0, .slice none 0 0, .slice none 0 0, .slice none 0 0, .slice none 0 0, .slice none 0 0] 30)).alloc (Obj.cells #[.slice ao b.length cap, .int .i64 0, .bool false] 113)).heap.size by rw [s3]; exact Nat.le_refl _)
  have HE : Hid (rdV b = (some b).bind fun t => (rdIs t).bind fun a => (rdIs a.2).bind fun c => (rdI c.2).bind fun d => (rdRs d.2).bind fun e => (rdIs e.2).bind fun f => (rdOs f.2).bind fun g => (rdO g.2).bind fun h => (rdO h.2).map fun i => ((⟨a.1, c.1, d.1, e.1, f.1, g.1, h.1, i.1⟩ : Vch), i.2)) := Lib.hid rfl
  have HV := Lib.hid hv; have HB := Lib.hid hb; have L := Lib.hid h32
  clear s1 s2 s3 x1 x2 x3 c3 hv hb h32
  go_enter Tryd.func13, Tryd.ntmps13
  go_wp2_with fail
  generalize (((w.alloc (Obj.cells #[.slice none 0 0, .slice none 0 0, .int .i64 0, .slice none 0 0, .slice none 0 0, .slice none 0 0, .slice none 0 0, .slice none 0 0, .slice none 0 0, .slice none 0 0, .slice none 0 0, .slice none 0 0] 30)).alloc (Obj.cells #[.slice none 0 0, .slice none 0 0, .int .i64 0, .slice none 0 0, .slice none 0 0, .slice none 0 0, .slice none 0 0, .slice none 0 0, .slice none 0 0, .slice none 0 0, .slice none 0 0, .slice none 0 0] 30)).alloc (Obj.cells #[.slice ao b.length cap, .int .i64 0, .bool false] 113)) = W0 at *
  have C := dnums_any HV.out HB.out HR.out L.out
  (with_reducible refine C.mono ?_)
  rintro e w1 ⟨x1, u1, E1, st1, rfl, hE, hR, hr, -, hG⟩
  obtain ⟨a1, c1, rfl⟩ := own_shape3 hE.own
  have hd := HD.out.grown hG (by simp <;> omega) (by first | decide | simp)
  have k0 := hd.at_ 0 (by first | decide | simp)
  have f0 := hd.fr 0 (by first | decide | simp)
  have hsz : w.heap.size + 1 + 1 + 1 ≤ w1.heap.size := Nat.le_trans HSZ.out hG.size
  have gs : w1.grownBy (w1.setCell ⟨w.heap.size + 1, 0, none⟩ (.slice a1 x1.length c1)) (some (w.heap.size + 1)) := setCell_grown _ _ _ _
  have HD2 : Hid (CellsAt (w1.setCell ⟨w.heap.size + 1, 0, none⟩ (.slice a1 x1.length c1)) (w.heap.size + 1) [.slice a1 x1.length c1, .slice none 0 0, .int .i64 0, .slice none 0 0, .slice none 0 0, .slice none 0 0, .slice none 0 0, .slice none 0 0, .slice none 0 0, .slice none 0 0, .slice none 0 0, .slice none 0 0]) := Lib.hid (hd.set 0 (by first | decide | simp) (.slice a1 x1.length c1))
  have HZ2 := Lib.hid ((HZ.out.grown hG (by simp <;> omega) (by decide)).grown gs (by simp) (by decide))
  have HR2 := Lib.hid (rst_grown hR gs (by omega) (by omega))
  have HSZ2 := Lib.hid (show w.heap.size + 1 + 1 + 1 ≤ (w1.setCell ⟨w.heap.size + 1, 0, none⟩ (.slice a1 x1.length c1)).heap.size from Nat.le_trans hsz gs.size)
  have HE2 := Lib.hid (rv_step HE.out hr)
  have P1 := Lib.hid ((hE.lower (B' := w.heap.size + 1 + 1 + 1) HSZ.out).low gs (by omega))
  clear HD HZ HR HSZ HE gs hd hsz C hR hG hr hE 
  have HD := HD2; clear HD2
  have HZ := HZ2; clear HZ2
  have HR := HR2; clear HR2
  have HSZ := HSZ2; clear HSZ2
  have HE := HE2; clear HE2
  go_wp2_with fail
  clear k0 f0
  generalize (w1.setCell ⟨w.heap.size + 1, 0, none⟩ (.slice a1 x1.length c1)) = W1 at *
  have C := dnums_any HV.out HB.out HR.out L.out
  (with_reducible refine C.mono ?_)
  rintro e w2 ⟨x2, u2, E2, st2, rfl, hE, hR, hr, -, hG⟩
  obtain ⟨a2, c2, rfl⟩ := own_shape3 hE.own
  have hd := HD.out.grown hG (by simp <;> omega) (by first | decide | simp)
  have k0 := hd.at_ 1 (by first | decide | simp)
  have f0 := hd.fr 1 (by first | decide | simp)
  have hsz : w.heap.size + 1 + 1 + 1 ≤ w2.heap.size := Nat.le_trans HSZ.out hG.size
  have gs : w2.grownBy (w2.setCell ⟨w.heap.size + 1, 1, none⟩ (.slice a2 x2.length c2)) (some (w.heap.size + 1)) := setCell_grown _ _ _ _
  have HD2 : Hid (CellsAt (w2.setCell ⟨w.heap.size + 1, 1, none⟩ (.slice a2 x2.length c2)) (w.heap.size + 1) [.slice a1 x1.length c1, .slice a2 x2.length c2, .int .i64 0, .slice none 0 0, .slice none 0 0, .slice none 0 0, .slice none 0 0, .slice none 0 0, .slice none 0 0, .slice none 0 0, .slice none 0 0, .slice none 0 0]) := Lib.hid (hd.set 1 (by first | decide | simp) (.slice a2 x2.length c2))
  have HZ2 := Lib.hid ((HZ.out.grown hG (by simp <;> omega) (by decide)).grown gs (by simp) (by decide))
  have HR2 := Lib.hid (rst_grown hR gs (by omega) (by omega))
  have HSZ2 := Lib.hid (show w.heap.size + 1 + 1 + 1 ≤ (w2.setCell ⟨w.heap.size + 1, 1, none⟩ (.slice a2 x2.length c2)).heap.size from Nat.le_trans hsz gs.size)
  have HE2 := Lib.hid (rv_step HE.out hr)
  have NP1 := Lib.hid ((P1.out.low hG (by omega)).low gs (by omega))
  have P2 := Lib.hid ((hE.lower (B' := w.heap.size + 1 + 1 + 1) HSZ.out).low gs (by omega))
  clear HD HZ HR HSZ HE gs hd hsz C hR hG hr hE P1
  have HD := HD2; clear HD2
  have HZ := HZ2; clear HZ2
  have HR := HR2; clear HR2
  have HSZ := HSZ2; clear HSZ2
  have HE := HE2; clear HE2
  have P1 := NP1; clear NP1
  go_wp2_with fail
  clear k0 f0
  generalize (w2.setCell ⟨w.heap.size + 1, 1, none⟩ (.slice a2 x2.length c2)) = W2 at *
  have C := dnum_any HV.out HB.out HR.out
  (with_reducible refine C.mono ?_)
  rintro e w3 ⟨x3, st3, rfl, hR, hr, -, hG⟩
  have hd := HD.out.grown hG (by simp <;> omega) (by first | decide | simp)
  have k0 := hd.at_ 2 (by first | decide | simp)
  have f0 := hd.fr 2 (by first | decide | simp)
  have hsz : w.heap.size + 1 + 1 + 1 ≤ w3.heap.size := Nat.le_trans HSZ.out hG.size
  have gs : w3.grownBy (w3.setCell ⟨w.heap.size + 1, 2, none⟩ (.int .i64 x3)) (some (w.heap.size + 1)) := setCell_grown _ _ _ _
  have HD2 : Hid (CellsAt (w3.setCell ⟨w.heap.size + 1, 2, none⟩ (.int .i64 x3)) (w.heap.size + 1) [.slice a1 x1.length c1, .slice a2 x2.length c2, .int .i64 x3, .slice none 0 0, .slice none 0 0, .slice none 0 0, .slice none 0 0, .slice none 0 0, .slice none 0 0, .slice none 0 0, .slice none 0 0, .slice none 0 0]) := Lib.hid (hd.set 2 (by first | decide | simp) (.int .i64 x3))
  have HZ2 := Lib.hid ((HZ.out.grown hG (by simp <;> omega) (by decide)).grown gs (by simp) (by decide))
  have HR2 := Lib.hid (rst_grown hR gs (by omega) (by omega))
  have HSZ2 := Lib.hid (show w.heap.size + 1 + 1 + 1 ≤ (w3.setCell ⟨w.heap.size + 1, 2, none⟩ (.int .i64 x3)).heap.size from Nat.le_trans hsz gs.size)
  have HE2 := Lib.hid (rv_step HE.out hr)
  have NP1 := Lib.hid ((P1.out.low hG (by omega)).low gs (by omega))
  have NP2 := Lib.hid ((P2.out.low hG (by omega)).low gs (by omega))
  clear HD HZ HR HSZ HE gs hd hsz C hR hG hr P1 P2
  have HD := HD2; clear HD2
  have HZ := HZ2; clear HZ2
  have HR := HR2; clear HR2
  have HSZ := HSZ2; clear HSZ2
  have HE := HE2; clear HE2
  have P1 := NP1; clear NP1
  have P2 := NP2; clear NP2
  go_wp2_with fail
  clear k0 f0
  generalize (w3.setCell ⟨w.heap.size + 1, 2, none⟩ (.int .i64 x3)) = W3 at *
  have C := drows_any HV.out HB.out HR.out L.out
  (with_reducible refine C.mono ?_)
  rintro e w4 ⟨x4, u4, E4, st4, rfl, hE, hR, hr, -, hG⟩
  obtain ⟨a4, c4, rfl⟩ := own_shape3 hE.own
  have hd := HD.out.grown hG (by simp <;> omega) (by first | decide | simp)
  have k0 := hd.at_ 3 (by first | decide | simp)
  have f0 := hd.fr 3 (by first | decide | simp)
  have hsz : w.heap.size + 1 + 1 + 1 ≤ w4.heap.size := Nat.le_trans HSZ.out hG.size
  have gs : w4.grownBy (w4.setCell ⟨w.heap.size + 1, 3, none⟩ (.slice a4 x4.length c4)) (some (w.heap.size + 1)) := setCell_grown _ _ _ _
  have HD2 : Hid (CellsAt (w4.setCell ⟨w.heap.size + 1, 3, none⟩ (.slice a4 x4.length c4)) (w.heap.size + 1) [.slice a1 x1.length c1, .slice a2 x2.length c2, .int .i64 x3, .slice a4 x4.length c4, .slice none 0 0, .slice none 0 0, .slice none 0 0, .slice none 0 0, .slice none 0 0, .slice none 0 0, .slice none 0 0, .slice none 0 0]) := Lib.hid (hd.set 3 (by first | decide | simp) (.slice a4 x4.length c4))
  have HZ2 := Lib.hid ((HZ.out.grown hG (by simp <;> omega) (by decide)).grown gs (by simp) (by decide))
  have HR2 := Lib.hid (rst_grown hR gs (by omega) (by omega))
  have HSZ2 := Lib.hid (show w.heap.size + 1 + 1 + 1 ≤ (w4.setCell ⟨w.heap.size + 1, 3, none⟩ (.slice a4 x4.length c4)).heap.size from Nat.le_trans hsz gs.size)
  have HE2 := Lib.hid (rv_step HE.out hr)
  have NP1 := Lib.hid ((P1.out.low hG (by omega)).low gs (by omega))
  have NP2 := Lib.hid ((P2.out.low hG (by omega)).low gs (by omega))
  have P4 := Lib.hid ((hE.lower (B' := w.heap.size + 1 + 1 + 1) HSZ.out).low gs (by omega))
  clear HD HZ HR HSZ HE gs hd hsz C hR hG hr hE P1 P2
  have HD := HD2; clear HD2
  have HZ := HZ2; clear HZ2
  have HR := HR2; clear HR2
  have HSZ := HSZ2; clear HSZ2
  have HE := HE2; clear HE2
  have P1 := NP1; clear NP1
  have P2 := NP2; clear NP2
  go_wp2_with fail
  clear k0 f0
  generalize (w4.setCell ⟨w.heap.size + 1, 3, none⟩ (.slice a4 x4.length c4)) = W4 at *
  have C := dnums_any HV.out HB.out HR.out L.out
  (with_reducible refine C.mono ?_)
  rintro e w5 ⟨x5, u5, E5, st5, rfl, hE, hR, hr, -, hG⟩
  obtain ⟨a5, c5, rfl⟩ := own_shape3 hE.own
  have hd := HD.out.grown hG (by simp <;> omega) (by first | decide | simp)
  have k0 := hd.at_ 4 (by first | decide | simp)
  have f0 := hd.fr 4 (by first | decide | simp)
  have hsz : w.heap.size + 1 + 1 + 1 ≤ w5.heap.size := Nat.le_trans HSZ.out hG.size
  have gs : w5.grownBy (w5.setCell ⟨w.heap.size + 1, 4, none⟩ (.slice a5 x5.length c5)) (some (w.heap.size + 1)) := setCell_grown _ _ _ _
  have HD2 : Hid (CellsAt (w5.setCell ⟨w.heap.size + 1, 4, none⟩ (.slice a5 x5.length c5)) (w.heap.size + 1) [.slice a1 x1.length c1, .slice a2 x2.length c2, .int .i64 x3, .slice a4 x4.length c4, .slice a5 x5.length c5, .slice none 0 0, .slice none 0 0, .slice none 0 0, .slice none 0 0, .slice none 0 0, .slice none 0 0, .slice none 0 0]) := Lib.hid (hd.set 4 (by first | decide | simp) (.slice a5 x5.length c5))
  have HZ2 := Lib.hid ((HZ.out.grown hG (by simp <;> omega) (by decide)).grown gs (by simp) (by decide))
  have HR2 := Lib.hid (rst_grown hR gs (by omega) (by omega))
  have HSZ2 := Lib.hid (show w.heap.size + 1 + 1 + 1 ≤ (w5.setCell ⟨w.heap.size + 1, 4, none⟩ (.slice a5 x5.length c5)).heap.size from Nat.le_trans hsz gs.size)
  have HE2 := Lib.hid (rv_step HE.out hr)
  have NP1 := Lib.hid ((P1.out.low hG (by omega)).low gs (by omega))
  have NP2 := Lib.hid ((P2.out.low hG (by omega)).low gs (by omega))
  have NP4 := Lib.hid ((P4.out.low hG (by omega)).low gs (by omega))
  have P5 := Lib.hid ((hE.lower (B' := w.heap.size + 1 + 1 + 1) HSZ.out).low gs (by omega))
  clear HD HZ HR HSZ HE gs hd hsz C hR hG hr hE P1 P2 P4
  have HD := HD2; clear HD2
  have HZ := HZ2; clear HZ2
  have HR := HR2; clear HR2
  have HSZ := HSZ2; clear HSZ2
  have HE := HE2; clear HE2
  have P1 := NP1; clear NP1
  have P2 := NP2; clear NP2
  have P4 := NP4; clear NP4
  go_wp2_with fail
  clear k0 f0
  generalize (w5.setCell ⟨w.heap.size + 1, 4, none⟩ (.slice a5 x5.length c5)) = W5 at *
  have C := dcount_any HV.out HB.out HR.out
  (with_reducible refine C.mono ?_)
  rintro e w6 ⟨xn, st6, rfl, hR, hr, hz, hG⟩
  obtain ⟨m, rfl, hm⟩ := cnt_nat hr hz hR
  have HM := Lib.hid hm
  have HD2 := Lib.hid (HD.out.grown hG (by simp <;> omega) (by first | decide | simp))
  have HZ2 := Lib.hid (HZ.out.grown hG (by simp <;> omega) (by decide))
  have HSZ2 := Lib.hid (Nat.le_trans HSZ.out hG.size)
  have HSO := Lib.hid (dl_start (one := rdO) hr)
  have HR2 := Lib.hid hR

  have NP1 := Lib.hid (P1.out.low hG (by omega)).intsIn
  have NP2 := Lib.hid (P2.out.low hG (by omega)).intsIn
  have NP4 := Lib.hid (P4.out.low hG (by omega)).rwsIn
  have NP5 := Lib.hid (P5.out.low hG (by omega)).intsIn
  have HE0 := HE
  clear HD HZ HR HSZ HE C hR hG hr hz P1 P2 P4 P5

  have HD := HD2; clear HD2
  have HZ := HZ2; clear HZ2
  have HR := HR2; clear HR2
  have HSZ := HSZ2; clear HSZ2
  have P1 := NP1; clear NP1
  have P2 := NP2; clear NP2
  have P4 := NP4; clear NP4
  have P5 := NP5; clear NP5
  go_wp2_with fail
  go_loopw [7] (fun x7 wr => ∃ (i : Nat) (l : List Opn) (E : Nat → List Value) (st' : Option (List Int)) (au : Option Addr) (cu : Nat), i ≤ m ∧ x7 = .int .i64 i ∧ Hid (l.length = i) ∧ Hid (CellsAt wr (w.heap.size + 1) [.slice a1 x1.length c1, .slice a2 x2.length c2, .int .i64 x3, .slice a4 x4.length c4, .slice a5 x5.length c5, .slice au l.length cu, .slice none 0 0, .slice none 0 0, .slice none 0 0, .slice none 0 0, .slice none 0 0, .slice none 0 0]) ∧ Hid (CellsAt wr w.heap.size zeros12) ∧ Hid (RSt w wr (w.heap.size + 1 + 1) (.slice ao b.length cap) b st') ∧ Hid (w6.heap.size ≤ wr.heap.size) ∧ Hid (Lst rgOpn w6.heap.size wr 28 3 (.slice au l.length cu) l E) ∧ Hid (st5.bind (rdL rdO) = st'.bind fun t => (rdN rdO (m - i) t).map fun p => (l ++ p.1, p.2)) ∧ Hid (Fr (w.heap.size + 1 + 1 + 1) w6.heap.size w6 wr)) (fun x7 _ => m - (intOf x7).toNat)
  case atStart => exact ⟨0, [], fun _ => [], st6, none, 0, Nat.zero_le _, rfl, Lib.hid rfl, HD, HZ, HR, Lib.hid (Nat.le_refl _), Lib.hid (Lst.nil _ _ _ _ (World.ownsRow_nil _ _ _ _)), HSO, Lib.hid (Fr.refl _ _ _)⟩
  case round =>
    clear HD HZ HR HSO
    obtain ⟨i, l, E, st', au, cu, hi, rfl, HLN, HD, HZ, HRI, HSR, HLI, HEQ, HFR⟩ := hrel
    obtain ⟨a, bad, hc, ha, hx, hq, rfl⟩ := HRI.out
    obtain ⟨e0, e1, e2, f0, f1, f2⟩ := hc
    clear f0 f1 e0 e1 hx f2 ha hq
    by_cases hgo : i < m ∧ bad = false
    · obtain ⟨him, rfl⟩ := hgo
      have hd : decide (i < m) = true := decide_eq_true him
      have hib : i + 1 ≤ 4294967296 := by have := HM.out; have := L.out; omega
      have HRT : Hid (RSt w wr (w.heap.size + 1 + 1) (.slice ao b.length cap) b (some (b.drop a))) := HRI
      have HET : Hid (st5.bind (rdL rdO) = (some (b.drop a)).bind fun t => (rdN rdO (m - i) t).map fun p => (l ++ p.1, p.2)) := HEQ
      clear HRI HEQ
      go_wp2_with fail
      have C := dopn_any HV.out HB.out HRT.out L.out
      (with_reducible refine C.mono ?_)
      rintro e w7 ⟨x', ya, yb, yc, st2, rfl, hsat, hR, hr, hG⟩
      obtain ⟨aa, ca, ab, cb, ac, cc, rfl, rfl, rfl⟩ := opn_shapes hsat
      clear C e2
      have HRS := Lib.hid hr
      have hxb := Ext.alloc w7 (Obj.cells #[.slice aa x'.1.length ca, .slice ab x'.2.1.length cb, .slice ac x'.2.2.length cc] 28)
      have hd5 := (HD.out.grown hG (by simp <;> omega) (by first | decide | simp)).ext hxb (by first | decide | simp)
      have HZ5 := Lib.hid ((HZ.out.grown hG (by simp <;> omega) (by decide)).ext hxb (by decide))
      have k5 := hd5.at_ 5 (by first | decide | simp)
      have f5 := hd5.fr 5 (by first | decide | simp)
      simp only [List.getElem_cons_zero, List.getElem_cons_succ] at k5
      have HD5 := Lib.hid hd5
      have HR5 := Lib.hid (rst_ext hR hxb)
      have HLB := Lib.hid ((HLI.out.low hG (by have := HSZ.out; omega)).ext hxb)
      have HF5 := Lib.hid (HFR.out.trans ((Fr.of hG HSR.out (fun k hk => by have := Option.some.inj hk; omega)).trans (Fr.of (hxb.grownBy none) (Nat.le_trans HSR.out hG.size) (fun k hk => by cases hk))))
      have HS5 := Lib.hid (Nat.le_trans HSR.out (Nat.le_trans hG.size hxb.size))
      have HSAT := Lib.hid (rgOpn.keep hsat (hxb.grownBy none) (fun k hk => by cases hk))
      have HO3 := HLB.out.own
      have hs7 : w7.heap.size ≤ (w7.alloc (Obj.cells #[.slice aa x'.1.length ca, .slice ab x'.2.1.length cb, .slice ac x'.2.2.length cc] 28)).heap.size := hxb.size
      have HS7 := Lib.hid hs7
      have HGS := Lib.hid hG.size
      have hln : l.length + 1 ≤ 4294967296 := by have := HLN.out; have := HM.out; have := L.out; omega
      have hsx : w6.heap.size ≤ (w7.alloc (Obj.cells #[.slice aa x'.1.length ca, .slice ab x'.2.1.length cb, .slice ac x'.2.2.length cc] 28)).heap.size := HS5.out
      have HSX := Lib.hid hsx
      clear hsat hR hr hG hxb hd5 hs7 hd hsx
      go_wp2_with (at_builtin; refine wpList_appNw (W := w7.alloc (Obj.cells #[.slice aa x'.1.length ca, .slice ab x'.2.1.length cb, .slice ac x'.2.2.length cc] 28)) rfl _ _ 24 rfl slOpnY rfl HSX.out HO3 rfl #[.slice aa x'.1.length ca, .slice ab x'.2.1.length cb, .slice ac x'.2.2.length cc] rfl (by intro u hu; simp at hu; rcases hu with rfl | rfl | rfl <;> rfl) (by first | rfl | (simp; rfl)) hln (by omega) ?_; intro v4 w4 HO4 HG4 HM4; obtain ⟨av, cv, rfl⟩ := own_shape3 HO4; have hd4 := HD5.out.grown HG4 (own_ne HO3 (by have := HSZ.out; omega)) (by first | decide | simp); have j5 := hd4.at_ 5 (by first | decide | simp); have g5 := hd4.fr 5 (by first | decide | simp); simp only [List.getElem_cons_zero, List.getElem_cons_succ] at j5; have HD4 := Lib.hid hd4; clear hd4)
      have gs : w4.grownBy (w4.setCell ⟨w.heap.size + 1, 5, none⟩ (.slice av (l.length + 1) cv)) (some (w.heap.size + 1)) := setCell_grown _ _ _ _
      have GS := Lib.hid gs
      clear gs
      go_roundw
      case rel =>
        have hown : ∀ k, _ → k < wr.heap.size ∨ w7.heap.size ≤ k := fun k hk => .inl (HLI.out.own.lt k hk).2
        have hpush := (HLB.out.push HSR.out HS7.out hown HSAT.out HO4 HG4 HM4).low GS.out (by have := HSZ.out; omega)
        refine ⟨i + 1, l ++ [x'], _, st2, av, cv, by omega, by go_num, Lib.hid (by rw [List.length_append, List.length_singleton, HLN.out]), Lib.hid (by rw [List.length_append, List.length_singleton]; exact HD4.out.set 5 (by first | decide | simp) _), Lib.hid ((HZ5.out.grown HG4 (own_ne HO3 (by have := HSZ.out; omega)) (by decide)).grown GS.out (by simp) (by decide)), Lib.hid (rst_grown (rst_ownB HR5.out HO3 (by have := HSZ.out; omega) HG4) GS.out (by omega) (by omega)), Lib.hid (Nat.le_trans HSX.out (Nat.le_trans HG4.size GS.out.size)), Lib.hid (by rw [List.length_append, List.length_singleton]; exact hpush), Lib.hid (dl_step him HET.out HRS.out), Lib.hid (HF5.out.trans ((Fr.of HG4 HSX.out (fun k hk => .inr (HO3.lt k hk).1)).trans (Fr.of GS.out (Nat.le_trans HSX.out HG4.size) (fun k hk => .inl (by have := Option.some.inj hk; omega)))))⟩
      case measure => simp [intOf]; omega
    · have hrd : st5.bind rdOs = (if bad = true then none else some (b.drop a)).map fun t => (l, t) := dl_fin (one := rdO) hi hgo HEQ.out
      have HE := Lib.hid (rv_step HE0.out hrd)
      have hcase : (i < m ∧ bad = true) ∨ ¬ i < m := by
        by_cases h : i < m
        · exact .inl ⟨h, by cases bad; exact absurd ⟨h, rfl⟩ hgo; rfl⟩
        · exact .inr h
      clear HE0 hrd HEQ
      have HRX := Lib.hid HRI.out
      clear HRI hgo
      obtain ⟨stx, hstx⟩ : ∃ s, (if bad = true then none else some (b.drop a)) = s := ⟨_, rfl⟩
      rw [hstx] at HRX HE
      clear hstx
      have hib : i ≤ 4294967296 := by have := HM.out; have := L.out; omega
      rcases hcase with ⟨him, rfl⟩ | him
      · have hd : decide (i < m) = true := decide_eq_true him
        go_wp2_with fail
        have C := dopn_any HV.out HB.out HRX.out L.out
        (with_reducible refine C.mono ?_)
        rintro e w7 ⟨x7, ya, yb, yc, st7, rfl, hsat, hR, hr, hG⟩
        obtain ⟨a7a, c7a, a7b, c7b, a7c, c7c, rfl, rfl, rfl⟩ := opn_shapes hsat
        have hd := HD.out.grown hG (by simp <;> omega) (by first | decide | simp)
        have k6 := hd.at_ 6 (by first | decide | simp)
        have f6 := hd.fr 6 (by first | decide | simp)
        have k7 := hd.at_ 7 (by first | decide | simp)
        have f7 := hd.fr 7 (by first | decide | simp)
        have k8 := hd.at_ 8 (by first | decide | simp)
        have f8 := hd.fr 8 (by first | decide | simp)
        simp only [List.getElem_cons_zero, List.getElem_cons_succ] at k6 k7 k8
        have gs : w7.grownBy (((w7.setCell ⟨w.heap.size + 1, 6, none⟩ (.slice a7a x7.1.length c7a)).setCell ⟨w.heap.size + 1, 7, none⟩ (.slice a7b x7.2.1.length c7b)).setCell ⟨w.heap.size + 1, 8, none⟩ (.slice a7c x7.2.2.length c7c)) (some (w.heap.size + 1)) := grown_same (grown_same (setCell_grown _ _ _ _) (setCell_grown _ _ _ _)) (setCell_grown _ _ _ _)
        have hwr : w6.heap.size ≤ wr.heap.size := HSR.out
        have HD2 : Hid (CellsAt (((w7.setCell ⟨w.heap.size + 1, 6, none⟩ (.slice a7a x7.1.length c7a)).setCell ⟨w.heap.size + 1, 7, none⟩ (.slice a7b x7.2.1.length c7b)).setCell ⟨w.heap.size + 1, 8, none⟩ (.slice a7c x7.2.2.length c7c)) (w.heap.size + 1) [.slice a1 x1.length c1, .slice a2 x2.length c2, .int .i64 x3, .slice a4 x4.length c4, .slice a5 x5.length c5, .slice au l.length cu, .slice a7a x7.1.length c7a, .slice a7b x7.2.1.length c7b, .slice a7c x7.2.2.length c7c, .slice none 0 0, .slice none 0 0, .slice none 0 0]) := Lib.hid (((hd.set 6 (by first | decide | simp) (.slice a7a x7.1.length c7a)).set 7 (by first | decide | simp) (.slice a7b x7.2.1.length c7b)).set 8 (by first | decide | simp) (.slice a7c x7.2.2.length c7c))
        have HZ2 := Lib.hid ((HZ.out.grown hG (by simp <;> omega) (by decide)).grown gs (by simp) (by decide))
        have HR2 := Lib.hid (rst_grown hR gs (by omega) (by omega))
        have HSR2 := Lib.hid (Nat.le_trans hwr (Nat.le_trans hG.size gs.size))
        have HLI2 := Lib.hid ((HLI.out.low hG (by have := HSZ.out; omega)).low gs (by have := HSZ.out; omega))
        have HFR2 := Lib.hid ((HFR.out.trans (Fr.of hG HSR.out (fun k hk => .inl (by have := Option.some.inj hk; omega)))).trans (Fr.of gs (Nat.le_trans hwr hG.size) (fun k hk => .inl (by have := Option.some.inj hk; omega))))
        have P7 := Lib.hid (sat_low hsat gs (by have := HSZ.out; omega))
        have HS7 := Lib.hid hwr
        have HE2 := Lib.hid (rv_step HE.out hr)
        clear HD HZ HRX HSR HLI HFR HE gs hd C hR hG hr hsat hwr
        have HD := HD2; clear HD2
        have HZ := HZ2; clear HZ2
        have HSR := HSR2; clear HSR2
        have HLI := HLI2; clear HLI2
        have HFR := HFR2; clear HFR2
        have HE := HE2; clear HE2
        have HRX := HR2; clear HR2
        go_wp2_with fail
        clear k6 k7 k8 f6 f7 f8
        generalize (((w7.setCell ⟨w.heap.size + 1, 6, none⟩ (.slice a7a x7.1.length c7a)).setCell ⟨w.heap.size + 1, 7, none⟩ (.slice a7b x7.2.1.length c7b)).setCell ⟨w.heap.size + 1, 8, none⟩ (.slice a7c x7.2.2.length c7c)) = W7 at *
        have C := dopn_any HV.out HB.out HRX.out L.out
        (with_reducible refine C.mono ?_)
        rintro e w8 ⟨x8, ya, yb, yc, st8, rfl, hsat, hR, hr, hG⟩
        obtain ⟨a8a, c8a, a8b, c8b, a8c, c8c, rfl, rfl, rfl⟩ := opn_shapes hsat
        have hd := HD.out.grown hG (by simp <;> omega) (by first | decide | simp)
        have k9 := hd.at_ 9 (by first | decide | simp)
        have f9 := hd.fr 9 (by first | decide | simp)
        have k10 := hd.at_ 10 (by first | decide | simp)
        have f10 := hd.fr 10 (by first | decide | simp)
        have k11 := hd.at_ 11 (by first | decide | simp)
        have f11 := hd.fr 11 (by first | decide | simp)
        simp only [List.getElem_cons_zero, List.getElem_cons_succ] at k9 k10 k11
        have gs : w8.grownBy (((w8.setCell ⟨w.heap.size + 1, 9, none⟩ (.slice a8a x8.1.length c8a)).setCell ⟨w.heap.size + 1, 10, none⟩ (.slice a8b x8.2.1.length c8b)).setCell ⟨w.heap.size + 1, 11, none⟩ (.slice a8c x8.2.2.length c8c)) (some (w.heap.size + 1)) := grown_same (grown_same (setCell_grown _ _ _ _) (setCell_grown _ _ _ _)) (setCell_grown _ _ _ _)
        have hwr : w6.heap.size ≤ W7.heap.size := HSR.out
        have HD2 : Hid (CellsAt (((w8.setCell ⟨w.heap.size + 1, 9, none⟩ (.slice a8a x8.1.length c8a)).setCell ⟨w.heap.size + 1, 10, none⟩ (.slice a8b x8.2.1.length c8b)).setCell ⟨w.heap.size + 1, 11, none⟩ (.slice a8c x8.2.2.length c8c)) (w.heap.size + 1) [.slice a1 x1.length c1, .slice a2 x2.length c2, .int .i64 x3, .slice a4 x4.length c4, .slice a5 x5.length c5, .slice au l.length cu, .slice a7a x7.1.length c7a, .slice a7b x7.2.1.length c7b, .slice a7c x7.2.2.length c7c, .slice a8a x8.1.length c8a, .slice a8b x8.2.1.length c8b, .slice a8c x8.2.2.length c8c]) := Lib.hid (((hd.set 9 (by first | decide | simp) (.slice a8a x8.1.length c8a)).set 10 (by first | decide | simp) (.slice a8b x8.2.1.length c8b)).set 11 (by first | decide | simp) (.slice a8c x8.2.2.length c8c))
        have HZ2 := Lib.hid ((HZ.out.grown hG (by simp <;> omega) (by decide)).grown gs (by simp) (by decide))
        have HR2 := Lib.hid (rst_grown hR gs (by omega) (by omega))
        have HSR2 := Lib.hid (Nat.le_trans hwr (Nat.le_trans hG.size gs.size))
        have HLI2 := Lib.hid ((HLI.out.low hG (by have := HSZ.out; omega)).low gs (by have := HSZ.out; omega))
        have HFR2 := Lib.hid ((HFR.out.trans (Fr.of hG HSR.out (fun k hk => .inl (by have := Option.some.inj hk; omega)))).trans (Fr.of gs (Nat.le_trans hwr hG.size) (fun k hk => .inl (by have := Option.some.inj hk; omega))))
        have P8 := Lib.hid (sat_low hsat gs (by have := HSZ.out; have := HS7.out; omega)); have HS8 := Lib.hid hwr
        have N7 := Lib.hid (sat_low (sat_low P7.out hG (by have := HSZ.out; have := HS7.out; omega)) gs (by have := HSZ.out; have := HS7.out; omega))
        have HE2 : Hid (rdV b = st8.map fun t => ((⟨x1, x2, x3, x4, x5, l, x7, x8⟩ : Vch), t)) := Lib.hid (rv_last HE.out hr)
        clear HD HZ HRX HSR HLI HFR HE gs hd C hR hG hr hsat hwr P7
        have HD := HD2; clear HD2
        have HZ := HZ2; clear HZ2
        have HSR := HSR2; clear HSR2
        have HLI := HLI2; clear HLI2
        have HFR := HFR2; clear HFR2
        have HE := HE2; clear HE2
        have HRX := HR2; clear HR2
        have P7 := N7; clear N7
        obtain ⟨a9, bad9, hc9, ha9, hx9, hq9, hst9⟩ := HRX.out
        obtain ⟨d0, d1, d2, -, -, -⟩ := hc9
        have HX9 := Lib.hid hx9; have HST9 := Lib.hid hst9
        clear hx9 hst9 hq9 HRX
        have m0 := HZ.out.at_ 0 (by decide)
        have g0 := HZ.out.fr 0 (by decide)
        have n0 := HD.out.at_ 0 (by first | decide | simp)
        have m1 := HZ.out.at_ 1 (by decide)
        have g1 := HZ.out.fr 1 (by decide)
        have n1 := HD.out.at_ 1 (by first | decide | simp)
        have m2 := HZ.out.at_ 2 (by decide)
        have g2 := HZ.out.fr 2 (by decide)
        have n2 := HD.out.at_ 2 (by first | decide | simp)
        have m3 := HZ.out.at_ 3 (by decide)
        have g3 := HZ.out.fr 3 (by decide)
        have n3 := HD.out.at_ 3 (by first | decide | simp)
        have m4 := HZ.out.at_ 4 (by decide)
        have g4 := HZ.out.fr 4 (by decide)
        have n4 := HD.out.at_ 4 (by first | decide | simp)
        have m5 := HZ.out.at_ 5 (by decide)
        have g5 := HZ.out.fr 5 (by decide)
        have n5 := HD.out.at_ 5 (by first | decide | simp)
        have m6 := HZ.out.at_ 6 (by decide)
        have g6 := HZ.out.fr 6 (by decide)
        have n6 := HD.out.at_ 6 (by first | decide | simp)
        have m7 := HZ.out.at_ 7 (by decide)
        have g7 := HZ.out.fr 7 (by decide)
        have n7 := HD.out.at_ 7 (by first | decide | simp)
        have m8 := HZ.out.at_ 8 (by decide)
        have g8 := HZ.out.fr 8 (by decide)
        have n8 := HD.out.at_ 8 (by first | decide | simp)
        have m9 := HZ.out.at_ 9 (by decide)
        have g9 := HZ.out.fr 9 (by decide)
        have n9 := HD.out.at_ 9 (by first | decide | simp)
        have m10 := HZ.out.at_ 10 (by decide)
        have g10 := HZ.out.fr 10 (by decide)
        have n10 := HD.out.at_ 10 (by first | decide | simp)
        have m11 := HZ.out.at_ 11 (by decide)
        have g11 := HZ.out.fr 11 (by decide)
        have n11 := HD.out.at_ 11 (by first | decide | simp)
        simp only [zeros12, List.getElem_cons_zero, List.getElem_cons_succ] at m0 m1 m2 m3 m4 m5 m6 m7 m8 m9 m10 m11 n0 n1 n2 n3 n4 n5 n6 n7 n8 n9 n10 n11
        cases bad9
        rotate_left
        · have HN := Lib.hid (dread_nil HE.out HST9.out)
          have gz : World.grownBy (((w8.setCell ⟨w.heap.size + 1, 9, none⟩ (.slice a8a x8.1.length c8a)).setCell ⟨w.heap.size + 1, 10, none⟩ (.slice a8b x8.2.1.length c8b)).setCell ⟨w.heap.size + 1, 11, none⟩ (.slice a8c x8.2.2.length c8c)) (((((((((((((((w8.setCell ⟨w.heap.size + 1, 9, none⟩ (.slice a8a x8.1.length c8a)).setCell ⟨w.heap.size + 1, 10, none⟩ (.slice a8b x8.2.1.length c8b)).setCell ⟨w.heap.size + 1, 11, none⟩ (.slice a8c x8.2.2.length c8c)).setCell ⟨w.heap.size, 0, none⟩ (.slice none 0 0)).setCell ⟨w.heap.size, 1, none⟩ (.slice none 0 0)).setCell ⟨w.heap.size, 2, none⟩ (.int .i64 0)).setCell ⟨w.heap.size, 3, none⟩ (.slice none 0 0)).setCell ⟨w.heap.size, 4, none⟩ (.slice none 0 0)).setCell ⟨w.heap.size, 5, none⟩ (.slice none 0 0)).setCell ⟨w.heap.size, 6, none⟩ (.slice none 0 0)).setCell ⟨w.heap.size, 7, none⟩ (.slice none 0 0)).setCell ⟨w.heap.size, 8, none⟩ (.slice none 0 0)).setCell ⟨w.heap.size, 9, none⟩ (.slice none 0 0)).setCell ⟨w.heap.size, 10, none⟩ (.slice none 0 0)).setCell ⟨w.heap.size, 11, none⟩ (.slice none 0 0)) (some w.heap.size) := (grown_same (grown_same (grown_same (grown_same (grown_same (grown_same (grown_same (grown_same (grown_same (grown_same (grown_same (setCell_grown _ _ _ _) (setCell_grown _ _ _ _)) (setCell_grown _ _ _ _)) (setCell_grown _ _ _ _)) (setCell_grown _ _ _ _)) (setCell_grown _ _ _ _)) (setCell_grown _ _ _ _)) (setCell_grown _ _ _ _)) (setCell_grown _ _ _ _)) (setCell_grown _ _ _ _)) (setCell_grown _ _ _ _)) (setCell_grown _ _ _ _))
          have DZ : CellsAt (((((((((((((((w8.setCell ⟨w.heap.size + 1, 9, none⟩ (.slice a8a x8.1.length c8a)).setCell ⟨w.heap.size + 1, 10, none⟩ (.slice a8b x8.2.1.length c8b)).setCell ⟨w.heap.size + 1, 11, none⟩ (.slice a8c x8.2.2.length c8c)).setCell ⟨w.heap.size, 0, none⟩ (.slice none 0 0)).setCell ⟨w.heap.size, 1, none⟩ (.slice none 0 0)).setCell ⟨w.heap.size, 2, none⟩ (.int .i64 0)).setCell ⟨w.heap.size, 3, none⟩ (.slice none 0 0)).setCell ⟨w.heap.size, 4, none⟩ (.slice none 0 0)).setCell ⟨w.heap.size, 5, none⟩ (.slice none 0 0)).setCell ⟨w.heap.size, 6, none⟩ (.slice none 0 0)).setCell ⟨w.heap.size, 7, none⟩ (.slice none 0 0)).setCell ⟨w.heap.size, 8, none⟩ (.slice none 0 0)).setCell ⟨w.heap.size, 9, none⟩ (.slice none 0 0)).setCell ⟨w.heap.size, 10, none⟩ (.slice none 0 0)).setCell ⟨w.heap.size, 11, none⟩ (.slice none 0 0)) w.heap.size [.slice none 0 0, .slice none 0 0, .int .i64 0, .slice none 0 0, .slice none 0 0, .slice none 0 0, .slice none 0 0, .slice none 0 0, .slice none 0 0, .slice none 0 0, .slice none 0 0, .slice none 0 0] := ((((((((((((HZ.out.set 0 (by (try simp only [List.length_set]); decide) (.slice none 0 0)).set 1 (by (try simp only [List.length_set]); decide) (.slice none 0 0)).set 2 (by (try simp only [List.length_set]); decide) (.int .i64 0)).set 3 (by (try simp only [List.length_set]); decide) (.slice none 0 0)).set 4 (by (try simp only [List.length_set]); decide) (.slice none 0 0)).set 5 (by (try simp only [List.length_set]); decide) (.slice none 0 0)).set 6 (by (try simp only [List.length_set]); decide) (.slice none 0 0)).set 7 (by (try simp only [List.length_set]); decide) (.slice none 0 0)).set 8 (by (try simp only [List.length_set]); decide) (.slice none 0 0)).set 9 (by (try simp only [List.length_set]); decide) (.slice none 0 0)).set 10 (by (try simp only [List.length_set]); decide) (.slice none 0 0)).set 11 (by (try simp only [List.length_set]); decide) (.slice none 0 0))
          have HDZ := Lib.hid DZ; have HGZ := Lib.hid gz
          have XZ := Lib.hid (show Ext w (((((((((((((((w8.setCell ⟨w.heap.size + 1, 9, none⟩ (.slice a8a x8.1.length c8a)).setCell ⟨w.heap.size + 1, 10, none⟩ (.slice a8b x8.2.1.length c8b)).setCell ⟨w.heap.size + 1, 11, none⟩ (.slice a8c x8.2.2.length c8c)).setCell ⟨w.heap.size, 0, none⟩ (.slice none 0 0)).setCell ⟨w.heap.size, 1, none⟩ (.slice none 0 0)).setCell ⟨w.heap.size, 2, none⟩ (.int .i64 0)).setCell ⟨w.heap.size, 3, none⟩ (.slice none 0 0)).setCell ⟨w.heap.size, 4, none⟩ (.slice none 0 0)).setCell ⟨w.heap.size, 5, none⟩ (.slice none 0 0)).setCell ⟨w.heap.size, 6, none⟩ (.slice none 0 0)).setCell ⟨w.heap.size, 7, none⟩ (.slice none 0 0)).setCell ⟨w.heap.size, 8, none⟩ (.slice none 0 0)).setCell ⟨w.heap.size, 9, none⟩ (.slice none 0 0)).setCell ⟨w.heap.size, 10, none⟩ (.slice none 0 0)).setCell ⟨w.heap.size, 11, none⟩ (.slice none 0 0)) from Below.grown HX9.out gz HX9.out.size (fun k hk => by have := Option.some.inj hk; omega))
          clear DZ gz
          go_wp2_with fail
          refine bodyPost_ret (v := .tuple #[.agg zeros12.toArray, .bool false]) (res_dread HDZ.out.at_ _ rfl rfl) rfl (.inr ⟨HN.out, rfl, XZ.out⟩)
        · have hst : st8 = some (b.drop a9) := HST9.out
          subst hst
          by_cases hlt : a9 < b.length
          · have HN := Lib.hid (dread_more HE.out hlt)
            have hd9 : decide (a9 < b.length) = true := decide_eq_true hlt
            have gz : World.grownBy (((w8.setCell ⟨w.heap.size + 1, 9, none⟩ (.slice a8a x8.1.length c8a)).setCell ⟨w.heap.size + 1, 10, none⟩ (.slice a8b x8.2.1.length c8b)).setCell ⟨w.heap.size + 1, 11, none⟩ (.slice a8c x8.2.2.length c8c)) (((((((((((((((w8.setCell ⟨w.heap.size + 1, 9, none⟩ (.slice a8a x8.1.length c8a)).setCell ⟨w.heap.size + 1, 10, none⟩ (.slice a8b x8.2.1.length c8b)).setCell ⟨w.heap.size + 1, 11, none⟩ (.slice a8c x8.2.2.length c8c)).setCell ⟨w.heap.size, 0, none⟩ (.slice none 0 0)).setCell ⟨w.heap.size, 1, none⟩ (.slice none 0 0)).setCell ⟨w.heap.size, 2, none⟩ (.int .i64 0)).setCell ⟨w.heap.size, 3, none⟩ (.slice none 0 0)).setCell ⟨w.heap.size, 4, none⟩ (.slice none 0 0)).setCell ⟨w.heap.size, 5, none⟩ (.slice none 0 0)).setCell ⟨w.heap.size, 6, none⟩ (.slice none 0 0)).setCell ⟨w.heap.size, 7, none⟩ (.slice none 0 0)).setCell ⟨w.heap.size, 8, none⟩ (.slice none 0 0)).setCell ⟨w.heap.size, 9, none⟩ (.slice none 0 0)).setCell ⟨w.heap.size, 10, none⟩ (.slice none 0 0)).setCell ⟨w.heap.size, 11, none⟩ (.slice none 0 0)) (some w.heap.size) := (grown_same (grown_same (grown_same (grown_same (grown_same (grown_same (grown_same (grown_same (grown_same (grown_same (grown_same (setCell_grown _ _ _ _) (setCell_grown _ _ _ _)) (setCell_grown _ _ _ _)) (setCell_grown _ _ _ _)) (setCell_grown _ _ _ _)) (setCell_grown _ _ _ _)) (setCell_grown _ _ _ _)) (setCell_grown _ _ _ _)) (setCell_grown _ _ _ _)) (setCell_grown _ _ _ _)) (setCell_grown _ _ _ _)) (setCell_grown _ _ _ _))
            have DZ : CellsAt (((((((((((((((w8.setCell ⟨w.heap.size + 1, 9, none⟩ (.slice a8a x8.1.length c8a)).setCell ⟨w.heap.size + 1, 10, none⟩ (.slice a8b x8.2.1.length c8b)).setCell ⟨w.heap.size + 1, 11, none⟩ (.slice a8c x8.2.2.length c8c)).setCell ⟨w.heap.size, 0, none⟩ (.slice none 0 0)).setCell ⟨w.heap.size, 1, none⟩ (.slice none 0 0)).setCell ⟨w.heap.size, 2, none⟩ (.int .i64 0)).setCell ⟨w.heap.size, 3, none⟩ (.slice none 0 0)).setCell ⟨w.heap.size, 4, none⟩ (.slice none 0 0)).setCell ⟨w.heap.size, 5, none⟩ (.slice none 0 0)).setCell ⟨w.heap.size, 6, none⟩ (.slice none 0 0)).setCell ⟨w.heap.size, 7, none⟩ (.slice none 0 0)).setCell ⟨w.heap.size, 8, none⟩ (.slice none 0 0)).setCell ⟨w.heap.size, 9, none⟩ (.slice none 0 0)).setCell ⟨w.heap.size, 10, none⟩ (.slice none 0 0)).setCell ⟨w.heap.size, 11, none⟩ (.slice none 0 0)) w.heap.size [.slice none 0 0, .slice none 0 0, .int .i64 0, .slice none 0 0, .slice none 0 0, .slice none 0 0, .slice none 0 0, .slice none 0 0, .slice none 0 0, .slice none 0 0, .slice none 0 0, .slice none 0 0] := ((((((((((((HZ.out.set 0 (by (try simp only [List.length_set]); decide) (.slice none 0 0)).set 1 (by (try simp only [List.length_set]); decide) (.slice none 0 0)).set 2 (by (try simp only [List.length_set]); decide) (.int .i64 0)).set 3 (by (try simp only [List.length_set]); decide) (.slice none 0 0)).set 4 (by (try simp only [List.length_set]); decide) (.slice none 0 0)).set 5 (by (try simp only [List.length_set]); decide) (.slice none 0 0)).set 6 (by (try simp only [List.length_set]); decide) (.slice none 0 0)).set 7 (by (try simp only [List.length_set]); decide) (.slice none 0 0)).set 8 (by (try simp only [List.length_set]); decide) (.slice none 0 0)).set 9 (by (try simp only [List.length_set]); decide) (.slice none 0 0)).set 10 (by (try simp only [List.length_set]); decide) (.slice none 0 0)).set 11 (by (try simp only [List.length_set]); decide) (.slice none 0 0))
            have HDZ := Lib.hid DZ; have HGZ := Lib.hid gz
            have XZ := Lib.hid (show Ext w (((((((((((((((w8.setCell ⟨w.heap.size + 1, 9, none⟩ (.slice a8a x8.1.length c8a)).setCell ⟨w.heap.size + 1, 10, none⟩ (.slice a8b x8.2.1.length c8b)).setCell ⟨w.heap.size + 1, 11, none⟩ (.slice a8c x8.2.2.length c8c)).setCell ⟨w.heap.size, 0, none⟩ (.slice none 0 0)).setCell ⟨w.heap.size, 1, none⟩ (.slice none 0 0)).setCell ⟨w.heap.size, 2, none⟩ (.int .i64 0)).setCell ⟨w.heap.size, 3, none⟩ (.slice none 0 0)).setCell ⟨w.heap.size, 4, none⟩ (.slice none 0 0)).setCell ⟨w.heap.size, 5, none⟩ (.slice none 0 0)).setCell ⟨w.heap.size, 6, none⟩ (.slice none 0 0)).setCell ⟨w.heap.size, 7, none⟩ (.slice none 0 0)).setCell ⟨w.heap.size, 8, none⟩ (.slice none 0 0)).setCell ⟨w.heap.size, 9, none⟩ (.slice none 0 0)).setCell ⟨w.heap.size, 10, none⟩ (.slice none 0 0)).setCell ⟨w.heap.size, 11, none⟩ (.slice none 0 0)) from Below.grown HX9.out gz HX9.out.size (fun k hk => by have := Option.some.inj hk; omega))
            clear DZ gz
            go_wp2_with fail
            refine bodyPost_ret (v := .tuple #[.agg zeros12.toArray, .bool false]) (res_dread HDZ.out.at_ _ rfl rfl) rfl (.inr ⟨HN.out, rfl, XZ.out⟩)
          · have hnil : b.drop a9 = [] := List.drop_eq_nil_of_le (by omega)
            have HN := Lib.hid (show rdV b = some (⟨x1, x2, x3, x4, x5, l, x7, x8⟩, []) by rw [← hnil]; exact dread_end HE.out)
            clear hnil
            have hd9 : decide (a9 < b.length) = false := decide_eq_false hlt
            have gz : World.grownBy (((w8.setCell ⟨w.heap.size + 1, 9, none⟩ (.slice a8a x8.1.length c8a)).setCell ⟨w.heap.size + 1, 10, none⟩ (.slice a8b x8.2.1.length c8b)).setCell ⟨w.heap.size + 1, 11, none⟩ (.slice a8c x8.2.2.length c8c)) (((((((((((((((w8.setCell ⟨w.heap.size + 1, 9, none⟩ (.slice a8a x8.1.length c8a)).setCell ⟨w.heap.size + 1, 10, none⟩ (.slice a8b x8.2.1.length c8b)).setCell ⟨w.heap.size + 1, 11, none⟩ (.slice a8c x8.2.2.length c8c)).setCell ⟨w.heap.size, 0, none⟩ (.slice a1 x1.length c1)).setCell ⟨w.heap.size, 1, none⟩ (.slice a2 x2.length c2)).setCell ⟨w.heap.size, 2, none⟩ (.int .i64 x3)).setCell ⟨w.heap.size, 3, none⟩ (.slice a4 x4.length c4)).setCell ⟨w.heap.size, 4, none⟩ (.slice a5 x5.length c5)).setCell ⟨w.heap.size, 5, none⟩ (.slice au l.length cu)).setCell ⟨w.heap.size, 6, none⟩ (.slice a7a x7.1.length c7a)).setCell ⟨w.heap.size, 7, none⟩ (.slice a7b x7.2.1.length c7b)).setCell ⟨w.heap.size, 8, none⟩ (.slice a7c x7.2.2.length c7c)).setCell ⟨w.heap.size, 9, none⟩ (.slice a8a x8.1.length c8a)).setCell ⟨w.heap.size, 10, none⟩ (.slice a8b x8.2.1.length c8b)).setCell ⟨w.heap.size, 11, none⟩ (.slice a8c x8.2.2.length c8c)) (some w.heap.size) := (grown_same (grown_same (grown_same (grown_same (grown_same (grown_same (grown_same (grown_same (grown_same (grown_same (grown_same (setCell_grown _ _ _ _) (setCell_grown _ _ _ _)) (setCell_grown _ _ _ _)) (setCell_grown _ _ _ _)) (setCell_grown _ _ _ _)) (setCell_grown _ _ _ _)) (setCell_grown _ _ _ _)) (setCell_grown _ _ _ _)) (setCell_grown _ _ _ _)) (setCell_grown _ _ _ _)) (setCell_grown _ _ _ _)) (setCell_grown _ _ _ _))
            have DZ : CellsAt (((((((((((((((w8.setCell ⟨w.heap.size + 1, 9, none⟩ (.slice a8a x8.1.length c8a)).setCell ⟨w.heap.size + 1, 10, none⟩ (.slice a8b x8.2.1.length c8b)).setCell ⟨w.heap.size + 1, 11, none⟩ (.slice a8c x8.2.2.length c8c)).setCell ⟨w.heap.size, 0, none⟩ (.slice a1 x1.length c1)).setCell ⟨w.heap.size, 1, none⟩ (.slice a2 x2.length c2)).setCell ⟨w.heap.size, 2, none⟩ (.int .i64 x3)).setCell ⟨w.heap.size, 3, none⟩ (.slice a4 x4.length c4)).setCell ⟨w.heap.size, 4, none⟩ (.slice a5 x5.length c5)).setCell ⟨w.heap.size, 5, none⟩ (.slice au l.length cu)).setCell ⟨w.heap.size, 6, none⟩ (.slice a7a x7.1.length c7a)).setCell ⟨w.heap.size, 7, none⟩ (.slice a7b x7.2.1.length c7b)).setCell ⟨w.heap.size, 8, none⟩ (.slice a7c x7.2.2.length c7c)).setCell ⟨w.heap.size, 9, none⟩ (.slice a8a x8.1.length c8a)).setCell ⟨w.heap.size, 10, none⟩ (.slice a8b x8.2.1.length c8b)).setCell ⟨w.heap.size, 11, none⟩ (.slice a8c x8.2.2.length c8c)) w.heap.size [.slice a1 x1.length c1, .slice a2 x2.length c2, .int .i64 x3, .slice a4 x4.length c4, .slice a5 x5.length c5, .slice au l.length cu, .slice a7a x7.1.length c7a, .slice a7b x7.2.1.length c7b, .slice a7c x7.2.2.length c7c, .slice a8a x8.1.length c8a, .slice a8b x8.2.1.length c8b, .slice a8c x8.2.2.length c8c] := ((((((((((((HZ.out.set 0 (by (try simp only [List.length_set]); decide) (.slice a1 x1.length c1)).set 1 (by (try simp only [List.length_set]); decide) (.slice a2 x2.length c2)).set 2 (by (try simp only [List.length_set]); decide) (.int .i64 x3)).set 3 (by (try simp only [List.length_set]); decide) (.slice a4 x4.length c4)).set 4 (by (try simp only [List.length_set]); decide) (.slice a5 x5.length c5)).set 5 (by (try simp only [List.length_set]); decide) (.slice au l.length cu)).set 6 (by (try simp only [List.length_set]); decide) (.slice a7a x7.1.length c7a)).set 7 (by (try simp only [List.length_set]); decide) (.slice a7b x7.2.1.length c7b)).set 8 (by (try simp only [List.length_set]); decide) (.slice a7c x7.2.2.length c7c)).set 9 (by (try simp only [List.length_set]); decide) (.slice a8a x8.1.length c8a)).set 10 (by (try simp only [List.length_set]); decide) (.slice a8b x8.2.1.length c8b)).set 11 (by (try simp only [List.length_set]); decide) (.slice a8c x8.2.2.length c8c))
            have HDZ := Lib.hid DZ; have HGZ := Lib.hid gz
            have XZ := Lib.hid (show Ext w (((((((((((((((w8.setCell ⟨w.heap.size + 1, 9, none⟩ (.slice a8a x8.1.length c8a)).setCell ⟨w.heap.size + 1, 10, none⟩ (.slice a8b x8.2.1.length c8b)).setCell ⟨w.heap.size + 1, 11, none⟩ (.slice a8c x8.2.2.length c8c)).setCell ⟨w.heap.size, 0, none⟩ (.slice a1 x1.length c1)).setCell ⟨w.heap.size, 1, none⟩ (.slice a2 x2.length c2)).setCell ⟨w.heap.size, 2, none⟩ (.int .i64 x3)).setCell ⟨w.heap.size, 3, none⟩ (.slice a4 x4.length c4)).setCell ⟨w.heap.size, 4, none⟩ (.slice a5 x5.length c5)).setCell ⟨w.heap.size, 5, none⟩ (.slice au l.length cu)).setCell ⟨w.heap.size, 6, none⟩ (.slice a7a x7.1.length c7a)).setCell ⟨w.heap.size, 7, none⟩ (.slice a7b x7.2.1.length c7b)).setCell ⟨w.heap.size, 8, none⟩ (.slice a7c x7.2.2.length c7c)).setCell ⟨w.heap.size, 9, none⟩ (.slice a8a x8.1.length c8a)).setCell ⟨w.heap.size, 10, none⟩ (.slice a8b x8.2.1.length c8b)).setCell ⟨w.heap.size, 11, none⟩ (.slice a8c x8.2.2.length c8c)) from Below.grown HX9.out gz HX9.out.size (fun k hk => by have := Option.some.inj hk; omega))
            clear DZ gz
            have HF := Lib.hid (HFR.out.trans (Fr.of HGZ.out HSR.out (fun k hk => .inl (by have := Option.some.inj hk; omega))))
            have HVA := Lib.hid (VchAt.mk (v := ⟨x1, x2, x3, x4, x5, l, x7, x8⟩) (P1.out.fr HF.out) (P2.out.fr HF.out) (P4.out.fr HF.out) (P5.out.fr HF.out) (Lst.opns (HLI.out.low HGZ.out (by have := HSZ.out; omega))) (opnAt_of (sat_low P7.out HGZ.out (by have := HSZ.out; have := HS7.out; omega))) (opnAt_of (sat_low P8.out HGZ.out (by have := HSZ.out; have := HS7.out; have := HS8.out; omega))))
            go_wp2_with fail
            exact bodyPost_ret (res_dread HDZ.out.at_ _ rfl rfl) rfl (.inl ⟨_, HN.out, _, _, _, _, _, _, _, _, _, _, _, rfl, HVA.out, XZ.out⟩)
      · have hd : decide (i < m) = false := decide_eq_false him
        go_wp2_with fail
        have C := dopn_any HV.out HB.out HRX.out L.out
        (with_reducible refine C.mono ?_)
        rintro e w7 ⟨x7, ya, yb, yc, st7, rfl, hsat, hR, hr, hG⟩
        obtain ⟨a7a, c7a, a7b, c7b, a7c, c7c, rfl, rfl, rfl⟩ := opn_shapes hsat
        have hd := HD.out.grown hG (by simp <;> omega) (by first | decide | simp)
        have k6 := hd.at_ 6 (by first | decide | simp)
        have f6 := hd.fr 6 (by first | decide | simp)
        have k7 := hd.at_ 7 (by first | decide | simp)
        have f7 := hd.fr 7 (by first | decide | simp)
        have k8 := hd.at_ 8 (by first | decide | simp)
        have f8 := hd.fr 8 (by first | decide | simp)
        simp only [List.getElem_cons_zero, List.getElem_cons_succ] at k6 k7 k8
        have gs : w7.grownBy (((w7.setCell ⟨w.heap.size + 1, 6, none⟩ (.slice a7a x7.1.length c7a)).setCell ⟨w.heap.size + 1, 7, none⟩ (.slice a7b x7.2.1.length c7b)).setCell ⟨w.heap.size + 1, 8, none⟩ (.slice a7c x7.2.2.length c7c)) (some (w.heap.size + 1)) := grown_same (grown_same (setCell_grown _ _ _ _) (setCell_grown _ _ _ _)) (setCell_grown _ _ _ _)
        have hwr : w6.heap.size ≤ wr.heap.size := HSR.out
        have HD2 : Hid (CellsAt (((w7.setCell ⟨w.heap.size + 1, 6, none⟩ (.slice a7a x7.1.length c7a)).setCell ⟨w.heap.size + 1, 7, none⟩ (.slice a7b x7.2.1.length c7b)).setCell ⟨w.heap.size + 1, 8, none⟩ (.slice a7c x7.2.2.length c7c)) (w.heap.size + 1) [.slice a1 x1.length c1, .slice a2 x2.length c2, .int .i64 x3, .slice a4 x4.length c4, .slice a5 x5.length c5, .slice au l.length cu, .slice a7a x7.1.length c7a, .slice a7b x7.2.1.length c7b, .slice a7c x7.2.2.length c7c, .slice none 0 0, .slice none 0 0, .slice none 0 0]) := Lib.hid (((hd.set 6 (by first | decide | simp) (.slice a7a x7.1.length c7a)).set 7 (by first | decide | simp) (.slice a7b x7.2.1.length c7b)).set 8 (by first | decide | simp) (.slice a7c x7.2.2.length c7c))
        have HZ2 := Lib.hid ((HZ.out.grown hG (by simp <;> omega) (by decide)).grown gs (by simp) (by decide))
        have HR2 := Lib.hid (rst_grown hR gs (by omega) (by omega))
        have HSR2 := Lib.hid (Nat.le_trans hwr (Nat.le_trans hG.size gs.size))
        have HLI2 := Lib.hid ((HLI.out.low hG (by have := HSZ.out; omega)).low gs (by have := HSZ.out; omega))
        have HFR2 := Lib.hid ((HFR.out.trans (Fr.of hG HSR.out (fun k hk => .inl (by have := Option.some.inj hk; omega)))).trans (Fr.of gs (Nat.le_trans hwr hG.size) (fun k hk => .inl (by have := Option.some.inj hk; omega))))
        have P7 := Lib.hid (sat_low hsat gs (by have := HSZ.out; omega))
        have HS7 := Lib.hid hwr
        have HE2 := Lib.hid (rv_step HE.out hr)
        clear HD HZ HRX HSR HLI HFR HE gs hd C hR hG hr hsat hwr
        have HD := HD2; clear HD2
        have HZ := HZ2; clear HZ2
        have HSR := HSR2; clear HSR2
        have HLI := HLI2; clear HLI2
        have HFR := HFR2; clear HFR2
        have HE := HE2; clear HE2
        have HRX := HR2; clear HR2
        go_wp2_with fail
        clear k6 k7 k8 f6 f7 f8
        generalize (((w7.setCell ⟨w.heap.size + 1, 6, none⟩ (.slice a7a x7.1.length c7a)).setCell ⟨w.heap.size + 1, 7, none⟩ (.slice a7b x7.2.1.length c7b)).setCell ⟨w.heap.size + 1, 8, none⟩ (.slice a7c x7.2.2.length c7c)) = W7 at *
        have C := dopn_any HV.out HB.out HRX.out L.out
        (with_reducible refine C.mono ?_)
        rintro e w8 ⟨x8, ya, yb, yc, st8, rfl, hsat, hR, hr, hG⟩
        obtain ⟨a8a, c8a, a8b, c8b, a8c, c8c, rfl, rfl, rfl⟩ := opn_shapes hsat
        have hd := HD.out.grown hG (by simp <;> omega) (by first | decide | simp)
        have k9 := hd.at_ 9 (by first | decide | simp)
        have f9 := hd.fr 9 (by first | decide | simp)
        have k10 := hd.at_ 10 (by first | decide | simp)
        have f10 := hd.fr 10 (by first | decide | simp)
        have k11 := hd.at_ 11 (by first | decide | simp)
        have f11 := hd.fr 11 (by first | decide | simp)
        simp only [List.getElem_cons_zero, List.getElem_cons_succ] at k9 k10 k11
        have gs : w8.grownBy (((w8.setCell ⟨w.heap.size + 1, 9, none⟩ (.slice a8a x8.1.length c8a)).setCell ⟨w.heap.size + 1, 10, none⟩ (.slice a8b x8.2.1.length c8b)).setCell ⟨w.heap.size + 1, 11, none⟩ (.slice a8c x8.2.2.length c8c)) (some (w.heap.size + 1)) := grown_same (grown_same (setCell_grown _ _ _ _) (setCell_grown _ _ _ _)) (setCell_grown _ _ _ _)
        have hwr : w6.heap.size ≤ W7.heap.size := HSR.out
        have HD2 : Hid (CellsAt (((w8.setCell ⟨w.heap.size + 1, 9, none⟩ (.slice a8a x8.1.length c8a)).setCell ⟨w.heap.size + 1, 10, none⟩ (.slice a8b x8.2.1.length c8b)).setCell ⟨w.heap.size + 1, 11, none⟩ (.slice a8c x8.2.2.length c8c)) (w.heap.size + 1) [.slice a1 x1.length c1, .slice a2 x2.length c2, .int .i64 x3, .slice a4 x4.length c4, .slice a5 x5.length c5, .slice au l.length cu, .slice a7a x7.1.length c7a, .slice a7b x7.2.1.length c7b, .slice a7c x7.2.2.length c7c, .slice a8a x8.1.length c8a, .slice a8b x8.2.1.length c8b, .slice a8c x8.2.2.length c8c]) := Lib.hid (((hd.set 9 (by first | decide | simp) (.slice a8a x8.1.length c8a)).set 10 (by first | decide | simp) (.slice a8b x8.2.1.length c8b)).set 11 (by first | decide | simp) (.slice a8c x8.2.2.length c8c))
        have HZ2 := Lib.hid ((HZ.out.grown hG (by simp <;> omega) (by decide)).grown gs (by simp) (by decide))
        have HR2 := Lib.hid (rst_grown hR gs (by omega) (by omega))
        have HSR2 := Lib.hid (Nat.le_trans hwr (Nat.le_trans hG.size gs.size))
        have HLI2 := Lib.hid ((HLI.out.low hG (by have := HSZ.out; omega)).low gs (by have := HSZ.out; omega))
        have HFR2 := Lib.hid ((HFR.out.trans (Fr.of hG HSR.out (fun k hk => .inl (by have := Option.some.inj hk; omega)))).trans (Fr.of gs (Nat.le_trans hwr hG.size) (fun k hk => .inl (by have := Option.some.inj hk; omega))))
        have P8 := Lib.hid (sat_low hsat gs (by have := HSZ.out; have := HS7.out; omega)); have HS8 := Lib.hid hwr
        have N7 := Lib.hid (sat_low (sat_low P7.out hG (by have := HSZ.out; have := HS7.out; omega)) gs (by have := HSZ.out; have := HS7.out; omega))
        have HE2 : Hid (rdV b = st8.map fun t => ((⟨x1, x2, x3, x4, x5, l, x7, x8⟩ : Vch), t)) := Lib.hid (rv_last HE.out hr)
        clear HD HZ HRX HSR HLI HFR HE gs hd C hR hG hr hsat hwr P7
        have HD := HD2; clear HD2
        have HZ := HZ2; clear HZ2
        have HSR := HSR2; clear HSR2
        have HLI := HLI2; clear HLI2
        have HFR := HFR2; clear HFR2
        have HE := HE2; clear HE2
        have HRX := HR2; clear HR2
        have P7 := N7; clear N7
        obtain ⟨a9, bad9, hc9, ha9, hx9, hq9, hst9⟩ := HRX.out
        obtain ⟨d0, d1, d2, -, -, -⟩ := hc9
        have HX9 := Lib.hid hx9; have HST9 := Lib.hid hst9
        clear hx9 hst9 hq9 HRX
        have m0 := HZ.out.at_ 0 (by decide)
        have g0 := HZ.out.fr 0 (by decide)
        have n0 := HD.out.at_ 0 (by first | decide | simp)
        have m1 := HZ.out.at_ 1 (by decide)
        have g1 := HZ.out.fr 1 (by decide)
        have n1 := HD.out.at_ 1 (by first | decide | simp)
        have m2 := HZ.out.at_ 2 (by decide)
        have g2 := HZ.out.fr 2 (by decide)
        have n2 := HD.out.at_ 2 (by first | decide | simp)
        have m3 := HZ.out.at_ 3 (by decide)
        have g3 := HZ.out.fr 3 (by decide)
        have n3 := HD.out.at_ 3 (by first | decide | simp)
        have m4 := HZ.out.at_ 4 (by decide)
        have g4 := HZ.out.fr 4 (by decide)
        have n4 := HD.out.at_ 4 (by first | decide | simp)
        have m5 := HZ.out.at_ 5 (by decide)
        have g5 := HZ.out.fr 5 (by decide)
        have n5 := HD.out.at_ 5 (by first | decide | simp)
        have m6 := HZ.out.at_ 6 (by decide)
        have g6 := HZ.out.fr 6 (by decide)
        have n6 := HD.out.at_ 6 (by first | decide | simp)
        have m7 := HZ.out.at_ 7 (by decide)
        have g7 := HZ.out.fr 7 (by decide)
        have n7 := HD.out.at_ 7 (by first | decide | simp)
        have m8 := HZ.out.at_ 8 (by decide)
        have g8 := HZ.out.fr 8 (by decide)
        have n8 := HD.out.at_ 8 (by first | decide | simp)
        have m9 := HZ.out.at_ 9 (by decide)
        have g9 := HZ.out.fr 9 (by decide)
        have n9 := HD.out.at_ 9 (by first | decide | simp)
        have m10 := HZ.out.at_ 10 (by decide)
        have g10 := HZ.out.fr 10 (by decide)
        have n10 := HD.out.at_ 10 (by first | decide | simp)
        have m11 := HZ.out.at_ 11 (by decide)
        have g11 := HZ.out.fr 11 (by decide)
        have n11 := HD.out.at_ 11 (by first | decide | simp)
        simp only [zeros12, List.getElem_cons_zero, List.getElem_cons_succ] at m0 m1 m2 m3 m4 m5 m6 m7 m8 m9 m10 m11 n0 n1 n2 n3 n4 n5 n6 n7 n8 n9 n10 n11
        cases bad9
        rotate_left
        · have HN := Lib.hid (dread_nil HE.out HST9.out)
          have gz : World.grownBy (((w8.setCell ⟨w.heap.size + 1, 9, none⟩ (.slice a8a x8.1.length c8a)).setCell ⟨w.heap.size + 1, 10, none⟩ (.slice a8b x8.2.1.length c8b)).setCell ⟨w.heap.size + 1, 11, none⟩ (.slice a8c x8.2.2.length c8c)) (((((((((((((((w8.setCell ⟨w.heap.size + 1, 9, none⟩ (.slice a8a x8.1.length c8a)).setCell ⟨w.heap.size + 1, 10, none⟩ (.slice a8b x8.2.1.length c8b)).setCell ⟨w.heap.size + 1, 11, none⟩ (.slice a8c x8.2.2.length c8c)).setCell ⟨w.heap.size, 0, none⟩ (.slice none 0 0)).setCell ⟨w.heap.size, 1, none⟩ (.slice none 0 0)).setCell ⟨w.heap.size, 2, none⟩ (.int .i64 0)).setCell ⟨w.heap.size, 3, none⟩ (.slice none 0 0)).setCell ⟨w.heap.size, 4, none⟩ (.slice none 0 0)).setCell ⟨w.heap.size, 5, none⟩ (.slice none 0 0)).setCell ⟨w.heap.size, 6, none⟩ (.slice none 0 0)).setCell ⟨w.heap.size, 7, none⟩ (.slice none 0 0)).setCell ⟨w.heap.size, 8, none⟩ (.slice none 0 0)).setCell ⟨w.heap.size, 9, none⟩ (.slice none 0 0)).setCell ⟨w.heap.size, 10, none⟩ (.slice none 0 0)).setCell ⟨w.heap.size, 11, none⟩ (.slice none 0 0)) (some w.heap.size) := (grown_same (grown_same (grown_same (grown_same (grown_same (grown_same (grown_same (grown_same (grown_same (grown_same (grown_same (setCell_grown _ _ _ _) (setCell_grown _ _ _ _)) (setCell_grown _ _ _ _)) (setCell_grown _ _ _ _)) (setCell_grown _ _ _ _)) (setCell_grown _ _ _ _)) (setCell_grown _ _ _ _)) (setCell_grown _ _ _ _)) (setCell_grown _ _ _ _)) (setCell_grown _ _ _ _)) (setCell_grown _ _ _ _)) (setCell_grown _ _ _ _))
          have DZ : CellsAt (((((((((((((((w8.setCell ⟨w.heap.size + 1, 9, none⟩ (.slice a8a x8.1.length c8a)).setCell ⟨w.heap.size + 1, 10, none⟩ (.slice a8b x8.2.1.length c8b)).setCell ⟨w.heap.size + 1, 11, none⟩ (.slice a8c x8.2.2.length c8c)).setCell ⟨w.heap.size, 0, none⟩ (.slice none 0 0)).setCell ⟨w.heap.size, 1, none⟩ (.slice none 0 0)).setCell ⟨w.heap.size, 2, none⟩ (.int .i64 0)).setCell ⟨w.heap.size, 3, none⟩ (.slice none 0 0)).setCell ⟨w.heap.size, 4, none⟩ (.slice none 0 0)).setCell ⟨w.heap.size, 5, none⟩ (.slice none 0 0)).setCell ⟨w.heap.size, 6, none⟩ (.slice none 0 0)).setCell ⟨w.heap.size, 7, none⟩ (.slice none 0 0)).setCell ⟨w.heap.size, 8, none⟩ (.slice none 0 0)).setCell ⟨w.heap.size, 9, none⟩ (.slice none 0 0)).setCell ⟨w.heap.size, 10, none⟩ (.slice none 0 0)).setCell ⟨w.heap.size, 11, none⟩ (.slice none 0 0)) w.heap.size [.slice none 0 0, .slice none 0 0, .int .i64 0, .slice none 0 0, .slice none 0 0, .slice none 0 0, .slice none 0 0, .slice none 0 0, .slice none 0 0, .slice none 0 0, .slice none 0 0, .slice none 0 0] := ((((((((((((HZ.out.set 0 (by (try simp only [List.length_set]); decide) (.slice none 0 0)).set 1 (by (try simp only [List.length_set]); decide) (.slice none 0 0)).set 2 (by (try simp only [List.length_set]); decide) (.int .i64 0)).set 3 (by (try simp only [List.length_set]); decide) (.slice none 0 0)).set 4 (by (try simp only [List.length_set]); decide) (.slice none 0 0)).set 5 (by (try simp only [List.length_set]); decide) (.slice none 0 0)).set 6 (by (try simp only [List.length_set]); decide) (.slice none 0 0)).set 7 (by (try simp only [List.length_set]); decide) (.slice none 0 0)).set 8 (by (try simp only [List.length_set]); decide) (.slice none 0 0)).set 9 (by (try simp only [List.length_set]); decide) (.slice none 0 0)).set 10 (by (try simp only [List.length_set]); decide) (.slice none 0 0)).set 11 (by (try simp only [List.length_set]); decide) (.slice none 0 0))
          have HDZ := Lib.hid DZ; have HGZ := Lib.hid gz
          have XZ := Lib.hid (show Ext w (((((((((((((((w8.setCell ⟨w.heap.size + 1, 9, none⟩ (.slice a8a x8.1.length c8a)).setCell ⟨w.heap.size + 1, 10, none⟩ (.slice a8b x8.2.1.length c8b)).setCell ⟨w.heap.size + 1, 11, none⟩ (.slice a8c x8.2.2.length c8c)).setCell ⟨w.heap.size, 0, none⟩ (.slice none 0 0)).setCell ⟨w.heap.size, 1, none⟩ (.slice none 0 0)).setCell ⟨w.heap.size, 2, none⟩ (.int .i64 0)).setCell ⟨w.heap.size, 3, none⟩ (.slice none 0 0)).setCell ⟨w.heap.size, 4, none⟩ (.slice none 0 0)).setCell ⟨w.heap.size, 5, none⟩ (.slice none 0 0)).setCell ⟨w.heap.size, 6, none⟩ (.slice none 0 0)).setCell ⟨w.heap.size, 7, none⟩ (.slice none 0 0)).setCell ⟨w.heap.size, 8, none⟩ (.slice none 0 0)).setCell ⟨w.heap.size, 9, none⟩ (.slice none 0 0)).setCell ⟨w.heap.size, 10, none⟩ (.slice none 0 0)).setCell ⟨w.heap.size, 11, none⟩ (.slice none 0 0)) from Below.grown HX9.out gz HX9.out.size (fun k hk => by have := Option.some.inj hk; omega))
          clear DZ gz
          go_wp2_with fail
          refine bodyPost_ret (v := .tuple #[.agg zeros12.toArray, .bool false]) (res_dread HDZ.out.at_ _ rfl rfl) rfl (.inr ⟨HN.out, rfl, XZ.out⟩)
        · have hst : st8 = some (b.drop a9) := HST9.out
          subst hst
          by_cases hlt : a9 < b.length
          · have HN := Lib.hid (dread_more HE.out hlt)
            have hd9 : decide (a9 < b.length) = true := decide_eq_true hlt
            have gz : World.grownBy (((w8.setCell ⟨w.heap.size + 1, 9, none⟩ (.slice a8a x8.1.length c8a)).setCell ⟨w.heap.size + 1, 10, none⟩ (.slice a8b x8.2.1.length c8b)).setCell ⟨w.heap.size + 1, 11, none⟩ (.slice a8c x8.2.2.length c8c)) (((((((((((((((w8.setCell ⟨w.heap.size + 1, 9, none⟩ (.slice a8a x8.1.length c8a)).setCell ⟨w.heap.size + 1, 10, none⟩ (.slice a8b x8.2.1.length c8b)).setCell ⟨w.heap.size + 1, 11, none⟩ (.slice a8c x8.2.2.length c8c)).setCell ⟨w.heap.size, 0, none⟩ (.slice none 0 0)).setCell ⟨w.heap.size, 1, none⟩ (.slice none 0 0)).setCell ⟨w.heap.size, 2, none⟩ (.int .i64 0)).setCell ⟨w.heap.size, 3, none⟩ (.slice none 0 0)).setCell ⟨w.heap.size, 4, none⟩ (.slice none 0 0)).setCell ⟨w.heap.size, 5, none⟩ (.slice none 0 0)).setCell ⟨w.heap.size, 6, none⟩ (.slice none 0 0)).setCell ⟨w.heap.size, 7, none⟩ (.slice none 0 0)).setCell ⟨w.heap.size, 8, none⟩ (.slice none 0 0)).setCell ⟨w.heap.size, 9, none⟩ (.slice none 0 0)).setCell ⟨w.heap.size, 10, none⟩ (.slice none 0 0)).setCell ⟨w.heap.size, 11, none⟩ (.slice none 0 0)) (some w.heap.size) := (grown_same (grown_same (grown_same (grown_same (grown_same (grown_same (grown_same (grown_same (grown_same (grown_same (grown_same (setCell_grown _ _ _ _) (setCell_grown _ _ _ _)) (setCell_grown _ _ _ _)) (setCell_grown _ _ _ _)) (setCell_grown _ _ _ _)) (setCell_grown _ _ _ _)) (setCell_grown _ _ _ _)) (setCell_grown _ _ _ _)) (setCell_grown _ _ _ _)) (setCell_grown _ _ _ _)) (setCell_grown _ _ _ _)) (setCell_grown _ _ _ _))
            have DZ : CellsAt (((((((((((((((w8.setCell ⟨w.heap.size + 1, 9, none⟩ (.slice a8a x8.1.length c8a)).setCell ⟨w.heap.size + 1, 10, none⟩ (.slice a8b x8.2.1.length c8b)).setCell ⟨w.heap.size + 1, 11, none⟩ (.slice a8c x8.2.2.length c8c)).setCell ⟨w.heap.size, 0, none⟩ (.slice none 0 0)).setCell ⟨w.heap.size, 1, none⟩ (.slice none 0 0)).setCell ⟨w.heap.size, 2, none⟩ (.int .i64 0)).setCell ⟨w.heap.size, 3, none⟩ (.slice none 0 0)).setCell ⟨w.heap.size, 4, none⟩ (.slice none 0 0)).setCell ⟨w.heap.size, 5, none⟩ (.slice none 0 0)).setCell ⟨w.heap.size, 6, none⟩ (.slice none 0 0)).setCell ⟨w.heap.size, 7, none⟩ (.slice none 0 0)).setCell ⟨w.heap.size, 8, none⟩ (.slice none 0 0)).setCell ⟨w.heap.size, 9, none⟩ (.slice none 0 0)).setCell ⟨w.heap.size, 10, none⟩ (.slice none 0 0)).setCell ⟨w.heap.size, 11, none⟩ (.slice none 0 0)) w.heap.size [.slice none 0 0, .slice none 0 0, .int .i64 0, .slice none 0 0, .slice none 0 0, .slice none 0 0, .slice none 0 0, .slice none 0 0, .slice none 0 0, .slice none 0 0, .slice none 0 0, .slice none 0 0] := ((((((((((((HZ.out.set 0 (by (try simp only [List.length_set]); decide) (.slice none 0 0)).set 1 (by (try simp only [List.length_set]); decide) (.slice none 0 0)).set 2 (by (try simp only [List.length_set]); decide) (.int .i64 0)).set 3 (by (try simp only [List.length_set]); decide) (.slice none 0 0)).set 4 (by (try simp only [List.length_set]); decide) (.slice none 0 0)).set 5 (by (try simp only [List.length_set]); decide) (.slice none 0 0)).set 6 (by (try simp only [List.length_set]); decide) (.slice none 0 0)).set 7 (by (try simp only [List.length_set]); decide) (.slice none 0 0)).set 8 (by (try simp only [List.length_set]); decide) (.slice none 0 0)).set 9 (by (try simp only [List.length_set]); decide) (.slice none 0 0)).set 10 (by (try simp only [List.length_set]); decide) (.slice none 0 0)).set 11 (by (try simp only [List.length_set]); decide) (.slice none 0 0))
            have HDZ := Lib.hid DZ; have HGZ := Lib.hid gz
            have XZ := Lib.hid (show Ext w (((((((((((((((w8.setCell ⟨w.heap.size + 1, 9, none⟩ (.slice a8a x8.1.length c8a)).setCell ⟨w.heap.size + 1, 10, none⟩ (.slice a8b x8.2.1.length c8b)).setCell ⟨w.heap.size + 1, 11, none⟩ (.slice a8c x8.2.2.length c8c)).setCell ⟨w.heap.size, 0, none⟩ (.slice none 0 0)).setCell ⟨w.heap.size, 1, none⟩ (.slice none 0 0)).setCell ⟨w.heap.size, 2, none⟩ (.int .i64 0)).setCell ⟨w.heap.size, 3, none⟩ (.slice none 0 0)).setCell ⟨w.heap.size, 4, none⟩ (.slice none 0 0)).setCell ⟨w.heap.size, 5, none⟩ (.slice none 0 0)).setCell ⟨w.heap.size, 6, none⟩ (.slice none 0 0)).setCell ⟨w.heap.size, 7, none⟩ (.slice none 0 0)).setCell ⟨w.heap.size, 8, none⟩ (.slice none 0 0)).setCell ⟨w.heap.size, 9, none⟩ (.slice none 0 0)).setCell ⟨w.heap.size, 10, none⟩ (.slice none 0 0)).setCell ⟨w.heap.size, 11, none⟩ (.slice none 0 0)) from Below.grown HX9.out gz HX9.out.size (fun k hk => by have := Option.some.inj hk; omega))
            clear DZ gz
            go_wp2_with fail
            refine bodyPost_ret (v := .tuple #[.agg zeros12.toArray, .bool false]) (res_dread HDZ.out.at_ _ rfl rfl) rfl (.inr ⟨HN.out, rfl, XZ.out⟩)
          · have hnil : b.drop a9 = [] := List.drop_eq_nil_of_le (by omega)
            have HN := Lib.hid (show rdV b = some (⟨x1, x2, x3, x4, x5, l, x7, x8⟩, []) by rw [← hnil]; exact dread_end HE.out)
            clear hnil
            have hd9 : decide (a9 < b.length) = false := decide_eq_false hlt
            have gz : World.grownBy (((w8.setCell ⟨w.heap.size + 1, 9, none⟩ (.slice a8a x8.1.length c8a)).setCell ⟨w.heap.size + 1, 10, none⟩ (.slice a8b x8.2.1.length c8b)).setCell ⟨w.heap.size + 1, 11, none⟩ (.slice a8c x8.2.2.length c8c)) (((((((((((((((w8.setCell ⟨w.heap.size + 1, 9, none⟩ (.slice a8a x8.1.length c8a)).setCell ⟨w.heap.size + 1, 10, none⟩ (.slice a8b x8.2.1.length c8b)).setCell ⟨w.heap.size + 1, 11, none⟩ (.slice a8c x8.2.2.length c8c)).setCell ⟨w.heap.size, 0, none⟩ (.slice a1 x1.length c1)).setCell ⟨w.heap.size, 1, none⟩ (.slice a2 x2.length c2)).setCell ⟨w.heap.size, 2, none⟩ (.int .i64 x3)).setCell ⟨w.heap.size, 3, none⟩ (.slice a4 x4.length c4)).setCell ⟨w.heap.size, 4, none⟩ (.slice a5 x5.length c5)).setCell ⟨w.heap.size, 5, none⟩ (.slice au l.length cu)).setCell ⟨w.heap.size, 6, none⟩ (.slice a7a x7.1.length c7a)).setCell ⟨w.heap.size, 7, none⟩ (.slice a7b x7.2.1.length c7b)).setCell ⟨w.heap.size, 8, none⟩ (.slice a7c x7.2.2.length c7c)).setCell ⟨w.heap.size, 9, none⟩ (.slice a8a x8.1.length c8a)).setCell ⟨w.heap.size, 10, none⟩ (.slice a8b x8.2.1.length c8b)).setCell ⟨w.heap.size, 11, none⟩ (.slice a8c x8.2.2.length c8c)) (some w.heap.size) := (grown_same (grown_same (grown_same (grown_same (grown_same (grown_same (grown_same (grown_same (grown_same (grown_same (grown_same (setCell_grown _ _ _ _) (setCell_grown _ _ _ _)) (setCell_grown _ _ _ _)) (setCell_grown _ _ _ _)) (setCell_grown _ _ _ _)) (setCell_grown _ _ _ _)) (setCell_grown _ _ _ _)) (setCell_grown _ _ _ _)) (setCell_grown _ _ _ _)) (setCell_grown _ _ _ _)) (setCell_grown _ _ _ _)) (setCell_grown _ _ _ _))
            have DZ : CellsAt (((((((((((((((w8.setCell ⟨w.heap.size + 1, 9, none⟩ (.slice a8a x8.1.length c8a)).setCell ⟨w.heap.size + 1, 10, none⟩ (.slice a8b x8.2.1.length c8b)).setCell ⟨w.heap.size + 1, 11, none⟩ (.slice a8c x8.2.2.length c8c)).setCell ⟨w.heap.size, 0, none⟩ (.slice a1 x1.length c1)).setCell ⟨w.heap.size, 1, none⟩ (.slice a2 x2.length c2)).setCell ⟨w.heap.size, 2, none⟩ (.int .i64 x3)).setCell ⟨w.heap.size, 3, none⟩ (.slice a4 x4.length c4)).setCell ⟨w.heap.size, 4, none⟩ (.slice a5 x5.length c5)).setCell ⟨w.heap.size, 5, none⟩ (.slice au l.length cu)).setCell ⟨w.heap.size, 6, none⟩ (.slice a7a x7.1.length c7a)).setCell ⟨w.heap.size, 7, none⟩ (.slice a7b x7.2.1.length c7b)).setCell ⟨w.heap.size, 8, none⟩ (.slice a7c x7.2.2.length c7c)).setCell ⟨w.heap.size, 9, none⟩ (.slice a8a x8.1.length c8a)).setCell ⟨w.heap.size, 10, none⟩ (.slice a8b x8.2.1.length c8b)).setCell ⟨w.heap.size, 11, none⟩ (.slice a8c x8.2.2.length c8c)) w.heap.size [.slice a1 x1.length c1, .slice a2 x2.length c2, .int .i64 x3, .slice a4 x4.length c4, .slice a5 x5.length c5, .slice au l.length cu, .slice a7a x7.1.length c7a, .slice a7b x7.2.1.length c7b, .slice a7c x7.2.2.length c7c, .slice a8a x8.1.length c8a, .slice a8b x8.2.1.length c8b, .slice a8c x8.2.2.length c8c] := ((((((((((((HZ.out.set 0 (by (try simp only [List.length_set]); decide) (.slice a1 x1.length c1)).set 1 (by (try simp only [List.length_set]); decide) (.slice a2 x2.length c2)).set 2 (by (try simp only [List.length_set]); decide) (.int .i64 x3)).set 3 (by (try simp only [List.length_set]); decide) (.slice a4 x4.length c4)).set 4 (by (try simp only [List.length_set]); decide) (.slice a5 x5.length c5)).set 5 (by (try simp only [List.length_set]); decide) (.slice au l.length cu)).set 6 (by (try simp only [List.length_set]); decide) (.slice a7a x7.1.length c7a)).set 7 (by (try simp only [List.length_set]); decide) (.slice a7b x7.2.1.length c7b)).set 8 (by (try simp only [List.length_set]); decide) (.slice a7c x7.2.2.length c7c)).set 9 (by (try simp only [List.length_set]); decide) (.slice a8a x8.1.length c8a)).set 10 (by (try simp only [List.length_set]); decide) (.slice a8b x8.2.1.length c8b)).set 11 (by (try simp only [List.length_set]); decide) (.slice a8c x8.2.2.length c8c))
            have HDZ := Lib.hid DZ; have HGZ := Lib.hid gz
            have XZ := Lib.hid (show Ext w (((((((((((((((w8.setCell ⟨w.heap.size + 1, 9, none⟩ (.slice a8a x8.1.length c8a)).setCell ⟨w.heap.size + 1, 10, none⟩ (.slice a8b x8.2.1.length c8b)).setCell ⟨w.heap.size + 1, 11, none⟩ (.slice a8c x8.2.2.length c8c)).setCell ⟨w.heap.size, 0, none⟩ (.slice a1 x1.length c1)).setCell ⟨w.heap.size, 1, none⟩ (.slice a2 x2.length c2)).setCell ⟨w.heap.size, 2, none⟩ (.int .i64 x3)).setCell ⟨w.heap.size, 3, none⟩ (.slice a4 x4.length c4)).setCell ⟨w.heap.size, 4, none⟩ (.slice a5 x5.length c5)).setCell ⟨w.heap.size, 5, none⟩ (.slice au l.length cu)).setCell ⟨w.heap.size, 6, none⟩ (.slice a7a x7.1.length c7a)).setCell ⟨w.heap.size, 7, none⟩ (.slice a7b x7.2.1.length c7b)).setCell ⟨w.heap.size, 8, none⟩ (.slice a7c x7.2.2.length c7c)).setCell ⟨w.heap.size, 9, none⟩ (.slice a8a x8.1.length c8a)).setCell ⟨w.heap.size, 10, none⟩ (.slice a8b x8.2.1.length c8b)).setCell ⟨w.heap.size, 11, none⟩ (.slice a8c x8.2.2.length c8c)) from Below.grown HX9.out gz HX9.out.size (fun k hk => by have := Option.some.inj hk; omega))
            clear DZ gz
            have HF := Lib.hid (HFR.out.trans (Fr.of HGZ.out HSR.out (fun k hk => .inl (by have := Option.some.inj hk; omega))))
            have HVA := Lib.hid (VchAt.mk (v := ⟨x1, x2, x3, x4, x5, l, x7, x8⟩) (P1.out.fr HF.out) (P2.out.fr HF.out) (P4.out.fr HF.out) (P5.out.fr HF.out) (Lst.opns (HLI.out.low HGZ.out (by have := HSZ.out; omega))) (opnAt_of (sat_low P7.out HGZ.out (by have := HSZ.out; have := HS7.out; omega))) (opnAt_of (sat_low P8.out HGZ.out (by have := HSZ.out; have := HS7.out; have := HS8.out; omega))))
            go_wp2_with fail
            exact bodyPost_ret (res_dread HDZ.out.at_ _ rfl rfl) rfl (.inl ⟨_, HN.out, _, _, _, _, _, _, _, _, _, _, _, rfl, HVA.out, XZ.out⟩)
end Go.Proofs.YthpgmjdepigihaaDoor
