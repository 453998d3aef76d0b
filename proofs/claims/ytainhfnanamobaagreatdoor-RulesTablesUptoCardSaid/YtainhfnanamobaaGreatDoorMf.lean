/- The document's machine: its calls whatever its state; a step. -/
import Derived.Test.YtainhfnanamobaaGreatDoorMe
import Derived.Test.YtainhfnanamobaaGreatDoorM5
namespace Go.Att
open Go.RowKit
/-- A step's numbers where nothing was looked at. -/
def ncs (pc fp ap rv : Int) : List Value := [.int .i64 pc, .int .i64 fp, .int .i64 ap, .int .i64 rv, .int .i64 0, .int .i64 0, .int .i64 0, .int .i64 0, .int .i64 0, .int .i64 0]
/-- The blocks of a step's own. -/
structure Aux (ti ts : TypeId) (w : World) (b : Nat) (cv : Value) (zb rb nb : Nat) (x : In4) (pc fp ap rv : Int) : Prop where
  ins : BlkOf w zb (insCs x) ti
  res : BlkOf w rb (ncs 0 0 0 0) ts
  nxt : BlkOf w nb (ncs pc fp ap rv) ts
  z1 : zb ≠ b
  r1 : rb ≠ b
  n1 : nb ≠ b
  z2 : cv.ownBlock ≠ some zb
  r2 : cv.ownBlock ≠ some rb
  n2 : cv.ownBlock ≠ some nb
  e1 : zb ≠ nb
  e2 : rb ≠ nb
section
variable {ti ts : TypeId} {w w' : World} {b : Nat} {cv cv' : Value} {zb rb nb : Nat} {x : In4} {pc fp ap rv : Int}
theorem Aux.dk (h : Aux ti ts w b cv zb rb nb x pc fp ap rv) (k : DK b w w' cv cv') : Aux ti ts w' b cv' zb rb nb x pc fp ap rv :=
  ⟨k.blk h.ins h.z1 h.z2, k.blk h.res h.r1 h.r2, k.blk h.nxt h.n1 h.n2, h.z1, h.r1, h.n1, (k zb h.ins.lt h.z1 h.z2).2.2, (k rb h.res.lt h.r1 h.r2).2.2, (k nb h.nxt.lt h.n1 h.n2).2.2, h.e1, h.e2⟩
theorem Aux.ext (h : Aux ti ts w b cv zb rb nb x pc fp ap rv) (hx : Ext w w') : Aux ti ts w' b cv zb rb nb x pc fp ap rv := h.dk (DK.ext hx)
/-- A register of the step to come was written. -/
theorem Aux.put (h : Aux ti ts w b cv zb rb nb x pc fp ap rv) (i : Nat) (v : Value) {pc' fp' ap' rv' : Int} (e : (ncs pc fp ap rv).set i v = ncs pc' fp' ap' rv') : Aux ti ts (w.setCell ⟨nb, i, none⟩ v) b cv zb rb nb x pc' fp' ap' rv' :=
  ⟨h.ins.grown (setCell_grown _ _ _ _) (fun k => h.e1 (Option.some.inj k)), h.res.grown (setCell_grown _ _ _ _) (fun k => h.e2 (Option.some.inj k)), by rw [← e]; exact h.nxt.set i v, h.z1, h.r1, h.n1, h.z2, h.r2, h.n2, h.e1, h.e2⟩
end
/-- What else is there stays; the step's own blocks are new. -/
structure DKn (b : Nat) (w W : World) (cv cv' : Value) (rb nb : Nat) : Prop where
  dk : DK b w W cv cv'
  hr : w.heap.size ≤ rb
  hn : w.heap.size ≤ nb
section
variable {b : Nat} {w W W' : World} {cv cv' cv'' : Value} {rb nb : Nat}
theorem DKn.next (h : DKn b w W cv cv' rb nb) (k : DK b W W' cv' cv'') : DKn b w W' cv cv'' rb nb := ⟨h.dk.trans k, h.hr, h.hn⟩
theorem DK.lowg (h : DK b w W cv cv') {r : Nat} (hr : w.heap.size ≤ r) (hg : W.grownBy W' (some r)) : DK b w W' cv cv' := fun q h1 h2 h3 => by
  obtain ⟨a1, a2, a3⟩ := h q h1 h2 h3
  exact ⟨(hg.block q a2 (fun e => by have := Option.some.inj e; omega)).trans a1, Nat.lt_of_lt_of_le a2 hg.size, a3⟩
theorem DKn.put (h : DKn b w W cv cv' rb nb) (i : Nat) (v : Value) : DKn b w (W.setCell ⟨nb, i, none⟩ v) cv cv' rb nb := ⟨h.dk.lowg h.hn (setCell_grown _ _ _ _), h.hr, h.hn⟩
end
theorem dtell_pc (p : Int) (d : Ds) (i x : Int) : (d.tell p i x).s.pc = d.s.pc := by
  unfold Ds.tell
  split
  · rfl
  · split <;> rfl
end Go.Att
namespace Go.Proofs.YtainhfnanamobaaGreatDoor
open Go.RowKit Go.Att
attribute [local go_sem ↓] Go.wp_at_zero Go.wp_at_succ
section
variable {w0 w w' : World} {b : Nat} {p : Int} {d : Ds} {cv : Value}
/-- What a call of the document's machine leaves. -/
def DGo (w0 w : World) (b : Nat) (p : Int) (cv v : Value) (d : Ds) (e : Ending) (w' : World) : Prop :=
  e = .returned v ∧ ∃ cv', DAt w0 w' b p d.s cv' d.er ∧ DK b w w' cv cv'
theorem dlook_all (h : DAt w0 w b p d.s cv d.er) (i : Int) (hk : d.s.acc.length ≤ 2) : Calls Tryz.prog 154 #[.pointer (some ⟨b, 0, none⟩), .int .i64 i] w (DGo w0 w b p cv (.int .i64 (d.lookV i)) (d.look i)) := by
  obtain ⟨s, er⟩ := d
  by_cases he : er = 0
  · subst he
    cases hl : lk s.mem i with
    | none =>
      have e1 : (Ds.mk s 0).look i = ⟨s, 10⟩ := by rw [dlook_d0, hl]
      have e2 : (Ds.mk s 0).lookV i = 0 := by rw [dlookV_d0, hl]; rfl
      rw [e1, e2]
      exact (dlook_no h hl).mono fun e w' h => ⟨h.1, cv, h.2.1, DK.one h.2.2⟩
    | some v =>
      have e1 : (Ds.mk s 0).look i = ⟨s.noted i v, 0⟩ := by rw [dlook_d0, hl]
      have e2 : (Ds.mk s 0).lookV i = v := by rw [dlookV_d0, hl]; rfl
      rw [e1, e2]
      exact (dlook_yes h hl hk).mono fun e w' h => ⟨h.1, cv, h.2.1, DK.one h.2.2⟩
  · rw [dlook_er he, dlookV_er he]
    exact (dlook_err h he i).mono fun e w' hh => ⟨hh.1, cv, hh.2 ▸ h, hh.2 ▸ DK.refl _ _ _⟩
theorem dtell_all (h : DAt w0 w b p d.s cv d.er) {i : Int} (x : Int) (hi : 0 ≤ i ∧ i < p) (hk : d.s.acc.length ≤ 2) (hm : d.s.mem.length + 1 ≤ 100000) : Calls Tryz.prog 156 #[.pointer (some ⟨b, 0, none⟩), .int .i64 i, .int .i64 x] w (DGo w0 w b p cv (.tuple #[]) (d.tell p i x)) := by
  obtain ⟨s, er⟩ := d
  by_cases he : er = 0
  · subst he
    by_cases hl : s.may i (fof p x)
    · rw [dtell_d0_yes rfl hl]
      exact (dtell_yes h rfl hi (fof_bd h.lo _) hl hk hm).mono fun e w' h => h
    · rw [dtell_d0_no rfl hl]
      exact (dtell_no h rfl hl).mono fun e w' h => ⟨h.1, cv, h.2.1, DK.one h.2.2⟩
  · rw [dtell_er he]
    exact (dtell_err h he i x).mono fun e w' hh => ⟨hh.1, cv, hh.2 ▸ h, hh.2 ▸ DK.refl _ _ _⟩
theorem dmust_all (h : DAt w0 w b p d.s cv d.er) (c : Bool) : Calls Tryz.prog 157 #[.pointer (some ⟨b, 0, none⟩), .bool c] w (DGo w0 w b p cv (.tuple #[]) (d.must c)) := by
  obtain ⟨s, er⟩ := d
  by_cases he : er = 0 ∧ c = false
  · obtain ⟨h1, rfl⟩ := he
    subst h1
    have e1 : (Ds.mk s 0).must false = ⟨s, 7⟩ := by unfold Ds.must; rw [if_pos ⟨rfl, rfl⟩]
    rw [e1]
    exact (dmust_no h).mono fun e w' h => ⟨h.1, cv, h.2.1, DK.one h.2.2⟩
  · have e1 : (Ds.mk s er).must c = ⟨s, er⟩ := by unfold Ds.must; rw [if_neg he]
    rw [e1]
    have hc : er ≠ 0 ∨ c = true := by
      by_cases h0 : er = 0
      · right; cases c
        · exact absurd ⟨h0, rfl⟩ he
        · rfl
      · exact .inl h0
    exact (dmust_idle h hc).mono fun e w' hh => ⟨hh.1, cv, hh.2 ▸ h, hh.2 ▸ DK.refl _ _ _⟩
theorem dreck_all (h : DAt w0 w b p d.s cv d.er) (op x y : Int) (hop : op = 1 ∨ op = 2 ∨ op = 3 ∨ op = 4 ∨ op = 6) : Calls Tryz.prog 155 #[.pointer (some ⟨b, 0, none⟩), .int .i64 op, .int .i64 x, .int .i64 y] w (DGo w0 w b p cv (.int .i64 (reck p op x y)) (d.reck op y)) := by
  obtain ⟨s, er⟩ := d
  by_cases h4 : op = 4
  · subst h4
    by_cases hc : er ≠ 0 ∨ y ≠ 0
    · have e1 : (Ds.mk s er).reck 4 y = ⟨s, er⟩ := by
        unfold Ds.reck Ds.must
        rw [if_pos rfl, if_neg]
        rintro ⟨h1, h2⟩
        rcases hc with hc | hc
        · exact hc h1
        · simp at h2; exact hc h2
      rw [e1]
      exact (dreck_div h x y hc).mono fun e w' hh => ⟨hh.1, cv, hh.2 ▸ h, hh.2 ▸ DK.refl _ _ _⟩
    · have h0 : er = 0 := Classical.byContradiction fun hh => hc (.inl hh)
      have hy : y = 0 := Classical.byContradiction fun hh => hc (.inr hh)
      subst h0 hy
      have e1 : (Ds.mk s 0).reck 4 0 = ⟨s, 7⟩ := rfl
      rw [e1]
      exact (dreck_zero h x).mono fun e w' h => ⟨h.1, cv, h.2.1, DK.one h.2.2⟩
  · have e1 : (Ds.mk s er).reck op y = ⟨s, er⟩ := by unfold Ds.reck; rw [if_neg h4]
    rw [e1]
    exact (dreck_op h op x y (by omega)).mono fun e w' hh => ⟨hh.1, cv, hh.2 ▸ h, hh.2 ▸ DK.refl _ _ _⟩
theorem DAt.low {s : Ms} {er : Int} {nb i : Nat} {v : Value} (h : DAt w0 w b p s cv er) (h1 : nb ≠ b) (h2 : cv.ownBlock ≠ some nb) (h3 : w0.heap.size ≤ nb) : DAt w0 (w.setCell ⟨nb, i, none⟩ v) b p s cv er :=
  ⟨h.blk.grown (setCell_grown _ _ _ _) (fun k => h1 (Option.some.inj k).symm), (Turned.one (c := nb) (setCell_grown _ _ _ _)).own h.own h2 h2, Below.setCell h.ext h3 _, h.nb, h.ok, h.lo, h.hi, h.len⟩
theorem do_fin {s : Ms} {er : Int} {rb : Nat} (h : DAt w0 w b p s cv er) (h1 : rb ≠ b) (h2 : cv.ownBlock ≠ some rb) (h3 : w0.heap.size ≤ rb) (hg : w.grownBy w' (some rb)) : DAt w0 w' b p s cv er ∧ True :=
  ⟨⟨h.blk.grown hg (fun k => h1 (Option.some.inj k).symm), (Turned.one (c := rb) hg).own h.own h2 h2, Turned.ext (c := rb) (Turned.one hg) h.ext h3 h3, h.nb, h.ok, h.lo, h.hi, h.len⟩, trivial⟩
theorem res_do {w : World} {rb : Nat} {pc fp ap rv : Int} (h : BlkOf w rb (ncs pc fp ap rv) 94) (tmps : Array Value) (g : tmps.getD 4 undef = .pointer (some ⟨rb, 0, none⟩)) :
    (results Tryz.f97 tmps).run Tryz.prog w = .ok (.agg #[.int .i64 pc, .int .i64 fp, .int .i64 ap, .int .i64 rv, .int .i64 0, .int .i64 0, .int .i64 0, .int .i64 0, .int .i64 0, .int .i64 0]) w := by
  have g' : tmps[4]?.getD undef = .pointer (some ⟨rb, 0, none⟩) := by simpa using g
  have k0 : w.cell? ⟨rb, 0, none⟩ = some (.int .i64 pc) := h.cell 0
  have k1 : w.cell? ⟨rb, 1, none⟩ = some (.int .i64 fp) := h.cell 1
  have k2 : w.cell? ⟨rb, 2, none⟩ = some (.int .i64 ap) := h.cell 2
  have k3 : w.cell? ⟨rb, 3, none⟩ = some (.int .i64 rv) := h.cell 3
  have k4 : w.cell? ⟨rb, 4, none⟩ = some (.int .i64 0) := h.cell 4
  have k5 : w.cell? ⟨rb, 5, none⟩ = some (.int .i64 0) := h.cell 5
  have k6 : w.cell? ⟨rb, 6, none⟩ = some (.int .i64 0) := h.cell 6
  have k7 : w.cell? ⟨rb, 7, none⟩ = some (.int .i64 0) := h.cell 7
  have k8 : w.cell? ⟨rb, 8, none⟩ = some (.int .i64 0) := h.cell 8
  have k9 : w.cell? ⟨rb, 9, none⟩ = some (.int .i64 0) := h.cell 9
  clear h
  simp [results, Tryz.results97, go_sem, g', k0, k1, k2, k3, k4, k5, k6, k7, k8, k9]
/-- What a step of the document's gives. -/
def StepGot (w0 w : World) (b : Nat) (p : Int) (cv : Value) (s : Ms) (x : In4) (e : Ending) (w' : World) : Prop :=
  ∃ (d : Ds) (cv' : Value) (pc fp ap rv : Int), e = .returned (.agg #[.int .i64 pc, .int .i64 fp, .int .i64 ap, .int .i64 rv, .int .i64 0, .int .i64 0, .int .i64 0, .int .i64 0, .int .i64 0, .int .i64 0]) ∧ DAt w0 w' b p d.s cv' d.er ∧ DK b w w' cv cv' ∧ d.s.acc.length ≤ 3 ∧ d.s.mem.length ≤ s.mem.length + 2 ∧ (x.op = 0 → d = (Ds.mk s 0).look (fadd p s.fp x.a)) ∧ (x.op ≠ 0 → Same (s.one p x) s pc fp ap rv d)
set_option maxRecDepth 100000 in
set_option maxHeartbeats 8000000 in
theorem ddo_any {s : Ms} (h : DAt w0 w b p s cv 0) (x : In4) (h2 : s.acc = []) (hm : s.mem.length + 2 ≤ 100000) : Calls Tryz.prog 97 #[.pointer (some ⟨b, 0, none⟩), insV x] w (StepGot w0 w b p cv s x) := by
  have hlo := h.lo
  have hhi := h.hi
  have hcb : ∀ k, cv.ownBlock = some k → k < w.heap.size := fun k hk => (h.own.lt k hk).2
  have hbl := h.blk.lt
  have c0 : w.cell? ⟨b, 0, none⟩ = some (.int .i64 p) := h.blk.cell 0
  have c2 : w.cell? ⟨b, 2, none⟩ = some (.int .i64 s.pc) := h.blk.cell 2
  have c3 : w.cell? ⟨b, 3, none⟩ = some (.int .i64 s.fp) := h.blk.cell 3
  have c4 : w.cell? ⟨b, 4, none⟩ = some (.int .i64 s.ap) := h.blk.cell 4
  have c5 : w.cell? ⟨b, 5, none⟩ = some (.int .i64 s.rv) := h.blk.cell 5
  have hac : ∀ i, accA s.acc i = 0 ∧ accI s.acc i = 0 := fun i => by rw [h2]; simp [accA, accI]
  have c6 : w.cell? ⟨b, 6, none⟩ = some (.int .i64 0) := by have : w.cell? ⟨b, 6, none⟩ = some (.int .i64 (accA s.acc 0)) := h.blk.cell 6; rw [(hac 0).1] at this; exact this
  have c7 : w.cell? ⟨b, 7, none⟩ = some (.int .i64 0) := by have : w.cell? ⟨b, 7, none⟩ = some (.int .i64 (accA s.acc 1)) := h.blk.cell 7; rw [(hac 1).1] at this; exact this
  have c8 : w.cell? ⟨b, 8, none⟩ = some (.int .i64 0) := by have : w.cell? ⟨b, 8, none⟩ = some (.int .i64 (accA s.acc 2)) := h.blk.cell 8; rw [(hac 2).1] at this; exact this
  have c9 : w.cell? ⟨b, 9, none⟩ = some (.int .i64 0) := by have : w.cell? ⟨b, 9, none⟩ = some (.int .i64 (accI s.acc 0)) := h.blk.cell 9; rw [(hac 0).2] at this; exact this
  have c10 : w.cell? ⟨b, 10, none⟩ = some (.int .i64 0) := by have : w.cell? ⟨b, 10, none⟩ = some (.int .i64 (accI s.acc 1)) := h.blk.cell 10; rw [(hac 1).2] at this; exact this
  have c11 : w.cell? ⟨b, 11, none⟩ = some (.int .i64 0) := by have : w.cell? ⟨b, 11, none⟩ = some (.int .i64 (accI s.acc 2)) := h.blk.cell 11; rw [(hac 2).2] at this; exact this
  have H := Lib.hid h; have H2 := Lib.hid h2; have HM := Lib.hid hm; have HCB := Lib.hid hcb
  clear h h2 hm hac hcb
  unfold insV
  go_enter Tryz.func97, Tryz.ntmps97
  go_upto_region 2 with (fail)
  have s1 : (w.alloc (Obj.cells #[.int .i64 x.op, .int .i64 x.a, .int .i64 x.b, .int .i64 x.c] 97)).heap.size = w.heap.size + 1 := by simp
  have s2 : ((w.alloc (Obj.cells #[.int .i64 x.op, .int .i64 x.a, .int .i64 x.b, .int .i64 x.c] 97)).alloc (Obj.cells #[.int .i64 0, .int .i64 0, .int .i64 0, .int .i64 0, .int .i64 0, .int .i64 0, .int .i64 0, .int .i64 0, .int .i64 0, .int .i64 0] 94)).heap.size = w.heap.size + 1 + 1 := by simp
  have x1 := Ext.alloc w (Obj.cells #[.int .i64 x.op, .int .i64 x.a, .int .i64 x.b, .int .i64 x.c] 97)
  have x2 := Ext.alloc (w.alloc (Obj.cells #[.int .i64 x.op, .int .i64 x.a, .int .i64 x.b, .int .i64 x.c] 97)) (Obj.cells #[.int .i64 0, .int .i64 0, .int .i64 0, .int .i64 0, .int .i64 0, .int .i64 0, .int .i64 0, .int .i64 0, .int .i64 0, .int .i64 0] 94)
  have x3 := Ext.alloc ((w.alloc (Obj.cells #[.int .i64 x.op, .int .i64 x.a, .int .i64 x.b, .int .i64 x.c] 97)).alloc (Obj.cells #[.int .i64 0, .int .i64 0, .int .i64 0, .int .i64 0, .int .i64 0, .int .i64 0, .int .i64 0, .int .i64 0, .int .i64 0, .int .i64 0] 94)) (Obj.cells #[.int .i64 s.pc, .int .i64 s.fp, .int .i64 s.ap, .int .i64 s.rv, .int .i64 0, .int .i64 0, .int .i64 0, .int .i64 0, .int .i64 0, .int .i64 0] 94)
  have B1 : BlkOf (((w.alloc (Obj.cells #[.int .i64 x.op, .int .i64 x.a, .int .i64 x.b, .int .i64 x.c] 97)).alloc (Obj.cells #[.int .i64 0, .int .i64 0, .int .i64 0, .int .i64 0, .int .i64 0, .int .i64 0, .int .i64 0, .int .i64 0, .int .i64 0, .int .i64 0] 94)).alloc (Obj.cells #[.int .i64 s.pc, .int .i64 s.fp, .int .i64 s.ap, .int .i64 s.rv, .int .i64 0, .int .i64 0, .int .i64 0, .int .i64 0, .int .i64 0, .int .i64 0] 94)) w.heap.size (insCs x) 97 := ((BlkOf.new w (insCs x) 97).ext x2).ext x3
  have B2 : BlkOf (((w.alloc (Obj.cells #[.int .i64 x.op, .int .i64 x.a, .int .i64 x.b, .int .i64 x.c] 97)).alloc (Obj.cells #[.int .i64 0, .int .i64 0, .int .i64 0, .int .i64 0, .int .i64 0, .int .i64 0, .int .i64 0, .int .i64 0, .int .i64 0, .int .i64 0] 94)).alloc (Obj.cells #[.int .i64 s.pc, .int .i64 s.fp, .int .i64 s.ap, .int .i64 s.rv, .int .i64 0, .int .i64 0, .int .i64 0, .int .i64 0, .int .i64 0, .int .i64 0] 94)) (w.heap.size + 1) (ncs 0 0 0 0) 94 := by
    have := (BlkOf.new (w.alloc (Obj.cells #[.int .i64 x.op, .int .i64 x.a, .int .i64 x.b, .int .i64 x.c] 97)) (ncs 0 0 0 0) 94).ext x3
    rw [s1] at this; exact this
  have B3 : BlkOf (((w.alloc (Obj.cells #[.int .i64 x.op, .int .i64 x.a, .int .i64 x.b, .int .i64 x.c] 97)).alloc (Obj.cells #[.int .i64 0, .int .i64 0, .int .i64 0, .int .i64 0, .int .i64 0, .int .i64 0, .int .i64 0, .int .i64 0, .int .i64 0, .int .i64 0] 94)).alloc (Obj.cells #[.int .i64 s.pc, .int .i64 s.fp, .int .i64 s.ap, .int .i64 s.rv, .int .i64 0, .int .i64 0, .int .i64 0, .int .i64 0, .int .i64 0, .int .i64 0] 94)) (w.heap.size + 1 + 1) (ncs s.pc s.fp s.ap s.rv) 94 := by
    have := BlkOf.new ((w.alloc (Obj.cells #[.int .i64 x.op, .int .i64 x.a, .int .i64 x.b, .int .i64 x.c] 97)).alloc (Obj.cells #[.int .i64 0, .int .i64 0, .int .i64 0, .int .i64 0, .int .i64 0, .int .i64 0, .int .i64 0, .int .i64 0, .int .i64 0, .int .i64 0] 94)) (ncs s.pc s.fp s.ap s.rv) 94
    rw [s2] at this; exact this
  have hA : Aux 97 94 (((w.alloc (Obj.cells #[.int .i64 x.op, .int .i64 x.a, .int .i64 x.b, .int .i64 x.c] 97)).alloc (Obj.cells #[.int .i64 0, .int .i64 0, .int .i64 0, .int .i64 0, .int .i64 0, .int .i64 0, .int .i64 0, .int .i64 0, .int .i64 0, .int .i64 0] 94)).alloc (Obj.cells #[.int .i64 s.pc, .int .i64 s.fp, .int .i64 s.ap, .int .i64 s.rv, .int .i64 0, .int .i64 0, .int .i64 0, .int .i64 0, .int .i64 0, .int .i64 0] 94)) b cv w.heap.size (w.heap.size + 1) (w.heap.size + 1 + 1) x s.pc s.fp s.ap s.rv :=
    ⟨B1, B2, B3, by omega, by omega, by omega, fun e => by have := HCB.out _ e; omega, fun e => by have := HCB.out _ e; omega, fun e => by have := HCB.out _ e; omega, by omega, by omega⟩
  have hx := (x1.trans x2).trans x3
  have hz := H.out.ext.size
  replace H := Lib.hid (H.out.to hx)
  have A := Lib.hid hA
  have KK := Lib.hid (DKn.mk (rb := w.heap.size + 1) (nb := w.heap.size + 1 + 1) (DK.ext (b := b) (cv := cv) hx) (by omega) (by omega))
  clear s1 s2 x1 x2 x3 B1 B2 B3 hA c0 c2 c3 c4 c5 c6 c7 c8 c9 c10 c11 hx HCB hbl
  generalize (((w.alloc (Obj.cells #[.int .i64 x.op, .int .i64 x.a, .int .i64 x.b, .int .i64 x.c] 97)).alloc (Obj.cells #[.int .i64 0, .int .i64 0, .int .i64 0, .int .i64 0, .int .i64 0, .int .i64 0, .int .i64 0, .int .i64 0, .int .i64 0, .int .i64 0] 94)).alloc (Obj.cells #[.int .i64 s.pc, .int .i64 s.fp, .int .i64 s.ap, .int .i64 s.rv, .int .i64 0, .int .i64 0, .int .i64 0, .int .i64 0, .int .i64 0, .int .i64 0] 94)) = W1 at *
  have HZ : Hid (w0.heap.size ≤ w.heap.size + 1 + 1) := Lib.hid (by omega)
  have HZ1 : Hid (w0.heap.size ≤ w.heap.size + 1) := Lib.hid (by omega)
  clear hz
  generalize w.heap.size + 1 + 1 = nb at *
  generalize w.heap.size + 1 = rb at *
  generalize w.heap.size = zb at *
  have c0 : W1.cell? ⟨b, 0, none⟩ = some (.int .i64 p) := H.out.blk.cell 0
  have c2 : W1.cell? ⟨b, 2, none⟩ = some (.int .i64 s.pc) := H.out.blk.cell 2
  have n0 : W1.cell? ⟨nb, 0, none⟩ = some (.int .i64 s.pc) := A.out.nxt.cell 0
  have gn0 := A.out.nxt.free 0
  have hnb := A.out.n1
  have hnb' := hnb.symm
  go_region_held3 (fun w' => w'.cell? ⟨b, 0, none⟩ = some (.int .i64 p) ∧ w'.cell? ⟨b, 2, none⟩ = some (.int .i64 s.pc)) (first | exact ⟨c0, c2⟩ | exact ⟨(World.cell?_setCell_other _ _ _ _ (by simp)).trans c0, (World.cell?_setCell_other _ _ _ _ (by simp)).trans c2⟩) (first | (go_at_call 89; refine (radd_any _ _ _ _ hlo hhi).mono ?_; rintro e mw ⟨rfl, rfl⟩))
  rename_i hHeld; clear hHeld
  -- BEGIN
  replace H : Hid (DAt w0 W1 b p (Ds.mk s 0).s cv (Ds.mk s 0).er) := H
  have a1 := A.out.put 0 (.int .i64 (fadd p s.pc 1)) (pc' := (fadd p s.pc 1)) (fp' := s.fp) (ap' := s.ap) (rv' := s.rv) rfl
  replace KK := Lib.hid (KK.out.put 0 (.int .i64 (fadd p s.pc 1)))
  have h1 := H.out.low (i := 0) (v := .int .i64 (fadd p s.pc 1)) A.out.n1 A.out.n2 HZ.out
  replace a1 := a1.ext (Ext.drew _); replace h1 := h1.to (Ext.drew _); replace KK := Lib.hid (KK.out.next (DK.ext (Ext.drew _)))
  clear A H
  clear c0 c2 n0 gn0
  have A := Lib.hid a1; have H := Lib.hid h1
  clear a1 h1
  generalize (W1.setCell ⟨nb, 0, none⟩ (.int .i64 (fadd p s.pc 1))).drew = v1 at *
  have c3 : v1.cell? ⟨b, 3, none⟩ = some (.int .i64 s.fp) := H.out.blk.cell 3
  have c4 : v1.cell? ⟨b, 4, none⟩ = some (.int .i64 s.ap) := H.out.blk.cell 4
  have c0 : v1.cell? ⟨b, 0, none⟩ = some (.int .i64 p) := H.out.blk.cell 0
  have z1 : v1.cell? ⟨zb, 1, none⟩ = some (.int .i64 x.a) := A.out.ins.cell 1
  go_wp2_with fail
  go_quiet ((go_at_call 89; exact radd_q _ _ _ _ _ hlo hhi))
  have a2 := A.out.ext (Ext.drewN v1 nq); have h2 := H.out.to (Ext.drewN v1 nq)
  replace KK := Lib.hid (KK.out.next (DK.ext (Ext.drewN v1 nq)))
  clear A H
  clear c3 c4 c0 z1
  have A := Lib.hid a2; have H := Lib.hid h2; clear a2 h2
  generalize v1.drewN nq = v2 at *
  have c0 : v2.cell? ⟨b, 0, none⟩ = some (.int .i64 p) := H.out.blk.cell 0
  have z2 : v2.cell? ⟨zb, 2, none⟩ = some (.int .i64 x.b) := A.out.ins.cell 2
  go_wp2_with fail
  go_quiet ((go_at_call 89; exact radd_q _ _ _ _ _ hlo hhi))
  have a3 := A.out.ext (Ext.drewN v2 nq); have h3 := H.out.to (Ext.drewN v2 nq)
  replace KK := Lib.hid (KK.out.next (DK.ext (Ext.drewN v2 nq)))
  clear A H
  clear c0 z2
  have A := Lib.hid a3; have H := Lib.hid h3; clear a3 h3
  generalize v2.drewN nq = v3 at *
  have c0 : v3.cell? ⟨b, 0, none⟩ = some (.int .i64 p) := H.out.blk.cell 0
  have z3 : v3.cell? ⟨zb, 3, none⟩ = some (.int .i64 x.c) := A.out.ins.cell 3
  go_wp2_with fail
  go_quiet ((go_at_call 89; exact radd_q _ _ _ _ _ hlo hhi))
  have a4 := A.out.ext (Ext.drewN v3 nq); have h4 := H.out.to (Ext.drewN v3 nq)
  replace KK := Lib.hid (KK.out.next (DK.ext (Ext.drewN v3 nq)))
  clear A H
  clear c0 z3
  have A := Lib.hid a4; have H := Lib.hid h4; clear a4 h4
  generalize v3.drewN nq = v4 at *
  have HDK : Dok p (Ds.mk s 0) 0 s.mem.length := ⟨by rw [show (Ds.mk s 0).s.acc = [] from H2.out]; simp, Nat.le_refl _, .inl rfl⟩
  have HOK : Okm p s := H.out.ok
  have HD := Lib.hid HDK; have HO := Lib.hid HOK; clear HDK HOK
  have z0 : v4.cell? ⟨zb, 0, none⟩ = some (.int .i64 x.op) := A.out.ins.cell 0
  cases hop : isOp x.op with
  | false =>
    obtain ⟨o1, o2, o3, o4, o5, o6, o7, o8, o9, o10, o11, o12, o13⟩ := no_ops hop
    have HNO := Lib.hid (one_none p s x hop)
    clear hop
    by_cases hz : x.op = 0
    · obtain ⟨op, xa, xb, xc⟩ := x
      dsimp only at *
      subst hz
      clear o1 o2 o3 o4 o5 o6 o7 o8 o9 o10 o11 o12 o13
      go_wp2_with fail
      refine (dlook_all (d := (Ds.mk s 0)) H.out _ (Nat.le_trans HD.out.acc (by omega))).mono ?_
      rintro e v5 ⟨rfl, cv5, h5, k5⟩
      replace A := Lib.hid (A.out.dk k5); replace KK := Lib.hid (KK.out.next k5); have HH := Lib.hid h5
      clear z0
      clear H h5 k5
      have H := HH; clear HH
      have hd2 := HD.out.look (fadd p s.fp xa)
      have HK2 := Lib.hid hd2; clear hd2
      have n0 : v5.cell? ⟨nb, 0, none⟩ = some (.int .i64 (fadd p s.pc 1)) := A.out.nxt.cell 0
      have n1 : v5.cell? ⟨nb, 1, none⟩ = some (.int .i64 s.fp) := A.out.nxt.cell 1
      have n2 : v5.cell? ⟨nb, 2, none⟩ = some (.int .i64 s.ap) := A.out.nxt.cell 2
      have n3 : v5.cell? ⟨nb, 3, none⟩ = some (.int .i64 s.rv) := A.out.nxt.cell 3
      have n4 : v5.cell? ⟨nb, 4, none⟩ = some (.int .i64 0) := A.out.nxt.cell 4
      have n5 : v5.cell? ⟨nb, 5, none⟩ = some (.int .i64 0) := A.out.nxt.cell 5
      have n6 : v5.cell? ⟨nb, 6, none⟩ = some (.int .i64 0) := A.out.nxt.cell 6
      have n7 : v5.cell? ⟨nb, 7, none⟩ = some (.int .i64 0) := A.out.nxt.cell 7
      have n8 : v5.cell? ⟨nb, 8, none⟩ = some (.int .i64 0) := A.out.nxt.cell 8
      have n9 : v5.cell? ⟨nb, 9, none⟩ = some (.int .i64 0) := A.out.nxt.cell 9
      have r0 : v5.cell? ⟨rb, 0, none⟩ = some (.int .i64 0) := A.out.res.cell 0
      have r1 : v5.cell? ⟨rb, 1, none⟩ = some (.int .i64 0) := A.out.res.cell 1
      have r2 : v5.cell? ⟨rb, 2, none⟩ = some (.int .i64 0) := A.out.res.cell 2
      have r3 : v5.cell? ⟨rb, 3, none⟩ = some (.int .i64 0) := A.out.res.cell 3
      have r4 : v5.cell? ⟨rb, 4, none⟩ = some (.int .i64 0) := A.out.res.cell 4
      have r5 : v5.cell? ⟨rb, 5, none⟩ = some (.int .i64 0) := A.out.res.cell 5
      have r6 : v5.cell? ⟨rb, 6, none⟩ = some (.int .i64 0) := A.out.res.cell 6
      have r7 : v5.cell? ⟨rb, 7, none⟩ = some (.int .i64 0) := A.out.res.cell 7
      have r8 : v5.cell? ⟨rb, 8, none⟩ = some (.int .i64 0) := A.out.res.cell 8
      have r9 : v5.cell? ⟨rb, 9, none⟩ = some (.int .i64 0) := A.out.res.cell 9
      have gr0 := A.out.res.free 0
      have gr1 := A.out.res.free 1
      have gr2 := A.out.res.free 2
      have gr3 := A.out.res.free 3
      have gr4 := A.out.res.free 4
      have gr5 := A.out.res.free 5
      have gr6 := A.out.res.free 6
      have gr7 := A.out.res.free 7
      have gr8 := A.out.res.free 8
      have gr9 := A.out.res.free 9
      have HE2 := A.out.e2
      go_wp2_with fail
      have hgr := grown_one (grown_one (grown_one (grown_one (grown_one (grown_one (grown_one (grown_one (grown_one (setCell_grown v5 rb 0 (.int .i64 (fadd p s.pc 1))) (setCell_grown _ rb 1 (.int .i64 s.fp))) (setCell_grown _ rb 2 (.int .i64 s.ap))) (setCell_grown _ rb 3 (.int .i64 s.rv))) (setCell_grown _ rb 4 (.int .i64 0))) (setCell_grown _ rb 5 (.int .i64 0))) (setCell_grown _ rb 6 (.int .i64 0))) (setCell_grown _ rb 7 (.int .i64 0))) (setCell_grown _ rb 8 (.int .i64 0))) (setCell_grown _ rb 9 (.int .i64 0))
      have hbl := ((((((((((A.out.res).set 0 (.int .i64 (fadd p s.pc 1))).set 1 (.int .i64 s.fp)).set 2 (.int .i64 s.ap)).set 3 (.int .i64 s.rv)).set 4 (.int .i64 0)).set 5 (.int .i64 0)).set 6 (.int .i64 0)).set 7 (.int .i64 0)).set 8 (.int .i64 0)).set 9 (.int .i64 0)
      obtain ⟨m1, m2⟩ := do_fin H.out A.out.r1 A.out.r2 HZ1.out hgr
      have M1 := Lib.hid m1; have MK := Lib.hid (KK.out.dk.lowg KK.out.hr hgr); clear m1 m2 hgr H A HE2 KK
      clear n0 n1 n2 n3 n4 n5 n6 n7 n8 n9 r0 r1 r2 r3 r4 r5 r6 r7 r8 r9 gr0 gr1 gr2 gr3 gr4 gr5 gr6 gr7 gr8 gr9
      refine bodyPost_ret (v := .agg #[.int .i64 (fadd p s.pc 1), .int .i64 s.fp, .int .i64 s.ap, .int .i64 s.rv, .int .i64 0, .int .i64 0, .int .i64 0, .int .i64 0, .int .i64 0, .int .i64 0]) (res_do hbl _ rfl) rfl ?_
      exact ⟨((Ds.mk s 0).look (fadd p s.fp xa)), cv5, (fadd p s.pc 1), s.fp, s.ap, s.rv, rfl, M1.out, MK.out, Nat.le_trans HK2.out.acc (by omega), Nat.le_trans HK2.out.mem (by omega), fun _ => rfl, fun h => absurd rfl h⟩
    · have hz0 : (x.op == 0) = false := by simpa using hz
      have HZZ := Lib.hid hz; clear hz
      have c13 : v4.cell? ⟨b, 13, none⟩ = some (.int .i64 0) := H.out.blk.cell 13
      have f13 := H.out.blk.free 13
      go_upto_region 53 with (fail)
      have h77 : DAt w0 (v4.setCell ⟨b, 13, none⟩ (.int .i64 7)) b p (Ds.mk s 7).s cv (Ds.mk s 7).er := H.out.wrote (setCell_grown _ _ _ _) (H.out.blk.set 13 (.int .i64 7)) rfl H.out.ok
      have k77 : DK b v4 (v4.setCell ⟨b, 13, none⟩ (.int .i64 7)) cv cv := DK.one (setCell_grown _ _ _ _)
      replace A := Lib.hid (A.out.dk k77); replace KK := Lib.hid (KK.out.next k77); clear H k77 c13 f13 o1 o2 o3 o4 o5 o6 o7 o8 o9 o10 o11 o12 o13 hz0
      clear z0
      have H := Lib.hid h77; clear h77
      generalize v4.setCell ⟨b, 13, none⟩ (.int .i64 7) = v77 at *
      have n0 : v77.cell? ⟨nb, 0, none⟩ = some (.int .i64 (fadd p s.pc 1)) := A.out.nxt.cell 0
      have n1 : v77.cell? ⟨nb, 1, none⟩ = some (.int .i64 s.fp) := A.out.nxt.cell 1
      have n2 : v77.cell? ⟨nb, 2, none⟩ = some (.int .i64 s.ap) := A.out.nxt.cell 2
      have n3 : v77.cell? ⟨nb, 3, none⟩ = some (.int .i64 s.rv) := A.out.nxt.cell 3
      have n4 : v77.cell? ⟨nb, 4, none⟩ = some (.int .i64 0) := A.out.nxt.cell 4
      have n5 : v77.cell? ⟨nb, 5, none⟩ = some (.int .i64 0) := A.out.nxt.cell 5
      have n6 : v77.cell? ⟨nb, 6, none⟩ = some (.int .i64 0) := A.out.nxt.cell 6
      have n7 : v77.cell? ⟨nb, 7, none⟩ = some (.int .i64 0) := A.out.nxt.cell 7
      have n8 : v77.cell? ⟨nb, 8, none⟩ = some (.int .i64 0) := A.out.nxt.cell 8
      have n9 : v77.cell? ⟨nb, 9, none⟩ = some (.int .i64 0) := A.out.nxt.cell 9
      have r0 : v77.cell? ⟨rb, 0, none⟩ = some (.int .i64 0) := A.out.res.cell 0
      have r1 : v77.cell? ⟨rb, 1, none⟩ = some (.int .i64 0) := A.out.res.cell 1
      have r2 : v77.cell? ⟨rb, 2, none⟩ = some (.int .i64 0) := A.out.res.cell 2
      have r3 : v77.cell? ⟨rb, 3, none⟩ = some (.int .i64 0) := A.out.res.cell 3
      have r4 : v77.cell? ⟨rb, 4, none⟩ = some (.int .i64 0) := A.out.res.cell 4
      have r5 : v77.cell? ⟨rb, 5, none⟩ = some (.int .i64 0) := A.out.res.cell 5
      have r6 : v77.cell? ⟨rb, 6, none⟩ = some (.int .i64 0) := A.out.res.cell 6
      have r7 : v77.cell? ⟨rb, 7, none⟩ = some (.int .i64 0) := A.out.res.cell 7
      have r8 : v77.cell? ⟨rb, 8, none⟩ = some (.int .i64 0) := A.out.res.cell 8
      have r9 : v77.cell? ⟨rb, 9, none⟩ = some (.int .i64 0) := A.out.res.cell 9
      have gr0 := A.out.res.free 0
      have gr1 := A.out.res.free 1
      have gr2 := A.out.res.free 2
      have gr3 := A.out.res.free 3
      have gr4 := A.out.res.free 4
      have gr5 := A.out.res.free 5
      have gr6 := A.out.res.free 6
      have gr7 := A.out.res.free 7
      have gr8 := A.out.res.free 8
      have gr9 := A.out.res.free 9
      have HE2 := A.out.e2
      go_wp2_with fail
      have hgr := grown_one (grown_one (grown_one (grown_one (grown_one (grown_one (grown_one (grown_one (grown_one (setCell_grown v77 rb 0 (.int .i64 (fadd p s.pc 1))) (setCell_grown _ rb 1 (.int .i64 s.fp))) (setCell_grown _ rb 2 (.int .i64 s.ap))) (setCell_grown _ rb 3 (.int .i64 s.rv))) (setCell_grown _ rb 4 (.int .i64 0))) (setCell_grown _ rb 5 (.int .i64 0))) (setCell_grown _ rb 6 (.int .i64 0))) (setCell_grown _ rb 7 (.int .i64 0))) (setCell_grown _ rb 8 (.int .i64 0))) (setCell_grown _ rb 9 (.int .i64 0))
      have hbl := ((((((((((A.out.res).set 0 (.int .i64 (fadd p s.pc 1))).set 1 (.int .i64 s.fp)).set 2 (.int .i64 s.ap)).set 3 (.int .i64 s.rv)).set 4 (.int .i64 0)).set 5 (.int .i64 0)).set 6 (.int .i64 0)).set 7 (.int .i64 0)).set 8 (.int .i64 0)).set 9 (.int .i64 0)
      obtain ⟨m1, m2⟩ := do_fin H.out A.out.r1 A.out.r2 HZ1.out hgr
      have M1 := Lib.hid m1; have MK := Lib.hid (KK.out.dk.lowg KK.out.hr hgr); clear m1 m2 hgr H A HE2 KK
      clear n0 n1 n2 n3 n4 n5 n6 n7 n8 n9 r0 r1 r2 r3 r4 r5 r6 r7 r8 r9 gr0 gr1 gr2 gr3 gr4 gr5 gr6 gr7 gr8 gr9
      refine bodyPost_ret (v := .agg #[.int .i64 (fadd p s.pc 1), .int .i64 s.fp, .int .i64 s.ap, .int .i64 s.rv, .int .i64 0, .int .i64 0, .int .i64 0, .int .i64 0, .int .i64 0, .int .i64 0]) (res_do hbl _ rfl) rfl ?_
      exact ⟨(Ds.mk s 7), cv, (fadd p s.pc 1), s.fp, s.ap, s.rv, rfl, M1.out, MK.out, Nat.le_trans HD.out.acc (by omega), Nat.le_trans HD.out.mem (by omega), fun h => absurd h HZZ.out, fun _ => by rw [HNO.out]; exact ⟨rfl, .inl rfl⟩⟩
  | true =>
    have hops := ops_of hop
    clear hop
    obtain ⟨op, xa, xb, xc⟩ := x
    dsimp only at *
    rcases hops with hops | rfl | rfl | rfl | rfl | rfl | rfl | rfl | rfl
    · rcases hops with rfl | rfl | rfl | rfl | rfl
      · have k1 := HD.out.look (fadd p s.fp xa)
        have k2 := k1.look (fadd p s.fp xb)
        have k3 := k2.reck 1 (((Ds.mk s 0).look (fadd p s.fp xa)).lookV (fadd p s.fp xb))
        have k4 := k3.tell (fadd p s.fp xc) (reck p 1 ((Ds.mk s 0).lookV (fadd p s.fp xa)) (((Ds.mk s 0).look (fadd p s.fp xa)).lookV (fadd p s.fp xb)))
        have K1 := Lib.hid k1; have K2 := Lib.hid k2; have K3 := Lib.hid k3; have K4 := Lib.hid k4; clear k1 k2 k3 k4
        go_wp2_with fail
        refine (dlook_all (d := (Ds.mk s 0)) H.out _ (Nat.le_trans HD.out.acc (by omega))).mono ?_
        rintro e v5 ⟨rfl, cv5, h5, k5⟩
        replace A := Lib.hid (A.out.dk k5); replace KK := Lib.hid (KK.out.next k5); have HH := Lib.hid h5
        clear z0
        clear H h5 k5
        have H := HH; clear HH
        go_wp2_with fail
        refine (dlook_all (d := ((Ds.mk s 0).look (fadd p s.fp xa))) H.out _ (Nat.le_trans K1.out.acc (by omega))).mono ?_
        rintro e v6 ⟨rfl, cv6, h6, k6⟩
        replace A := Lib.hid (A.out.dk k6); replace KK := Lib.hid (KK.out.next k6); have HH := Lib.hid h6
        clear H h6 k6
        have H := HH; clear HH
        have z0 : v6.cell? ⟨zb, 0, none⟩ = some (.int .i64 1) := A.out.ins.cell 0
        go_wp2_with fail
        refine (dreck_all (d := (((Ds.mk s 0).look (fadd p s.fp xa)).look (fadd p s.fp xb))) H.out 1 ((Ds.mk s 0).lookV (fadd p s.fp xa)) (((Ds.mk s 0).look (fadd p s.fp xa)).lookV (fadd p s.fp xb)) (by decide)).mono ?_
        rintro e v7 ⟨rfl, cv7, h7, k7⟩
        replace A := Lib.hid (A.out.dk k7); replace KK := Lib.hid (KK.out.next k7); have HH := Lib.hid h7
        clear z0
        clear H h7 k7
        have H := HH; clear HH
        go_wp2_with fail
        refine (dtell_all (d := ((((Ds.mk s 0).look (fadd p s.fp xa)).look (fadd p s.fp xb)).reck 1 (((Ds.mk s 0).look (fadd p s.fp xa)).lookV (fadd p s.fp xb)))) H.out (reck p 1 ((Ds.mk s 0).lookV (fadd p s.fp xa)) (((Ds.mk s 0).look (fadd p s.fp xa)).lookV (fadd p s.fp xb))) (fadd_bd hlo s.fp xc) (Nat.le_trans K3.out.acc (by omega)) (by have := K3.out.mem; have := HM.out; omega)).mono ?_
        rintro e v8 ⟨rfl, cv8, h8, k8⟩
        replace A := Lib.hid (A.out.dk k8); replace KK := Lib.hid (KK.out.next k8); have HH := Lib.hid h8
        clear H h8 k8
        have H := HH; clear HH
        have n0 : v8.cell? ⟨nb, 0, none⟩ = some (.int .i64 (fadd p s.pc 1)) := A.out.nxt.cell 0
        have n1 : v8.cell? ⟨nb, 1, none⟩ = some (.int .i64 s.fp) := A.out.nxt.cell 1
        have n2 : v8.cell? ⟨nb, 2, none⟩ = some (.int .i64 s.ap) := A.out.nxt.cell 2
        have n3 : v8.cell? ⟨nb, 3, none⟩ = some (.int .i64 s.rv) := A.out.nxt.cell 3
        have n4 : v8.cell? ⟨nb, 4, none⟩ = some (.int .i64 0) := A.out.nxt.cell 4
        have n5 : v8.cell? ⟨nb, 5, none⟩ = some (.int .i64 0) := A.out.nxt.cell 5
        have n6 : v8.cell? ⟨nb, 6, none⟩ = some (.int .i64 0) := A.out.nxt.cell 6
        have n7 : v8.cell? ⟨nb, 7, none⟩ = some (.int .i64 0) := A.out.nxt.cell 7
        have n8 : v8.cell? ⟨nb, 8, none⟩ = some (.int .i64 0) := A.out.nxt.cell 8
        have n9 : v8.cell? ⟨nb, 9, none⟩ = some (.int .i64 0) := A.out.nxt.cell 9
        have r0 : v8.cell? ⟨rb, 0, none⟩ = some (.int .i64 0) := A.out.res.cell 0
        have r1 : v8.cell? ⟨rb, 1, none⟩ = some (.int .i64 0) := A.out.res.cell 1
        have r2 : v8.cell? ⟨rb, 2, none⟩ = some (.int .i64 0) := A.out.res.cell 2
        have r3 : v8.cell? ⟨rb, 3, none⟩ = some (.int .i64 0) := A.out.res.cell 3
        have r4 : v8.cell? ⟨rb, 4, none⟩ = some (.int .i64 0) := A.out.res.cell 4
        have r5 : v8.cell? ⟨rb, 5, none⟩ = some (.int .i64 0) := A.out.res.cell 5
        have r6 : v8.cell? ⟨rb, 6, none⟩ = some (.int .i64 0) := A.out.res.cell 6
        have r7 : v8.cell? ⟨rb, 7, none⟩ = some (.int .i64 0) := A.out.res.cell 7
        have r8 : v8.cell? ⟨rb, 8, none⟩ = some (.int .i64 0) := A.out.res.cell 8
        have r9 : v8.cell? ⟨rb, 9, none⟩ = some (.int .i64 0) := A.out.res.cell 9
        have gr0 := A.out.res.free 0
        have gr1 := A.out.res.free 1
        have gr2 := A.out.res.free 2
        have gr3 := A.out.res.free 3
        have gr4 := A.out.res.free 4
        have gr5 := A.out.res.free 5
        have gr6 := A.out.res.free 6
        have gr7 := A.out.res.free 7
        have gr8 := A.out.res.free 8
        have gr9 := A.out.res.free 9
        have HE2 := A.out.e2
        go_wp2_with fail
        have hgr := grown_one (grown_one (grown_one (grown_one (grown_one (grown_one (grown_one (grown_one (grown_one (setCell_grown v8 rb 0 (.int .i64 (fadd p s.pc 1))) (setCell_grown _ rb 1 (.int .i64 s.fp))) (setCell_grown _ rb 2 (.int .i64 s.ap))) (setCell_grown _ rb 3 (.int .i64 s.rv))) (setCell_grown _ rb 4 (.int .i64 0))) (setCell_grown _ rb 5 (.int .i64 0))) (setCell_grown _ rb 6 (.int .i64 0))) (setCell_grown _ rb 7 (.int .i64 0))) (setCell_grown _ rb 8 (.int .i64 0))) (setCell_grown _ rb 9 (.int .i64 0))
        have hbl := ((((((((((A.out.res).set 0 (.int .i64 (fadd p s.pc 1))).set 1 (.int .i64 s.fp)).set 2 (.int .i64 s.ap)).set 3 (.int .i64 s.rv)).set 4 (.int .i64 0)).set 5 (.int .i64 0)).set 6 (.int .i64 0)).set 7 (.int .i64 0)).set 8 (.int .i64 0)).set 9 (.int .i64 0)
        obtain ⟨m1, m2⟩ := do_fin H.out A.out.r1 A.out.r2 HZ1.out hgr
        have M1 := Lib.hid m1; have MK := Lib.hid (KK.out.dk.lowg KK.out.hr hgr); clear m1 m2 hgr H A HE2 KK
        clear n0 n1 n2 n3 n4 n5 n6 n7 n8 n9 r0 r1 r2 r3 r4 r5 r6 r7 r8 r9 gr0 gr1 gr2 gr3 gr4 gr5 gr6 gr7 gr8 gr9
        refine bodyPost_ret (v := .agg #[.int .i64 (fadd p s.pc 1), .int .i64 s.fp, .int .i64 s.ap, .int .i64 s.rv, .int .i64 0, .int .i64 0, .int .i64 0, .int .i64 0, .int .i64 0, .int .i64 0]) (res_do hbl _ rfl) rfl ?_
        exact ⟨(((((Ds.mk s 0).look (fadd p s.fp xa)).look (fadd p s.fp xb)).reck 1 (((Ds.mk s 0).look (fadd p s.fp xa)).lookV (fadd p s.fp xb))).tell p (fadd p s.fp xc) (reck p 1 ((Ds.mk s 0).lookV (fadd p s.fp xa)) (((Ds.mk s 0).look (fadd p s.fp xa)).lookV (fadd p s.fp xb)))), cv8, (fadd p s.pc 1), s.fp, s.ap, s.rv, rfl, M1.out, MK.out, K4.out.acc, Nat.le_trans K4.out.mem (by omega), fun h => absurd (show (1 : Int) = 0 from h) (by decide), fun _ => same_comp hlo HO.out ⟨1, xa, xb, xc⟩ rfl⟩
      · have k1 := HD.out.look (fadd p s.fp xa)
        have k2 := k1.look (fadd p s.fp xb)
        have k3 := k2.reck 2 (((Ds.mk s 0).look (fadd p s.fp xa)).lookV (fadd p s.fp xb))
        have k4 := k3.tell (fadd p s.fp xc) (reck p 2 ((Ds.mk s 0).lookV (fadd p s.fp xa)) (((Ds.mk s 0).look (fadd p s.fp xa)).lookV (fadd p s.fp xb)))
        have K1 := Lib.hid k1; have K2 := Lib.hid k2; have K3 := Lib.hid k3; have K4 := Lib.hid k4; clear k1 k2 k3 k4
        go_wp2_with fail
        refine (dlook_all (d := (Ds.mk s 0)) H.out _ (Nat.le_trans HD.out.acc (by omega))).mono ?_
        rintro e v5 ⟨rfl, cv5, h5, k5⟩
        replace A := Lib.hid (A.out.dk k5); replace KK := Lib.hid (KK.out.next k5); have HH := Lib.hid h5
        clear z0
        clear H h5 k5
        have H := HH; clear HH
        go_wp2_with fail
        refine (dlook_all (d := ((Ds.mk s 0).look (fadd p s.fp xa))) H.out _ (Nat.le_trans K1.out.acc (by omega))).mono ?_
        rintro e v6 ⟨rfl, cv6, h6, k6⟩
        replace A := Lib.hid (A.out.dk k6); replace KK := Lib.hid (KK.out.next k6); have HH := Lib.hid h6
        clear H h6 k6
        have H := HH; clear HH
        have z0 : v6.cell? ⟨zb, 0, none⟩ = some (.int .i64 2) := A.out.ins.cell 0
        go_wp2_with fail
        refine (dreck_all (d := (((Ds.mk s 0).look (fadd p s.fp xa)).look (fadd p s.fp xb))) H.out 2 ((Ds.mk s 0).lookV (fadd p s.fp xa)) (((Ds.mk s 0).look (fadd p s.fp xa)).lookV (fadd p s.fp xb)) (by decide)).mono ?_
        rintro e v7 ⟨rfl, cv7, h7, k7⟩
        replace A := Lib.hid (A.out.dk k7); replace KK := Lib.hid (KK.out.next k7); have HH := Lib.hid h7
        clear z0
        clear H h7 k7
        have H := HH; clear HH
        go_wp2_with fail
        refine (dtell_all (d := ((((Ds.mk s 0).look (fadd p s.fp xa)).look (fadd p s.fp xb)).reck 2 (((Ds.mk s 0).look (fadd p s.fp xa)).lookV (fadd p s.fp xb)))) H.out (reck p 2 ((Ds.mk s 0).lookV (fadd p s.fp xa)) (((Ds.mk s 0).look (fadd p s.fp xa)).lookV (fadd p s.fp xb))) (fadd_bd hlo s.fp xc) (Nat.le_trans K3.out.acc (by omega)) (by have := K3.out.mem; have := HM.out; omega)).mono ?_
        rintro e v8 ⟨rfl, cv8, h8, k8⟩
        replace A := Lib.hid (A.out.dk k8); replace KK := Lib.hid (KK.out.next k8); have HH := Lib.hid h8
        clear H h8 k8
        have H := HH; clear HH
        have n0 : v8.cell? ⟨nb, 0, none⟩ = some (.int .i64 (fadd p s.pc 1)) := A.out.nxt.cell 0
        have n1 : v8.cell? ⟨nb, 1, none⟩ = some (.int .i64 s.fp) := A.out.nxt.cell 1
        have n2 : v8.cell? ⟨nb, 2, none⟩ = some (.int .i64 s.ap) := A.out.nxt.cell 2
        have n3 : v8.cell? ⟨nb, 3, none⟩ = some (.int .i64 s.rv) := A.out.nxt.cell 3
        have n4 : v8.cell? ⟨nb, 4, none⟩ = some (.int .i64 0) := A.out.nxt.cell 4
        have n5 : v8.cell? ⟨nb, 5, none⟩ = some (.int .i64 0) := A.out.nxt.cell 5
        have n6 : v8.cell? ⟨nb, 6, none⟩ = some (.int .i64 0) := A.out.nxt.cell 6
        have n7 : v8.cell? ⟨nb, 7, none⟩ = some (.int .i64 0) := A.out.nxt.cell 7
        have n8 : v8.cell? ⟨nb, 8, none⟩ = some (.int .i64 0) := A.out.nxt.cell 8
        have n9 : v8.cell? ⟨nb, 9, none⟩ = some (.int .i64 0) := A.out.nxt.cell 9
        have r0 : v8.cell? ⟨rb, 0, none⟩ = some (.int .i64 0) := A.out.res.cell 0
        have r1 : v8.cell? ⟨rb, 1, none⟩ = some (.int .i64 0) := A.out.res.cell 1
        have r2 : v8.cell? ⟨rb, 2, none⟩ = some (.int .i64 0) := A.out.res.cell 2
        have r3 : v8.cell? ⟨rb, 3, none⟩ = some (.int .i64 0) := A.out.res.cell 3
        have r4 : v8.cell? ⟨rb, 4, none⟩ = some (.int .i64 0) := A.out.res.cell 4
        have r5 : v8.cell? ⟨rb, 5, none⟩ = some (.int .i64 0) := A.out.res.cell 5
        have r6 : v8.cell? ⟨rb, 6, none⟩ = some (.int .i64 0) := A.out.res.cell 6
        have r7 : v8.cell? ⟨rb, 7, none⟩ = some (.int .i64 0) := A.out.res.cell 7
        have r8 : v8.cell? ⟨rb, 8, none⟩ = some (.int .i64 0) := A.out.res.cell 8
        have r9 : v8.cell? ⟨rb, 9, none⟩ = some (.int .i64 0) := A.out.res.cell 9
        have gr0 := A.out.res.free 0
        have gr1 := A.out.res.free 1
        have gr2 := A.out.res.free 2
        have gr3 := A.out.res.free 3
        have gr4 := A.out.res.free 4
        have gr5 := A.out.res.free 5
        have gr6 := A.out.res.free 6
        have gr7 := A.out.res.free 7
        have gr8 := A.out.res.free 8
        have gr9 := A.out.res.free 9
        have HE2 := A.out.e2
        go_wp2_with fail
        have hgr := grown_one (grown_one (grown_one (grown_one (grown_one (grown_one (grown_one (grown_one (grown_one (setCell_grown v8 rb 0 (.int .i64 (fadd p s.pc 1))) (setCell_grown _ rb 1 (.int .i64 s.fp))) (setCell_grown _ rb 2 (.int .i64 s.ap))) (setCell_grown _ rb 3 (.int .i64 s.rv))) (setCell_grown _ rb 4 (.int .i64 0))) (setCell_grown _ rb 5 (.int .i64 0))) (setCell_grown _ rb 6 (.int .i64 0))) (setCell_grown _ rb 7 (.int .i64 0))) (setCell_grown _ rb 8 (.int .i64 0))) (setCell_grown _ rb 9 (.int .i64 0))
        have hbl := ((((((((((A.out.res).set 0 (.int .i64 (fadd p s.pc 1))).set 1 (.int .i64 s.fp)).set 2 (.int .i64 s.ap)).set 3 (.int .i64 s.rv)).set 4 (.int .i64 0)).set 5 (.int .i64 0)).set 6 (.int .i64 0)).set 7 (.int .i64 0)).set 8 (.int .i64 0)).set 9 (.int .i64 0)
        obtain ⟨m1, m2⟩ := do_fin H.out A.out.r1 A.out.r2 HZ1.out hgr
        have M1 := Lib.hid m1; have MK := Lib.hid (KK.out.dk.lowg KK.out.hr hgr); clear m1 m2 hgr H A HE2 KK
        clear n0 n1 n2 n3 n4 n5 n6 n7 n8 n9 r0 r1 r2 r3 r4 r5 r6 r7 r8 r9 gr0 gr1 gr2 gr3 gr4 gr5 gr6 gr7 gr8 gr9
        refine bodyPost_ret (v := .agg #[.int .i64 (fadd p s.pc 1), .int .i64 s.fp, .int .i64 s.ap, .int .i64 s.rv, .int .i64 0, .int .i64 0, .int .i64 0, .int .i64 0, .int .i64 0, .int .i64 0]) (res_do hbl _ rfl) rfl ?_
        exact ⟨(((((Ds.mk s 0).look (fadd p s.fp xa)).look (fadd p s.fp xb)).reck 2 (((Ds.mk s 0).look (fadd p s.fp xa)).lookV (fadd p s.fp xb))).tell p (fadd p s.fp xc) (reck p 2 ((Ds.mk s 0).lookV (fadd p s.fp xa)) (((Ds.mk s 0).look (fadd p s.fp xa)).lookV (fadd p s.fp xb)))), cv8, (fadd p s.pc 1), s.fp, s.ap, s.rv, rfl, M1.out, MK.out, K4.out.acc, Nat.le_trans K4.out.mem (by omega), fun h => absurd (show (2 : Int) = 0 from h) (by decide), fun _ => same_comp hlo HO.out ⟨2, xa, xb, xc⟩ rfl⟩
      · have k1 := HD.out.look (fadd p s.fp xa)
        have k2 := k1.look (fadd p s.fp xb)
        have k3 := k2.reck 3 (((Ds.mk s 0).look (fadd p s.fp xa)).lookV (fadd p s.fp xb))
        have k4 := k3.tell (fadd p s.fp xc) (reck p 3 ((Ds.mk s 0).lookV (fadd p s.fp xa)) (((Ds.mk s 0).look (fadd p s.fp xa)).lookV (fadd p s.fp xb)))
        have K1 := Lib.hid k1; have K2 := Lib.hid k2; have K3 := Lib.hid k3; have K4 := Lib.hid k4; clear k1 k2 k3 k4
        go_wp2_with fail
        refine (dlook_all (d := (Ds.mk s 0)) H.out _ (Nat.le_trans HD.out.acc (by omega))).mono ?_
        rintro e v5 ⟨rfl, cv5, h5, k5⟩
        replace A := Lib.hid (A.out.dk k5); replace KK := Lib.hid (KK.out.next k5); have HH := Lib.hid h5
        clear z0
        clear H h5 k5
        have H := HH; clear HH
        go_wp2_with fail
        refine (dlook_all (d := ((Ds.mk s 0).look (fadd p s.fp xa))) H.out _ (Nat.le_trans K1.out.acc (by omega))).mono ?_
        rintro e v6 ⟨rfl, cv6, h6, k6⟩
        replace A := Lib.hid (A.out.dk k6); replace KK := Lib.hid (KK.out.next k6); have HH := Lib.hid h6
        clear H h6 k6
        have H := HH; clear HH
        have z0 : v6.cell? ⟨zb, 0, none⟩ = some (.int .i64 3) := A.out.ins.cell 0
        go_wp2_with fail
        refine (dreck_all (d := (((Ds.mk s 0).look (fadd p s.fp xa)).look (fadd p s.fp xb))) H.out 3 ((Ds.mk s 0).lookV (fadd p s.fp xa)) (((Ds.mk s 0).look (fadd p s.fp xa)).lookV (fadd p s.fp xb)) (by decide)).mono ?_
        rintro e v7 ⟨rfl, cv7, h7, k7⟩
        replace A := Lib.hid (A.out.dk k7); replace KK := Lib.hid (KK.out.next k7); have HH := Lib.hid h7
        clear z0
        clear H h7 k7
        have H := HH; clear HH
        go_wp2_with fail
        refine (dtell_all (d := ((((Ds.mk s 0).look (fadd p s.fp xa)).look (fadd p s.fp xb)).reck 3 (((Ds.mk s 0).look (fadd p s.fp xa)).lookV (fadd p s.fp xb)))) H.out (reck p 3 ((Ds.mk s 0).lookV (fadd p s.fp xa)) (((Ds.mk s 0).look (fadd p s.fp xa)).lookV (fadd p s.fp xb))) (fadd_bd hlo s.fp xc) (Nat.le_trans K3.out.acc (by omega)) (by have := K3.out.mem; have := HM.out; omega)).mono ?_
        rintro e v8 ⟨rfl, cv8, h8, k8⟩
        replace A := Lib.hid (A.out.dk k8); replace KK := Lib.hid (KK.out.next k8); have HH := Lib.hid h8
        clear H h8 k8
        have H := HH; clear HH
        have n0 : v8.cell? ⟨nb, 0, none⟩ = some (.int .i64 (fadd p s.pc 1)) := A.out.nxt.cell 0
        have n1 : v8.cell? ⟨nb, 1, none⟩ = some (.int .i64 s.fp) := A.out.nxt.cell 1
        have n2 : v8.cell? ⟨nb, 2, none⟩ = some (.int .i64 s.ap) := A.out.nxt.cell 2
        have n3 : v8.cell? ⟨nb, 3, none⟩ = some (.int .i64 s.rv) := A.out.nxt.cell 3
        have n4 : v8.cell? ⟨nb, 4, none⟩ = some (.int .i64 0) := A.out.nxt.cell 4
        have n5 : v8.cell? ⟨nb, 5, none⟩ = some (.int .i64 0) := A.out.nxt.cell 5
        have n6 : v8.cell? ⟨nb, 6, none⟩ = some (.int .i64 0) := A.out.nxt.cell 6
        have n7 : v8.cell? ⟨nb, 7, none⟩ = some (.int .i64 0) := A.out.nxt.cell 7
        have n8 : v8.cell? ⟨nb, 8, none⟩ = some (.int .i64 0) := A.out.nxt.cell 8
        have n9 : v8.cell? ⟨nb, 9, none⟩ = some (.int .i64 0) := A.out.nxt.cell 9
        have r0 : v8.cell? ⟨rb, 0, none⟩ = some (.int .i64 0) := A.out.res.cell 0
        have r1 : v8.cell? ⟨rb, 1, none⟩ = some (.int .i64 0) := A.out.res.cell 1
        have r2 : v8.cell? ⟨rb, 2, none⟩ = some (.int .i64 0) := A.out.res.cell 2
        have r3 : v8.cell? ⟨rb, 3, none⟩ = some (.int .i64 0) := A.out.res.cell 3
        have r4 : v8.cell? ⟨rb, 4, none⟩ = some (.int .i64 0) := A.out.res.cell 4
        have r5 : v8.cell? ⟨rb, 5, none⟩ = some (.int .i64 0) := A.out.res.cell 5
        have r6 : v8.cell? ⟨rb, 6, none⟩ = some (.int .i64 0) := A.out.res.cell 6
        have r7 : v8.cell? ⟨rb, 7, none⟩ = some (.int .i64 0) := A.out.res.cell 7
        have r8 : v8.cell? ⟨rb, 8, none⟩ = some (.int .i64 0) := A.out.res.cell 8
        have r9 : v8.cell? ⟨rb, 9, none⟩ = some (.int .i64 0) := A.out.res.cell 9
        have gr0 := A.out.res.free 0
        have gr1 := A.out.res.free 1
        have gr2 := A.out.res.free 2
        have gr3 := A.out.res.free 3
        have gr4 := A.out.res.free 4
        have gr5 := A.out.res.free 5
        have gr6 := A.out.res.free 6
        have gr7 := A.out.res.free 7
        have gr8 := A.out.res.free 8
        have gr9 := A.out.res.free 9
        have HE2 := A.out.e2
        go_wp2_with fail
        have hgr := grown_one (grown_one (grown_one (grown_one (grown_one (grown_one (grown_one (grown_one (grown_one (setCell_grown v8 rb 0 (.int .i64 (fadd p s.pc 1))) (setCell_grown _ rb 1 (.int .i64 s.fp))) (setCell_grown _ rb 2 (.int .i64 s.ap))) (setCell_grown _ rb 3 (.int .i64 s.rv))) (setCell_grown _ rb 4 (.int .i64 0))) (setCell_grown _ rb 5 (.int .i64 0))) (setCell_grown _ rb 6 (.int .i64 0))) (setCell_grown _ rb 7 (.int .i64 0))) (setCell_grown _ rb 8 (.int .i64 0))) (setCell_grown _ rb 9 (.int .i64 0))
        have hbl := ((((((((((A.out.res).set 0 (.int .i64 (fadd p s.pc 1))).set 1 (.int .i64 s.fp)).set 2 (.int .i64 s.ap)).set 3 (.int .i64 s.rv)).set 4 (.int .i64 0)).set 5 (.int .i64 0)).set 6 (.int .i64 0)).set 7 (.int .i64 0)).set 8 (.int .i64 0)).set 9 (.int .i64 0)
        obtain ⟨m1, m2⟩ := do_fin H.out A.out.r1 A.out.r2 HZ1.out hgr
        have M1 := Lib.hid m1; have MK := Lib.hid (KK.out.dk.lowg KK.out.hr hgr); clear m1 m2 hgr H A HE2 KK
        clear n0 n1 n2 n3 n4 n5 n6 n7 n8 n9 r0 r1 r2 r3 r4 r5 r6 r7 r8 r9 gr0 gr1 gr2 gr3 gr4 gr5 gr6 gr7 gr8 gr9
        refine bodyPost_ret (v := .agg #[.int .i64 (fadd p s.pc 1), .int .i64 s.fp, .int .i64 s.ap, .int .i64 s.rv, .int .i64 0, .int .i64 0, .int .i64 0, .int .i64 0, .int .i64 0, .int .i64 0]) (res_do hbl _ rfl) rfl ?_
        exact ⟨(((((Ds.mk s 0).look (fadd p s.fp xa)).look (fadd p s.fp xb)).reck 3 (((Ds.mk s 0).look (fadd p s.fp xa)).lookV (fadd p s.fp xb))).tell p (fadd p s.fp xc) (reck p 3 ((Ds.mk s 0).lookV (fadd p s.fp xa)) (((Ds.mk s 0).look (fadd p s.fp xa)).lookV (fadd p s.fp xb)))), cv8, (fadd p s.pc 1), s.fp, s.ap, s.rv, rfl, M1.out, MK.out, K4.out.acc, Nat.le_trans K4.out.mem (by omega), fun h => absurd (show (3 : Int) = 0 from h) (by decide), fun _ => same_comp hlo HO.out ⟨3, xa, xb, xc⟩ rfl⟩
      · have k1 := HD.out.look (fadd p s.fp xa)
        have k2 := k1.look (fadd p s.fp xb)
        have k3 := k2.reck 4 (((Ds.mk s 0).look (fadd p s.fp xa)).lookV (fadd p s.fp xb))
        have k4 := k3.tell (fadd p s.fp xc) (reck p 4 ((Ds.mk s 0).lookV (fadd p s.fp xa)) (((Ds.mk s 0).look (fadd p s.fp xa)).lookV (fadd p s.fp xb)))
        have K1 := Lib.hid k1; have K2 := Lib.hid k2; have K3 := Lib.hid k3; have K4 := Lib.hid k4; clear k1 k2 k3 k4
        go_wp2_with fail
        refine (dlook_all (d := (Ds.mk s 0)) H.out _ (Nat.le_trans HD.out.acc (by omega))).mono ?_
        rintro e v5 ⟨rfl, cv5, h5, k5⟩
        replace A := Lib.hid (A.out.dk k5); replace KK := Lib.hid (KK.out.next k5); have HH := Lib.hid h5
        clear z0
        clear H h5 k5
        have H := HH; clear HH
        go_wp2_with fail
        refine (dlook_all (d := ((Ds.mk s 0).look (fadd p s.fp xa))) H.out _ (Nat.le_trans K1.out.acc (by omega))).mono ?_
        rintro e v6 ⟨rfl, cv6, h6, k6⟩
        replace A := Lib.hid (A.out.dk k6); replace KK := Lib.hid (KK.out.next k6); have HH := Lib.hid h6
        clear H h6 k6
        have H := HH; clear HH
        have z0 : v6.cell? ⟨zb, 0, none⟩ = some (.int .i64 4) := A.out.ins.cell 0
        go_wp2_with fail
        refine (dreck_all (d := (((Ds.mk s 0).look (fadd p s.fp xa)).look (fadd p s.fp xb))) H.out 4 ((Ds.mk s 0).lookV (fadd p s.fp xa)) (((Ds.mk s 0).look (fadd p s.fp xa)).lookV (fadd p s.fp xb)) (by decide)).mono ?_
        rintro e v7 ⟨rfl, cv7, h7, k7⟩
        replace A := Lib.hid (A.out.dk k7); replace KK := Lib.hid (KK.out.next k7); have HH := Lib.hid h7
        clear z0
        clear H h7 k7
        have H := HH; clear HH
        go_wp2_with fail
        refine (dtell_all (d := ((((Ds.mk s 0).look (fadd p s.fp xa)).look (fadd p s.fp xb)).reck 4 (((Ds.mk s 0).look (fadd p s.fp xa)).lookV (fadd p s.fp xb)))) H.out (reck p 4 ((Ds.mk s 0).lookV (fadd p s.fp xa)) (((Ds.mk s 0).look (fadd p s.fp xa)).lookV (fadd p s.fp xb))) (fadd_bd hlo s.fp xc) (Nat.le_trans K3.out.acc (by omega)) (by have := K3.out.mem; have := HM.out; omega)).mono ?_
        rintro e v8 ⟨rfl, cv8, h8, k8⟩
        replace A := Lib.hid (A.out.dk k8); replace KK := Lib.hid (KK.out.next k8); have HH := Lib.hid h8
        clear H h8 k8
        have H := HH; clear HH
        have n0 : v8.cell? ⟨nb, 0, none⟩ = some (.int .i64 (fadd p s.pc 1)) := A.out.nxt.cell 0
        have n1 : v8.cell? ⟨nb, 1, none⟩ = some (.int .i64 s.fp) := A.out.nxt.cell 1
        have n2 : v8.cell? ⟨nb, 2, none⟩ = some (.int .i64 s.ap) := A.out.nxt.cell 2
        have n3 : v8.cell? ⟨nb, 3, none⟩ = some (.int .i64 s.rv) := A.out.nxt.cell 3
        have n4 : v8.cell? ⟨nb, 4, none⟩ = some (.int .i64 0) := A.out.nxt.cell 4
        have n5 : v8.cell? ⟨nb, 5, none⟩ = some (.int .i64 0) := A.out.nxt.cell 5
        have n6 : v8.cell? ⟨nb, 6, none⟩ = some (.int .i64 0) := A.out.nxt.cell 6
        have n7 : v8.cell? ⟨nb, 7, none⟩ = some (.int .i64 0) := A.out.nxt.cell 7
        have n8 : v8.cell? ⟨nb, 8, none⟩ = some (.int .i64 0) := A.out.nxt.cell 8
        have n9 : v8.cell? ⟨nb, 9, none⟩ = some (.int .i64 0) := A.out.nxt.cell 9
        have r0 : v8.cell? ⟨rb, 0, none⟩ = some (.int .i64 0) := A.out.res.cell 0
        have r1 : v8.cell? ⟨rb, 1, none⟩ = some (.int .i64 0) := A.out.res.cell 1
        have r2 : v8.cell? ⟨rb, 2, none⟩ = some (.int .i64 0) := A.out.res.cell 2
        have r3 : v8.cell? ⟨rb, 3, none⟩ = some (.int .i64 0) := A.out.res.cell 3
        have r4 : v8.cell? ⟨rb, 4, none⟩ = some (.int .i64 0) := A.out.res.cell 4
        have r5 : v8.cell? ⟨rb, 5, none⟩ = some (.int .i64 0) := A.out.res.cell 5
        have r6 : v8.cell? ⟨rb, 6, none⟩ = some (.int .i64 0) := A.out.res.cell 6
        have r7 : v8.cell? ⟨rb, 7, none⟩ = some (.int .i64 0) := A.out.res.cell 7
        have r8 : v8.cell? ⟨rb, 8, none⟩ = some (.int .i64 0) := A.out.res.cell 8
        have r9 : v8.cell? ⟨rb, 9, none⟩ = some (.int .i64 0) := A.out.res.cell 9
        have gr0 := A.out.res.free 0
        have gr1 := A.out.res.free 1
        have gr2 := A.out.res.free 2
        have gr3 := A.out.res.free 3
        have gr4 := A.out.res.free 4
        have gr5 := A.out.res.free 5
        have gr6 := A.out.res.free 6
        have gr7 := A.out.res.free 7
        have gr8 := A.out.res.free 8
        have gr9 := A.out.res.free 9
        have HE2 := A.out.e2
        go_wp2_with fail
        have hgr := grown_one (grown_one (grown_one (grown_one (grown_one (grown_one (grown_one (grown_one (grown_one (setCell_grown v8 rb 0 (.int .i64 (fadd p s.pc 1))) (setCell_grown _ rb 1 (.int .i64 s.fp))) (setCell_grown _ rb 2 (.int .i64 s.ap))) (setCell_grown _ rb 3 (.int .i64 s.rv))) (setCell_grown _ rb 4 (.int .i64 0))) (setCell_grown _ rb 5 (.int .i64 0))) (setCell_grown _ rb 6 (.int .i64 0))) (setCell_grown _ rb 7 (.int .i64 0))) (setCell_grown _ rb 8 (.int .i64 0))) (setCell_grown _ rb 9 (.int .i64 0))
        have hbl := ((((((((((A.out.res).set 0 (.int .i64 (fadd p s.pc 1))).set 1 (.int .i64 s.fp)).set 2 (.int .i64 s.ap)).set 3 (.int .i64 s.rv)).set 4 (.int .i64 0)).set 5 (.int .i64 0)).set 6 (.int .i64 0)).set 7 (.int .i64 0)).set 8 (.int .i64 0)).set 9 (.int .i64 0)
        obtain ⟨m1, m2⟩ := do_fin H.out A.out.r1 A.out.r2 HZ1.out hgr
        have M1 := Lib.hid m1; have MK := Lib.hid (KK.out.dk.lowg KK.out.hr hgr); clear m1 m2 hgr H A HE2 KK
        clear n0 n1 n2 n3 n4 n5 n6 n7 n8 n9 r0 r1 r2 r3 r4 r5 r6 r7 r8 r9 gr0 gr1 gr2 gr3 gr4 gr5 gr6 gr7 gr8 gr9
        refine bodyPost_ret (v := .agg #[.int .i64 (fadd p s.pc 1), .int .i64 s.fp, .int .i64 s.ap, .int .i64 s.rv, .int .i64 0, .int .i64 0, .int .i64 0, .int .i64 0, .int .i64 0, .int .i64 0]) (res_do hbl _ rfl) rfl ?_
        exact ⟨(((((Ds.mk s 0).look (fadd p s.fp xa)).look (fadd p s.fp xb)).reck 4 (((Ds.mk s 0).look (fadd p s.fp xa)).lookV (fadd p s.fp xb))).tell p (fadd p s.fp xc) (reck p 4 ((Ds.mk s 0).lookV (fadd p s.fp xa)) (((Ds.mk s 0).look (fadd p s.fp xa)).lookV (fadd p s.fp xb)))), cv8, (fadd p s.pc 1), s.fp, s.ap, s.rv, rfl, M1.out, MK.out, K4.out.acc, Nat.le_trans K4.out.mem (by omega), fun h => absurd (show (4 : Int) = 0 from h) (by decide), fun _ => same_comp hlo HO.out ⟨4, xa, xb, xc⟩ rfl⟩
      · have k1 := HD.out.look (fadd p s.fp xa)
        have k2 := k1.look (fadd p s.fp xb)
        have k3 := k2.reck 6 (((Ds.mk s 0).look (fadd p s.fp xa)).lookV (fadd p s.fp xb))
        have k4 := k3.tell (fadd p s.fp xc) (reck p 6 ((Ds.mk s 0).lookV (fadd p s.fp xa)) (((Ds.mk s 0).look (fadd p s.fp xa)).lookV (fadd p s.fp xb)))
        have K1 := Lib.hid k1; have K2 := Lib.hid k2; have K3 := Lib.hid k3; have K4 := Lib.hid k4; clear k1 k2 k3 k4
        go_wp2_with fail
        refine (dlook_all (d := (Ds.mk s 0)) H.out _ (Nat.le_trans HD.out.acc (by omega))).mono ?_
        rintro e v5 ⟨rfl, cv5, h5, k5⟩
        replace A := Lib.hid (A.out.dk k5); replace KK := Lib.hid (KK.out.next k5); have HH := Lib.hid h5
        clear z0
        clear H h5 k5
        have H := HH; clear HH
        go_wp2_with fail
        refine (dlook_all (d := ((Ds.mk s 0).look (fadd p s.fp xa))) H.out _ (Nat.le_trans K1.out.acc (by omega))).mono ?_
        rintro e v6 ⟨rfl, cv6, h6, k6⟩
        replace A := Lib.hid (A.out.dk k6); replace KK := Lib.hid (KK.out.next k6); have HH := Lib.hid h6
        clear H h6 k6
        have H := HH; clear HH
        have z0 : v6.cell? ⟨zb, 0, none⟩ = some (.int .i64 6) := A.out.ins.cell 0
        go_wp2_with fail
        refine (dreck_all (d := (((Ds.mk s 0).look (fadd p s.fp xa)).look (fadd p s.fp xb))) H.out 6 ((Ds.mk s 0).lookV (fadd p s.fp xa)) (((Ds.mk s 0).look (fadd p s.fp xa)).lookV (fadd p s.fp xb)) (by decide)).mono ?_
        rintro e v7 ⟨rfl, cv7, h7, k7⟩
        replace A := Lib.hid (A.out.dk k7); replace KK := Lib.hid (KK.out.next k7); have HH := Lib.hid h7
        clear z0
        clear H h7 k7
        have H := HH; clear HH
        go_wp2_with fail
        refine (dtell_all (d := ((((Ds.mk s 0).look (fadd p s.fp xa)).look (fadd p s.fp xb)).reck 6 (((Ds.mk s 0).look (fadd p s.fp xa)).lookV (fadd p s.fp xb)))) H.out (reck p 6 ((Ds.mk s 0).lookV (fadd p s.fp xa)) (((Ds.mk s 0).look (fadd p s.fp xa)).lookV (fadd p s.fp xb))) (fadd_bd hlo s.fp xc) (Nat.le_trans K3.out.acc (by omega)) (by have := K3.out.mem; have := HM.out; omega)).mono ?_
        rintro e v8 ⟨rfl, cv8, h8, k8⟩
        replace A := Lib.hid (A.out.dk k8); replace KK := Lib.hid (KK.out.next k8); have HH := Lib.hid h8
        clear H h8 k8
        have H := HH; clear HH
        have n0 : v8.cell? ⟨nb, 0, none⟩ = some (.int .i64 (fadd p s.pc 1)) := A.out.nxt.cell 0
        have n1 : v8.cell? ⟨nb, 1, none⟩ = some (.int .i64 s.fp) := A.out.nxt.cell 1
        have n2 : v8.cell? ⟨nb, 2, none⟩ = some (.int .i64 s.ap) := A.out.nxt.cell 2
        have n3 : v8.cell? ⟨nb, 3, none⟩ = some (.int .i64 s.rv) := A.out.nxt.cell 3
        have n4 : v8.cell? ⟨nb, 4, none⟩ = some (.int .i64 0) := A.out.nxt.cell 4
        have n5 : v8.cell? ⟨nb, 5, none⟩ = some (.int .i64 0) := A.out.nxt.cell 5
        have n6 : v8.cell? ⟨nb, 6, none⟩ = some (.int .i64 0) := A.out.nxt.cell 6
        have n7 : v8.cell? ⟨nb, 7, none⟩ = some (.int .i64 0) := A.out.nxt.cell 7
        have n8 : v8.cell? ⟨nb, 8, none⟩ = some (.int .i64 0) := A.out.nxt.cell 8
        have n9 : v8.cell? ⟨nb, 9, none⟩ = some (.int .i64 0) := A.out.nxt.cell 9
        have r0 : v8.cell? ⟨rb, 0, none⟩ = some (.int .i64 0) := A.out.res.cell 0
        have r1 : v8.cell? ⟨rb, 1, none⟩ = some (.int .i64 0) := A.out.res.cell 1
        have r2 : v8.cell? ⟨rb, 2, none⟩ = some (.int .i64 0) := A.out.res.cell 2
        have r3 : v8.cell? ⟨rb, 3, none⟩ = some (.int .i64 0) := A.out.res.cell 3
        have r4 : v8.cell? ⟨rb, 4, none⟩ = some (.int .i64 0) := A.out.res.cell 4
        have r5 : v8.cell? ⟨rb, 5, none⟩ = some (.int .i64 0) := A.out.res.cell 5
        have r6 : v8.cell? ⟨rb, 6, none⟩ = some (.int .i64 0) := A.out.res.cell 6
        have r7 : v8.cell? ⟨rb, 7, none⟩ = some (.int .i64 0) := A.out.res.cell 7
        have r8 : v8.cell? ⟨rb, 8, none⟩ = some (.int .i64 0) := A.out.res.cell 8
        have r9 : v8.cell? ⟨rb, 9, none⟩ = some (.int .i64 0) := A.out.res.cell 9
        have gr0 := A.out.res.free 0
        have gr1 := A.out.res.free 1
        have gr2 := A.out.res.free 2
        have gr3 := A.out.res.free 3
        have gr4 := A.out.res.free 4
        have gr5 := A.out.res.free 5
        have gr6 := A.out.res.free 6
        have gr7 := A.out.res.free 7
        have gr8 := A.out.res.free 8
        have gr9 := A.out.res.free 9
        have HE2 := A.out.e2
        go_wp2_with fail
        have hgr := grown_one (grown_one (grown_one (grown_one (grown_one (grown_one (grown_one (grown_one (grown_one (setCell_grown v8 rb 0 (.int .i64 (fadd p s.pc 1))) (setCell_grown _ rb 1 (.int .i64 s.fp))) (setCell_grown _ rb 2 (.int .i64 s.ap))) (setCell_grown _ rb 3 (.int .i64 s.rv))) (setCell_grown _ rb 4 (.int .i64 0))) (setCell_grown _ rb 5 (.int .i64 0))) (setCell_grown _ rb 6 (.int .i64 0))) (setCell_grown _ rb 7 (.int .i64 0))) (setCell_grown _ rb 8 (.int .i64 0))) (setCell_grown _ rb 9 (.int .i64 0))
        have hbl := ((((((((((A.out.res).set 0 (.int .i64 (fadd p s.pc 1))).set 1 (.int .i64 s.fp)).set 2 (.int .i64 s.ap)).set 3 (.int .i64 s.rv)).set 4 (.int .i64 0)).set 5 (.int .i64 0)).set 6 (.int .i64 0)).set 7 (.int .i64 0)).set 8 (.int .i64 0)).set 9 (.int .i64 0)
        obtain ⟨m1, m2⟩ := do_fin H.out A.out.r1 A.out.r2 HZ1.out hgr
        have M1 := Lib.hid m1; have MK := Lib.hid (KK.out.dk.lowg KK.out.hr hgr); clear m1 m2 hgr H A HE2 KK
        clear n0 n1 n2 n3 n4 n5 n6 n7 n8 n9 r0 r1 r2 r3 r4 r5 r6 r7 r8 r9 gr0 gr1 gr2 gr3 gr4 gr5 gr6 gr7 gr8 gr9
        refine bodyPost_ret (v := .agg #[.int .i64 (fadd p s.pc 1), .int .i64 s.fp, .int .i64 s.ap, .int .i64 s.rv, .int .i64 0, .int .i64 0, .int .i64 0, .int .i64 0, .int .i64 0, .int .i64 0]) (res_do hbl _ rfl) rfl ?_
        exact ⟨(((((Ds.mk s 0).look (fadd p s.fp xa)).look (fadd p s.fp xb)).reck 6 (((Ds.mk s 0).look (fadd p s.fp xa)).lookV (fadd p s.fp xb))).tell p (fadd p s.fp xc) (reck p 6 ((Ds.mk s 0).lookV (fadd p s.fp xa)) (((Ds.mk s 0).look (fadd p s.fp xa)).lookV (fadd p s.fp xb)))), cv8, (fadd p s.pc 1), s.fp, s.ap, s.rv, rfl, M1.out, MK.out, K4.out.acc, Nat.le_trans K4.out.mem (by omega), fun h => absurd (show (6 : Int) = 0 from h) (by decide), fun _ => same_comp hlo HO.out ⟨6, xa, xb, xc⟩ rfl⟩
    · have k1 := HD.out.tell (fadd p s.fp xa) xb
      have K1 := Lib.hid k1; clear k1
      have z2 : v4.cell? ⟨zb, 2, none⟩ = some (.int .i64 xb) := A.out.ins.cell 2
      go_wp2_with fail
      refine (dtell_all (d := (Ds.mk s 0)) H.out xb (fadd_bd hlo s.fp xa) (Nat.le_trans HD.out.acc (by omega)) (by have := HM.out; show s.mem.length + 1 ≤ 100000; omega)).mono ?_
      rintro e v5 ⟨rfl, cv5, h5, k5⟩
      replace A := Lib.hid (A.out.dk k5); replace KK := Lib.hid (KK.out.next k5); have HH := Lib.hid h5
      clear z0 z2
      clear H h5 k5
      have H := HH; clear HH
      have n0 : v5.cell? ⟨nb, 0, none⟩ = some (.int .i64 (fadd p s.pc 1)) := A.out.nxt.cell 0
      have n1 : v5.cell? ⟨nb, 1, none⟩ = some (.int .i64 s.fp) := A.out.nxt.cell 1
      have n2 : v5.cell? ⟨nb, 2, none⟩ = some (.int .i64 s.ap) := A.out.nxt.cell 2
      have n3 : v5.cell? ⟨nb, 3, none⟩ = some (.int .i64 s.rv) := A.out.nxt.cell 3
      have n4 : v5.cell? ⟨nb, 4, none⟩ = some (.int .i64 0) := A.out.nxt.cell 4
      have n5 : v5.cell? ⟨nb, 5, none⟩ = some (.int .i64 0) := A.out.nxt.cell 5
      have n6 : v5.cell? ⟨nb, 6, none⟩ = some (.int .i64 0) := A.out.nxt.cell 6
      have n7 : v5.cell? ⟨nb, 7, none⟩ = some (.int .i64 0) := A.out.nxt.cell 7
      have n8 : v5.cell? ⟨nb, 8, none⟩ = some (.int .i64 0) := A.out.nxt.cell 8
      have n9 : v5.cell? ⟨nb, 9, none⟩ = some (.int .i64 0) := A.out.nxt.cell 9
      have r0 : v5.cell? ⟨rb, 0, none⟩ = some (.int .i64 0) := A.out.res.cell 0
      have r1 : v5.cell? ⟨rb, 1, none⟩ = some (.int .i64 0) := A.out.res.cell 1
      have r2 : v5.cell? ⟨rb, 2, none⟩ = some (.int .i64 0) := A.out.res.cell 2
      have r3 : v5.cell? ⟨rb, 3, none⟩ = some (.int .i64 0) := A.out.res.cell 3
      have r4 : v5.cell? ⟨rb, 4, none⟩ = some (.int .i64 0) := A.out.res.cell 4
      have r5 : v5.cell? ⟨rb, 5, none⟩ = some (.int .i64 0) := A.out.res.cell 5
      have r6 : v5.cell? ⟨rb, 6, none⟩ = some (.int .i64 0) := A.out.res.cell 6
      have r7 : v5.cell? ⟨rb, 7, none⟩ = some (.int .i64 0) := A.out.res.cell 7
      have r8 : v5.cell? ⟨rb, 8, none⟩ = some (.int .i64 0) := A.out.res.cell 8
      have r9 : v5.cell? ⟨rb, 9, none⟩ = some (.int .i64 0) := A.out.res.cell 9
      have gr0 := A.out.res.free 0
      have gr1 := A.out.res.free 1
      have gr2 := A.out.res.free 2
      have gr3 := A.out.res.free 3
      have gr4 := A.out.res.free 4
      have gr5 := A.out.res.free 5
      have gr6 := A.out.res.free 6
      have gr7 := A.out.res.free 7
      have gr8 := A.out.res.free 8
      have gr9 := A.out.res.free 9
      have HE2 := A.out.e2
      go_wp2_with fail
      have hgr := grown_one (grown_one (grown_one (grown_one (grown_one (grown_one (grown_one (grown_one (grown_one (setCell_grown v5 rb 0 (.int .i64 (fadd p s.pc 1))) (setCell_grown _ rb 1 (.int .i64 s.fp))) (setCell_grown _ rb 2 (.int .i64 s.ap))) (setCell_grown _ rb 3 (.int .i64 s.rv))) (setCell_grown _ rb 4 (.int .i64 0))) (setCell_grown _ rb 5 (.int .i64 0))) (setCell_grown _ rb 6 (.int .i64 0))) (setCell_grown _ rb 7 (.int .i64 0))) (setCell_grown _ rb 8 (.int .i64 0))) (setCell_grown _ rb 9 (.int .i64 0))
      have hbl := ((((((((((A.out.res).set 0 (.int .i64 (fadd p s.pc 1))).set 1 (.int .i64 s.fp)).set 2 (.int .i64 s.ap)).set 3 (.int .i64 s.rv)).set 4 (.int .i64 0)).set 5 (.int .i64 0)).set 6 (.int .i64 0)).set 7 (.int .i64 0)).set 8 (.int .i64 0)).set 9 (.int .i64 0)
      obtain ⟨m1, m2⟩ := do_fin H.out A.out.r1 A.out.r2 HZ1.out hgr
      have M1 := Lib.hid m1; have MK := Lib.hid (KK.out.dk.lowg KK.out.hr hgr); clear m1 m2 hgr H A HE2 KK
      clear n0 n1 n2 n3 n4 n5 n6 n7 n8 n9 r0 r1 r2 r3 r4 r5 r6 r7 r8 r9 gr0 gr1 gr2 gr3 gr4 gr5 gr6 gr7 gr8 gr9
      refine bodyPost_ret (v := .agg #[.int .i64 (fadd p s.pc 1), .int .i64 s.fp, .int .i64 s.ap, .int .i64 s.rv, .int .i64 0, .int .i64 0, .int .i64 0, .int .i64 0, .int .i64 0, .int .i64 0]) (res_do hbl _ rfl) rfl ?_
      exact ⟨((Ds.mk s 0).tell p (fadd p s.fp xa) xb), cv5, (fadd p s.pc 1), s.fp, s.ap, s.rv, rfl, M1.out, MK.out, Nat.le_trans K1.out.acc (by omega), Nat.le_trans K1.out.mem (by omega), fun h => absurd (show (5 : Int) = 0 from h) (by decide), fun _ => same_5 xa xb xc⟩
    · have k1 := HD.out.look (fadd p s.fp xa)
      have k2 := k1.look (fadd p s.fp xb)
      have k3 := k2.must (((Ds.mk s 0).lookV (fadd p s.fp xa)) == (((Ds.mk s 0).look (fadd p s.fp xa)).lookV (fadd p s.fp xb)))
      have K1 := Lib.hid k1; have K2 := Lib.hid k2; have K3 := Lib.hid k3; clear k1 k2 k3
      go_wp2_with fail
      refine (dlook_all (d := (Ds.mk s 0)) H.out _ (Nat.le_trans HD.out.acc (by omega))).mono ?_
      rintro e v5 ⟨rfl, cv5, h5, k5⟩
      replace A := Lib.hid (A.out.dk k5); replace KK := Lib.hid (KK.out.next k5); have HH := Lib.hid h5
      clear z0
      clear H h5 k5
      have H := HH; clear HH
      go_wp2_with fail
      refine (dlook_all (d := ((Ds.mk s 0).look (fadd p s.fp xa))) H.out _ (Nat.le_trans K1.out.acc (by omega))).mono ?_
      rintro e v6 ⟨rfl, cv6, h6, k6⟩
      replace A := Lib.hid (A.out.dk k6); replace KK := Lib.hid (KK.out.next k6); have HH := Lib.hid h6
      clear H h6 k6
      have H := HH; clear HH
      go_wp2_with fail
      refine (dmust_all (d := (((Ds.mk s 0).look (fadd p s.fp xa)).look (fadd p s.fp xb))) H.out (((Ds.mk s 0).lookV (fadd p s.fp xa)) == (((Ds.mk s 0).look (fadd p s.fp xa)).lookV (fadd p s.fp xb)))).mono ?_
      rintro e v7 ⟨rfl, cv7, h7, k7⟩
      replace A := Lib.hid (A.out.dk k7); replace KK := Lib.hid (KK.out.next k7); have HH := Lib.hid h7
      clear H h7 k7
      have H := HH; clear HH
      have n0 : v7.cell? ⟨nb, 0, none⟩ = some (.int .i64 (fadd p s.pc 1)) := A.out.nxt.cell 0
      have n1 : v7.cell? ⟨nb, 1, none⟩ = some (.int .i64 s.fp) := A.out.nxt.cell 1
      have n2 : v7.cell? ⟨nb, 2, none⟩ = some (.int .i64 s.ap) := A.out.nxt.cell 2
      have n3 : v7.cell? ⟨nb, 3, none⟩ = some (.int .i64 s.rv) := A.out.nxt.cell 3
      have n4 : v7.cell? ⟨nb, 4, none⟩ = some (.int .i64 0) := A.out.nxt.cell 4
      have n5 : v7.cell? ⟨nb, 5, none⟩ = some (.int .i64 0) := A.out.nxt.cell 5
      have n6 : v7.cell? ⟨nb, 6, none⟩ = some (.int .i64 0) := A.out.nxt.cell 6
      have n7 : v7.cell? ⟨nb, 7, none⟩ = some (.int .i64 0) := A.out.nxt.cell 7
      have n8 : v7.cell? ⟨nb, 8, none⟩ = some (.int .i64 0) := A.out.nxt.cell 8
      have n9 : v7.cell? ⟨nb, 9, none⟩ = some (.int .i64 0) := A.out.nxt.cell 9
      have r0 : v7.cell? ⟨rb, 0, none⟩ = some (.int .i64 0) := A.out.res.cell 0
      have r1 : v7.cell? ⟨rb, 1, none⟩ = some (.int .i64 0) := A.out.res.cell 1
      have r2 : v7.cell? ⟨rb, 2, none⟩ = some (.int .i64 0) := A.out.res.cell 2
      have r3 : v7.cell? ⟨rb, 3, none⟩ = some (.int .i64 0) := A.out.res.cell 3
      have r4 : v7.cell? ⟨rb, 4, none⟩ = some (.int .i64 0) := A.out.res.cell 4
      have r5 : v7.cell? ⟨rb, 5, none⟩ = some (.int .i64 0) := A.out.res.cell 5
      have r6 : v7.cell? ⟨rb, 6, none⟩ = some (.int .i64 0) := A.out.res.cell 6
      have r7 : v7.cell? ⟨rb, 7, none⟩ = some (.int .i64 0) := A.out.res.cell 7
      have r8 : v7.cell? ⟨rb, 8, none⟩ = some (.int .i64 0) := A.out.res.cell 8
      have r9 : v7.cell? ⟨rb, 9, none⟩ = some (.int .i64 0) := A.out.res.cell 9
      have gr0 := A.out.res.free 0
      have gr1 := A.out.res.free 1
      have gr2 := A.out.res.free 2
      have gr3 := A.out.res.free 3
      have gr4 := A.out.res.free 4
      have gr5 := A.out.res.free 5
      have gr6 := A.out.res.free 6
      have gr7 := A.out.res.free 7
      have gr8 := A.out.res.free 8
      have gr9 := A.out.res.free 9
      have HE2 := A.out.e2
      go_wp2_with fail
      have hgr := grown_one (grown_one (grown_one (grown_one (grown_one (grown_one (grown_one (grown_one (grown_one (setCell_grown v7 rb 0 (.int .i64 (fadd p s.pc 1))) (setCell_grown _ rb 1 (.int .i64 s.fp))) (setCell_grown _ rb 2 (.int .i64 s.ap))) (setCell_grown _ rb 3 (.int .i64 s.rv))) (setCell_grown _ rb 4 (.int .i64 0))) (setCell_grown _ rb 5 (.int .i64 0))) (setCell_grown _ rb 6 (.int .i64 0))) (setCell_grown _ rb 7 (.int .i64 0))) (setCell_grown _ rb 8 (.int .i64 0))) (setCell_grown _ rb 9 (.int .i64 0))
      have hbl := ((((((((((A.out.res).set 0 (.int .i64 (fadd p s.pc 1))).set 1 (.int .i64 s.fp)).set 2 (.int .i64 s.ap)).set 3 (.int .i64 s.rv)).set 4 (.int .i64 0)).set 5 (.int .i64 0)).set 6 (.int .i64 0)).set 7 (.int .i64 0)).set 8 (.int .i64 0)).set 9 (.int .i64 0)
      obtain ⟨m1, m2⟩ := do_fin H.out A.out.r1 A.out.r2 HZ1.out hgr
      have M1 := Lib.hid m1; have MK := Lib.hid (KK.out.dk.lowg KK.out.hr hgr); clear m1 m2 hgr H A HE2 KK
      clear n0 n1 n2 n3 n4 n5 n6 n7 n8 n9 r0 r1 r2 r3 r4 r5 r6 r7 r8 r9 gr0 gr1 gr2 gr3 gr4 gr5 gr6 gr7 gr8 gr9
      refine bodyPost_ret (v := .agg #[.int .i64 (fadd p s.pc 1), .int .i64 s.fp, .int .i64 s.ap, .int .i64 s.rv, .int .i64 0, .int .i64 0, .int .i64 0, .int .i64 0, .int .i64 0, .int .i64 0]) (res_do hbl _ rfl) rfl ?_
      exact ⟨((((Ds.mk s 0).look (fadd p s.fp xa)).look (fadd p s.fp xb)).must (((Ds.mk s 0).lookV (fadd p s.fp xa)) == (((Ds.mk s 0).look (fadd p s.fp xa)).lookV (fadd p s.fp xb)))), cv7, (fadd p s.pc 1), s.fp, s.ap, s.rv, rfl, M1.out, MK.out, Nat.le_trans K3.out.acc (by omega), Nat.le_trans K3.out.mem (by omega), fun h => absurd (show (7 : Int) = 0 from h) (by decide), fun _ => same_7 xa xb xc⟩
    · have c0 : v4.cell? ⟨b, 0, none⟩ = some (.int .i64 p) := H.out.blk.cell 0
      have z1 : v4.cell? ⟨zb, 1, none⟩ = some (.int .i64 xa) := A.out.ins.cell 1
      have n0 : v4.cell? ⟨nb, 0, none⟩ = some (.int .i64 (fadd p s.pc 1)) := A.out.nxt.cell 0
      have gn0 := A.out.nxt.free 0
      go_wp2_with fail
      go_region_held3 (fun w' => w'.cell? ⟨b, 0, none⟩ = some (.int .i64 p) ∧ w'.cell? ⟨zb, 1, none⟩ = some (.int .i64 xa)) (first | exact ⟨c0, z1⟩ | exact ⟨(World.cell?_setCell_other _ _ _ _ (by simp)).trans c0, (World.cell?_setCell_other _ _ _ _ (by simp)).trans z1⟩) (first | (go_at_call 27; refine (rof_any _ _ _ hlo hhi).mono ?_; rintro e mw ⟨rfl, rfl⟩))
      rename_i hHeld; clear hHeld
      have a5 := A.out.put 0 (.int .i64 (fof p xa)) (pc' := (fof p xa)) (fp' := s.fp) (ap' := s.ap) (rv' := s.rv) rfl
      replace KK := Lib.hid (KK.out.put 0 (.int .i64 (fof p xa)))
      have h5 := H.out.low (i := 0) (v := .int .i64 (fof p xa)) A.out.n1 A.out.n2 HZ.out
      replace a5 := a5.ext (Ext.drew _); replace h5 := h5.to (Ext.drew _); replace KK := Lib.hid (KK.out.next (DK.ext (Ext.drew _)))
      clear A H
      clear z0 c0 z1 n0 gn0
      have A := Lib.hid a5; have H := Lib.hid h5
      clear a5 h5
      generalize (v4.setCell ⟨nb, 0, none⟩ (.int .i64 (fof p xa))).drew = v5 at *
      have n0 : v5.cell? ⟨nb, 0, none⟩ = some (.int .i64 (fof p xa)) := A.out.nxt.cell 0
      have n1 : v5.cell? ⟨nb, 1, none⟩ = some (.int .i64 s.fp) := A.out.nxt.cell 1
      have n2 : v5.cell? ⟨nb, 2, none⟩ = some (.int .i64 s.ap) := A.out.nxt.cell 2
      have n3 : v5.cell? ⟨nb, 3, none⟩ = some (.int .i64 s.rv) := A.out.nxt.cell 3
      have n4 : v5.cell? ⟨nb, 4, none⟩ = some (.int .i64 0) := A.out.nxt.cell 4
      have n5 : v5.cell? ⟨nb, 5, none⟩ = some (.int .i64 0) := A.out.nxt.cell 5
      have n6 : v5.cell? ⟨nb, 6, none⟩ = some (.int .i64 0) := A.out.nxt.cell 6
      have n7 : v5.cell? ⟨nb, 7, none⟩ = some (.int .i64 0) := A.out.nxt.cell 7
      have n8 : v5.cell? ⟨nb, 8, none⟩ = some (.int .i64 0) := A.out.nxt.cell 8
      have n9 : v5.cell? ⟨nb, 9, none⟩ = some (.int .i64 0) := A.out.nxt.cell 9
      have r0 : v5.cell? ⟨rb, 0, none⟩ = some (.int .i64 0) := A.out.res.cell 0
      have r1 : v5.cell? ⟨rb, 1, none⟩ = some (.int .i64 0) := A.out.res.cell 1
      have r2 : v5.cell? ⟨rb, 2, none⟩ = some (.int .i64 0) := A.out.res.cell 2
      have r3 : v5.cell? ⟨rb, 3, none⟩ = some (.int .i64 0) := A.out.res.cell 3
      have r4 : v5.cell? ⟨rb, 4, none⟩ = some (.int .i64 0) := A.out.res.cell 4
      have r5 : v5.cell? ⟨rb, 5, none⟩ = some (.int .i64 0) := A.out.res.cell 5
      have r6 : v5.cell? ⟨rb, 6, none⟩ = some (.int .i64 0) := A.out.res.cell 6
      have r7 : v5.cell? ⟨rb, 7, none⟩ = some (.int .i64 0) := A.out.res.cell 7
      have r8 : v5.cell? ⟨rb, 8, none⟩ = some (.int .i64 0) := A.out.res.cell 8
      have r9 : v5.cell? ⟨rb, 9, none⟩ = some (.int .i64 0) := A.out.res.cell 9
      have gr0 := A.out.res.free 0
      have gr1 := A.out.res.free 1
      have gr2 := A.out.res.free 2
      have gr3 := A.out.res.free 3
      have gr4 := A.out.res.free 4
      have gr5 := A.out.res.free 5
      have gr6 := A.out.res.free 6
      have gr7 := A.out.res.free 7
      have gr8 := A.out.res.free 8
      have gr9 := A.out.res.free 9
      have HE2 := A.out.e2
      go_wp2_with fail
      have hgr := grown_one (grown_one (grown_one (grown_one (grown_one (grown_one (grown_one (grown_one (grown_one (setCell_grown v5 rb 0 (.int .i64 (fof p xa))) (setCell_grown _ rb 1 (.int .i64 s.fp))) (setCell_grown _ rb 2 (.int .i64 s.ap))) (setCell_grown _ rb 3 (.int .i64 s.rv))) (setCell_grown _ rb 4 (.int .i64 0))) (setCell_grown _ rb 5 (.int .i64 0))) (setCell_grown _ rb 6 (.int .i64 0))) (setCell_grown _ rb 7 (.int .i64 0))) (setCell_grown _ rb 8 (.int .i64 0))) (setCell_grown _ rb 9 (.int .i64 0))
      have hbl := ((((((((((A.out.res).set 0 (.int .i64 (fof p xa))).set 1 (.int .i64 s.fp)).set 2 (.int .i64 s.ap)).set 3 (.int .i64 s.rv)).set 4 (.int .i64 0)).set 5 (.int .i64 0)).set 6 (.int .i64 0)).set 7 (.int .i64 0)).set 8 (.int .i64 0)).set 9 (.int .i64 0)
      obtain ⟨m1, m2⟩ := do_fin H.out A.out.r1 A.out.r2 HZ1.out hgr
      have M1 := Lib.hid m1; have MK := Lib.hid (KK.out.dk.lowg KK.out.hr hgr); clear m1 m2 hgr H A HE2 KK
      clear n0 n1 n2 n3 n4 n5 n6 n7 n8 n9 r0 r1 r2 r3 r4 r5 r6 r7 r8 r9 gr0 gr1 gr2 gr3 gr4 gr5 gr6 gr7 gr8 gr9
      refine bodyPost_ret (v := .agg #[.int .i64 (fof p xa), .int .i64 s.fp, .int .i64 s.ap, .int .i64 s.rv, .int .i64 0, .int .i64 0, .int .i64 0, .int .i64 0, .int .i64 0, .int .i64 0]) (res_do hbl _ rfl) rfl ?_
      exact ⟨(Ds.mk s 0), cv, (fof p xa), s.fp, s.ap, s.rv, rfl, M1.out, MK.out, Nat.le_trans HD.out.acc (by omega), Nat.le_trans HD.out.mem (by omega), fun h => absurd (show (8 : Int) = 0 from h) (by decide), fun _ => same_8 xa xb xc⟩
    · have k1 := HD.out.look (fadd p s.fp xa)
      have K1 := Lib.hid k1; clear k1
      have HS := Lib.hid (same_9 (p := p) (s := s) xa xb xc)
      go_wp2_with fail
      refine (dlook_all (d := (Ds.mk s 0)) H.out _ (Nat.le_trans HD.out.acc (by omega))).mono ?_
      rintro e v5 ⟨rfl, cv5, h5, k5⟩
      replace A := Lib.hid (A.out.dk k5); replace KK := Lib.hid (KK.out.next k5); have HH := Lib.hid h5
      clear z0
      clear H h5 k5
      have H := HH; clear HH
      by_cases hxz : ((Ds.mk s 0).lookV (fadd p s.fp xa)) = 0
      · rw [if_pos hxz] at HS
        have hxb : (((Ds.mk s 0).lookV (fadd p s.fp xa)) == 0) = true := by simpa using hxz
        have HXZ := Lib.hid hxz; clear hxz
        have c0 : v5.cell? ⟨b, 0, none⟩ = some (.int .i64 p) := H.out.blk.cell 0
        have z2 : v5.cell? ⟨zb, 2, none⟩ = some (.int .i64 xb) := A.out.ins.cell 2
        have n0 : v5.cell? ⟨nb, 0, none⟩ = some (.int .i64 (fadd p s.pc 1)) := A.out.nxt.cell 0
        have gn0 := A.out.nxt.free 0
        go_wp2_with fail
        go_region_held3 (fun w' => w'.cell? ⟨b, 0, none⟩ = some (.int .i64 p) ∧ w'.cell? ⟨zb, 2, none⟩ = some (.int .i64 xb)) (first | exact ⟨c0, z2⟩ | exact ⟨(World.cell?_setCell_other _ _ _ _ (by simp)).trans c0, (World.cell?_setCell_other _ _ _ _ (by simp)).trans z2⟩) (first | (go_at_call 27; refine (rof_any _ _ _ hlo hhi).mono ?_; rintro e mw ⟨rfl, rfl⟩))
        rename_i hHeld; clear hHeld
        have a6 := A.out.put 0 (.int .i64 (fof p xb)) (pc' := (fof p xb)) (fp' := s.fp) (ap' := s.ap) (rv' := s.rv) rfl
        replace KK := Lib.hid (KK.out.put 0 (.int .i64 (fof p xb)))
        have h6 := H.out.low (i := 0) (v := .int .i64 (fof p xb)) A.out.n1 A.out.n2 HZ.out
        replace a6 := a6.ext (Ext.drew _); replace h6 := h6.to (Ext.drew _); replace KK := Lib.hid (KK.out.next (DK.ext (Ext.drew _)))
        clear A H
        clear c0 z2 n0 gn0
        have A := Lib.hid a6; have H := Lib.hid h6
        clear a6 h6
        generalize (v5.setCell ⟨nb, 0, none⟩ (.int .i64 (fof p xb))).drew = v6 at *
        have n0 : v6.cell? ⟨nb, 0, none⟩ = some (.int .i64 (fof p xb)) := A.out.nxt.cell 0
        have n1 : v6.cell? ⟨nb, 1, none⟩ = some (.int .i64 s.fp) := A.out.nxt.cell 1
        have n2 : v6.cell? ⟨nb, 2, none⟩ = some (.int .i64 s.ap) := A.out.nxt.cell 2
        have n3 : v6.cell? ⟨nb, 3, none⟩ = some (.int .i64 s.rv) := A.out.nxt.cell 3
        have n4 : v6.cell? ⟨nb, 4, none⟩ = some (.int .i64 0) := A.out.nxt.cell 4
        have n5 : v6.cell? ⟨nb, 5, none⟩ = some (.int .i64 0) := A.out.nxt.cell 5
        have n6 : v6.cell? ⟨nb, 6, none⟩ = some (.int .i64 0) := A.out.nxt.cell 6
        have n7 : v6.cell? ⟨nb, 7, none⟩ = some (.int .i64 0) := A.out.nxt.cell 7
        have n8 : v6.cell? ⟨nb, 8, none⟩ = some (.int .i64 0) := A.out.nxt.cell 8
        have n9 : v6.cell? ⟨nb, 9, none⟩ = some (.int .i64 0) := A.out.nxt.cell 9
        have r0 : v6.cell? ⟨rb, 0, none⟩ = some (.int .i64 0) := A.out.res.cell 0
        have r1 : v6.cell? ⟨rb, 1, none⟩ = some (.int .i64 0) := A.out.res.cell 1
        have r2 : v6.cell? ⟨rb, 2, none⟩ = some (.int .i64 0) := A.out.res.cell 2
        have r3 : v6.cell? ⟨rb, 3, none⟩ = some (.int .i64 0) := A.out.res.cell 3
        have r4 : v6.cell? ⟨rb, 4, none⟩ = some (.int .i64 0) := A.out.res.cell 4
        have r5 : v6.cell? ⟨rb, 5, none⟩ = some (.int .i64 0) := A.out.res.cell 5
        have r6 : v6.cell? ⟨rb, 6, none⟩ = some (.int .i64 0) := A.out.res.cell 6
        have r7 : v6.cell? ⟨rb, 7, none⟩ = some (.int .i64 0) := A.out.res.cell 7
        have r8 : v6.cell? ⟨rb, 8, none⟩ = some (.int .i64 0) := A.out.res.cell 8
        have r9 : v6.cell? ⟨rb, 9, none⟩ = some (.int .i64 0) := A.out.res.cell 9
        have gr0 := A.out.res.free 0
        have gr1 := A.out.res.free 1
        have gr2 := A.out.res.free 2
        have gr3 := A.out.res.free 3
        have gr4 := A.out.res.free 4
        have gr5 := A.out.res.free 5
        have gr6 := A.out.res.free 6
        have gr7 := A.out.res.free 7
        have gr8 := A.out.res.free 8
        have gr9 := A.out.res.free 9
        have HE2 := A.out.e2
        go_wp2_with fail
        have hgr := grown_one (grown_one (grown_one (grown_one (grown_one (grown_one (grown_one (grown_one (grown_one (setCell_grown v6 rb 0 (.int .i64 (fof p xb))) (setCell_grown _ rb 1 (.int .i64 s.fp))) (setCell_grown _ rb 2 (.int .i64 s.ap))) (setCell_grown _ rb 3 (.int .i64 s.rv))) (setCell_grown _ rb 4 (.int .i64 0))) (setCell_grown _ rb 5 (.int .i64 0))) (setCell_grown _ rb 6 (.int .i64 0))) (setCell_grown _ rb 7 (.int .i64 0))) (setCell_grown _ rb 8 (.int .i64 0))) (setCell_grown _ rb 9 (.int .i64 0))
        have hbl := ((((((((((A.out.res).set 0 (.int .i64 (fof p xb))).set 1 (.int .i64 s.fp)).set 2 (.int .i64 s.ap)).set 3 (.int .i64 s.rv)).set 4 (.int .i64 0)).set 5 (.int .i64 0)).set 6 (.int .i64 0)).set 7 (.int .i64 0)).set 8 (.int .i64 0)).set 9 (.int .i64 0)
        obtain ⟨m1, m2⟩ := do_fin H.out A.out.r1 A.out.r2 HZ1.out hgr
        have M1 := Lib.hid m1; have MK := Lib.hid (KK.out.dk.lowg KK.out.hr hgr); clear m1 m2 hgr H A HE2 KK
        clear n0 n1 n2 n3 n4 n5 n6 n7 n8 n9 r0 r1 r2 r3 r4 r5 r6 r7 r8 r9 gr0 gr1 gr2 gr3 gr4 gr5 gr6 gr7 gr8 gr9
        refine bodyPost_ret (v := .agg #[.int .i64 (fof p xb), .int .i64 s.fp, .int .i64 s.ap, .int .i64 s.rv, .int .i64 0, .int .i64 0, .int .i64 0, .int .i64 0, .int .i64 0, .int .i64 0]) (res_do hbl _ rfl) rfl ?_
        exact ⟨((Ds.mk s 0).look (fadd p s.fp xa)), cv5, (fof p xb), s.fp, s.ap, s.rv, rfl, M1.out, MK.out, Nat.le_trans K1.out.acc (by omega), Nat.le_trans K1.out.mem (by omega), fun h => absurd (show (9 : Int) = 0 from h) (by decide), fun _ => HS.out⟩
      · rw [if_neg hxz] at HS
        have hxb : (((Ds.mk s 0).lookV (fadd p s.fp xa)) == 0) = false := by simpa using hxz
        have HXZ := Lib.hid hxz; clear hxz
        have n0 : v5.cell? ⟨nb, 0, none⟩ = some (.int .i64 (fadd p s.pc 1)) := A.out.nxt.cell 0
        have n1 : v5.cell? ⟨nb, 1, none⟩ = some (.int .i64 s.fp) := A.out.nxt.cell 1
        have n2 : v5.cell? ⟨nb, 2, none⟩ = some (.int .i64 s.ap) := A.out.nxt.cell 2
        have n3 : v5.cell? ⟨nb, 3, none⟩ = some (.int .i64 s.rv) := A.out.nxt.cell 3
        have n4 : v5.cell? ⟨nb, 4, none⟩ = some (.int .i64 0) := A.out.nxt.cell 4
        have n5 : v5.cell? ⟨nb, 5, none⟩ = some (.int .i64 0) := A.out.nxt.cell 5
        have n6 : v5.cell? ⟨nb, 6, none⟩ = some (.int .i64 0) := A.out.nxt.cell 6
        have n7 : v5.cell? ⟨nb, 7, none⟩ = some (.int .i64 0) := A.out.nxt.cell 7
        have n8 : v5.cell? ⟨nb, 8, none⟩ = some (.int .i64 0) := A.out.nxt.cell 8
        have n9 : v5.cell? ⟨nb, 9, none⟩ = some (.int .i64 0) := A.out.nxt.cell 9
        have r0 : v5.cell? ⟨rb, 0, none⟩ = some (.int .i64 0) := A.out.res.cell 0
        have r1 : v5.cell? ⟨rb, 1, none⟩ = some (.int .i64 0) := A.out.res.cell 1
        have r2 : v5.cell? ⟨rb, 2, none⟩ = some (.int .i64 0) := A.out.res.cell 2
        have r3 : v5.cell? ⟨rb, 3, none⟩ = some (.int .i64 0) := A.out.res.cell 3
        have r4 : v5.cell? ⟨rb, 4, none⟩ = some (.int .i64 0) := A.out.res.cell 4
        have r5 : v5.cell? ⟨rb, 5, none⟩ = some (.int .i64 0) := A.out.res.cell 5
        have r6 : v5.cell? ⟨rb, 6, none⟩ = some (.int .i64 0) := A.out.res.cell 6
        have r7 : v5.cell? ⟨rb, 7, none⟩ = some (.int .i64 0) := A.out.res.cell 7
        have r8 : v5.cell? ⟨rb, 8, none⟩ = some (.int .i64 0) := A.out.res.cell 8
        have r9 : v5.cell? ⟨rb, 9, none⟩ = some (.int .i64 0) := A.out.res.cell 9
        have gr0 := A.out.res.free 0
        have gr1 := A.out.res.free 1
        have gr2 := A.out.res.free 2
        have gr3 := A.out.res.free 3
        have gr4 := A.out.res.free 4
        have gr5 := A.out.res.free 5
        have gr6 := A.out.res.free 6
        have gr7 := A.out.res.free 7
        have gr8 := A.out.res.free 8
        have gr9 := A.out.res.free 9
        have HE2 := A.out.e2
        go_wp2_with fail
        have hgr := grown_one (grown_one (grown_one (grown_one (grown_one (grown_one (grown_one (grown_one (grown_one (setCell_grown v5 rb 0 (.int .i64 (fadd p s.pc 1))) (setCell_grown _ rb 1 (.int .i64 s.fp))) (setCell_grown _ rb 2 (.int .i64 s.ap))) (setCell_grown _ rb 3 (.int .i64 s.rv))) (setCell_grown _ rb 4 (.int .i64 0))) (setCell_grown _ rb 5 (.int .i64 0))) (setCell_grown _ rb 6 (.int .i64 0))) (setCell_grown _ rb 7 (.int .i64 0))) (setCell_grown _ rb 8 (.int .i64 0))) (setCell_grown _ rb 9 (.int .i64 0))
        have hbl := ((((((((((A.out.res).set 0 (.int .i64 (fadd p s.pc 1))).set 1 (.int .i64 s.fp)).set 2 (.int .i64 s.ap)).set 3 (.int .i64 s.rv)).set 4 (.int .i64 0)).set 5 (.int .i64 0)).set 6 (.int .i64 0)).set 7 (.int .i64 0)).set 8 (.int .i64 0)).set 9 (.int .i64 0)
        obtain ⟨m1, m2⟩ := do_fin H.out A.out.r1 A.out.r2 HZ1.out hgr
        have M1 := Lib.hid m1; have MK := Lib.hid (KK.out.dk.lowg KK.out.hr hgr); clear m1 m2 hgr H A HE2 KK
        clear n0 n1 n2 n3 n4 n5 n6 n7 n8 n9 r0 r1 r2 r3 r4 r5 r6 r7 r8 r9 gr0 gr1 gr2 gr3 gr4 gr5 gr6 gr7 gr8 gr9
        refine bodyPost_ret (v := .agg #[.int .i64 (fadd p s.pc 1), .int .i64 s.fp, .int .i64 s.ap, .int .i64 s.rv, .int .i64 0, .int .i64 0, .int .i64 0, .int .i64 0, .int .i64 0, .int .i64 0]) (res_do hbl _ rfl) rfl ?_
        exact ⟨((Ds.mk s 0).look (fadd p s.fp xa)), cv5, (fadd p s.pc 1), s.fp, s.ap, s.rv, rfl, M1.out, MK.out, Nat.le_trans K1.out.acc (by omega), Nat.le_trans K1.out.mem (by omega), fun h => absurd (show (9 : Int) = 0 from h) (by decide), fun _ => HS.out⟩
    · have k1 := HD.out.tell s.ap s.fp
      have k2 := k1.tell (fadd p s.ap 1) (s.pc + 1)
      have K1 := Lib.hid k1; have K2 := Lib.hid k2; clear k1 k2
      go_wp2_with fail
      refine (dtell_all (d := (Ds.mk s 0)) H.out s.fp HO.out.ap (Nat.le_trans HD.out.acc (by omega)) (by have := HM.out; show s.mem.length + 1 ≤ 100000; omega)).mono ?_
      rintro e v5 ⟨rfl, cv5, h5, k5⟩
      replace A := Lib.hid (A.out.dk k5); replace KK := Lib.hid (KK.out.next k5); have HH := Lib.hid h5
      clear z0
      clear H h5 k5
      have H := HH; clear HH
      have hpc := HO.out.pc
      have c2 : v5.cell? ⟨b, 2, none⟩ = some (.int .i64 ((Ds.mk s 0).tell p s.ap s.fp).s.pc) := H.out.blk.cell 2
      rw [dtell_pc] at c2
      replace c2 : v5.cell? ⟨b, 2, none⟩ = some (.int .i64 s.pc) := c2
      have c0 : v5.cell? ⟨b, 0, none⟩ = some (.int .i64 p) := H.out.blk.cell 0
      go_wp2_with (go_at_call 89; refine (radd_any _ _ _ _ hlo hhi).mono ?_; rintro e mw ⟨rfl, rfl⟩)
      refine (dtell_all (d := ((Ds.mk s 0).tell p s.ap s.fp)) H.out (s.pc + 1) (fadd_bd hlo s.ap 1) (Nat.le_trans K1.out.acc (by omega)) (by have := K1.out.mem; have := HM.out; omega)).mono ?_
      rintro e v6 ⟨rfl, cv6, h6, k6⟩
      replace A := Lib.hid (A.out.dk k6); replace KK := Lib.hid (KK.out.next k6); have HH := Lib.hid h6
      clear c0 c2 hpc
      clear H h6 k6
      have H := HH; clear HH
      have c0 : v6.cell? ⟨b, 0, none⟩ = some (.int .i64 p) := H.out.blk.cell 0
      have n1 : v6.cell? ⟨nb, 1, none⟩ = some (.int .i64 s.fp) := A.out.nxt.cell 1
      have gn1 := A.out.nxt.free 1
      go_upto_region 36 with (go_at_call 89; refine (radd_any _ _ _ _ hlo hhi).mono ?_; rintro e mw ⟨rfl, rfl⟩)
      have a7 := A.out.put 1 (.int .i64 (fadd p s.ap 2)) (pc' := (fadd p s.pc 1)) (fp' := (fadd p s.ap 2)) (ap' := s.ap) (rv' := s.rv) rfl
      replace KK := Lib.hid (KK.out.put 1 (.int .i64 (fadd p s.ap 2)))
      have h7 := H.out.low (i := 1) (v := .int .i64 (fadd p s.ap 2)) A.out.n1 A.out.n2 HZ.out
      clear A H
      clear c0 n1 gn1
      have A := Lib.hid a7; have H := Lib.hid h7
      clear a7 h7
      generalize (v6.setCell ⟨nb, 1, none⟩ (.int .i64 (fadd p s.ap 2))) = v7 at *
      have c0 : v7.cell? ⟨b, 0, none⟩ = some (.int .i64 p) := H.out.blk.cell 0
      have z2 : v7.cell? ⟨zb, 2, none⟩ = some (.int .i64 xb) := A.out.ins.cell 2
      have n1 : v7.cell? ⟨nb, 1, none⟩ = some (.int .i64 (fadd p s.ap 2)) := A.out.nxt.cell 1
      have n2 : v7.cell? ⟨nb, 2, none⟩ = some (.int .i64 s.ap) := A.out.nxt.cell 2
      have gn2 := A.out.nxt.free 2
      go_region_held3 (fun w' => w'.cell? ⟨b, 0, none⟩ = some (.int .i64 p) ∧ w'.cell? ⟨nb, 1, none⟩ = some (.int .i64 (fadd p s.ap 2)) ∧ w'.cell? ⟨zb, 2, none⟩ = some (.int .i64 xb)) (first | exact ⟨c0, n1, z2⟩ | exact ⟨(World.cell?_setCell_other _ _ _ _ (by simp)).trans c0, (World.cell?_setCell_other _ _ _ _ (by simp)).trans n1, (World.cell?_setCell_other _ _ _ _ (by simp [A.out.e1.symm])).trans z2⟩) (first | (go_at_call 89; refine (radd_any _ _ _ _ hlo hhi).mono ?_; rintro e mw ⟨rfl, rfl⟩))
      rename_i hHeld; clear hHeld
      have a8 := A.out.put 2 (.int .i64 (fadd p (fadd p s.ap 2) xb)) (pc' := (fadd p s.pc 1)) (fp' := (fadd p s.ap 2)) (ap' := (fadd p (fadd p s.ap 2) xb)) (rv' := s.rv) rfl
      replace KK := Lib.hid (KK.out.put 2 (.int .i64 (fadd p (fadd p s.ap 2) xb)))
      have h8 := H.out.low (i := 2) (v := .int .i64 (fadd p (fadd p s.ap 2) xb)) A.out.n1 A.out.n2 HZ.out
      replace a8 := a8.ext (Ext.drew _); replace h8 := h8.to (Ext.drew _); replace KK := Lib.hid (KK.out.next (DK.ext (Ext.drew _)))
      clear A H
      clear c0 z2 n1 n2 gn2
      have A := Lib.hid a8; have H := Lib.hid h8
      clear a8 h8
      generalize (v7.setCell ⟨nb, 2, none⟩ (.int .i64 (fadd p (fadd p s.ap 2) xb))).drew = v8 at *
      have c0 : v8.cell? ⟨b, 0, none⟩ = some (.int .i64 p) := H.out.blk.cell 0
      have z1 : v8.cell? ⟨zb, 1, none⟩ = some (.int .i64 xa) := A.out.ins.cell 1
      have n0 : v8.cell? ⟨nb, 0, none⟩ = some (.int .i64 (fadd p s.pc 1)) := A.out.nxt.cell 0
      have gn0 := A.out.nxt.free 0
      go_wp2_with fail
      go_region_held3 (fun w' => w'.cell? ⟨b, 0, none⟩ = some (.int .i64 p) ∧ w'.cell? ⟨zb, 1, none⟩ = some (.int .i64 xa)) (first | exact ⟨c0, z1⟩ | exact ⟨(World.cell?_setCell_other _ _ _ _ (by simp)).trans c0, (World.cell?_setCell_other _ _ _ _ (by simp)).trans z1⟩) (first | (go_at_call 27; refine (rof_any _ _ _ hlo hhi).mono ?_; rintro e mw ⟨rfl, rfl⟩))
      rename_i hHeld; clear hHeld
      have a9 := A.out.put 0 (.int .i64 (fof p xa)) (pc' := (fof p xa)) (fp' := (fadd p s.ap 2)) (ap' := (fadd p (fadd p s.ap 2) xb)) (rv' := s.rv) rfl
      replace KK := Lib.hid (KK.out.put 0 (.int .i64 (fof p xa)))
      have h9 := H.out.low (i := 0) (v := .int .i64 (fof p xa)) A.out.n1 A.out.n2 HZ.out
      replace a9 := a9.ext (Ext.drew _); replace h9 := h9.to (Ext.drew _); replace KK := Lib.hid (KK.out.next (DK.ext (Ext.drew _)))
      clear A H
      clear c0 z1 n0 gn0
      have A := Lib.hid a9; have H := Lib.hid h9
      clear a9 h9
      generalize (v8.setCell ⟨nb, 0, none⟩ (.int .i64 (fof p xa))).drew = v9 at *
      have n0 : v9.cell? ⟨nb, 0, none⟩ = some (.int .i64 (fof p xa)) := A.out.nxt.cell 0
      have n1 : v9.cell? ⟨nb, 1, none⟩ = some (.int .i64 (fadd p s.ap 2)) := A.out.nxt.cell 1
      have n2 : v9.cell? ⟨nb, 2, none⟩ = some (.int .i64 (fadd p (fadd p s.ap 2) xb)) := A.out.nxt.cell 2
      have n3 : v9.cell? ⟨nb, 3, none⟩ = some (.int .i64 s.rv) := A.out.nxt.cell 3
      have n4 : v9.cell? ⟨nb, 4, none⟩ = some (.int .i64 0) := A.out.nxt.cell 4
      have n5 : v9.cell? ⟨nb, 5, none⟩ = some (.int .i64 0) := A.out.nxt.cell 5
      have n6 : v9.cell? ⟨nb, 6, none⟩ = some (.int .i64 0) := A.out.nxt.cell 6
      have n7 : v9.cell? ⟨nb, 7, none⟩ = some (.int .i64 0) := A.out.nxt.cell 7
      have n8 : v9.cell? ⟨nb, 8, none⟩ = some (.int .i64 0) := A.out.nxt.cell 8
      have n9 : v9.cell? ⟨nb, 9, none⟩ = some (.int .i64 0) := A.out.nxt.cell 9
      have r0 : v9.cell? ⟨rb, 0, none⟩ = some (.int .i64 0) := A.out.res.cell 0
      have r1 : v9.cell? ⟨rb, 1, none⟩ = some (.int .i64 0) := A.out.res.cell 1
      have r2 : v9.cell? ⟨rb, 2, none⟩ = some (.int .i64 0) := A.out.res.cell 2
      have r3 : v9.cell? ⟨rb, 3, none⟩ = some (.int .i64 0) := A.out.res.cell 3
      have r4 : v9.cell? ⟨rb, 4, none⟩ = some (.int .i64 0) := A.out.res.cell 4
      have r5 : v9.cell? ⟨rb, 5, none⟩ = some (.int .i64 0) := A.out.res.cell 5
      have r6 : v9.cell? ⟨rb, 6, none⟩ = some (.int .i64 0) := A.out.res.cell 6
      have r7 : v9.cell? ⟨rb, 7, none⟩ = some (.int .i64 0) := A.out.res.cell 7
      have r8 : v9.cell? ⟨rb, 8, none⟩ = some (.int .i64 0) := A.out.res.cell 8
      have r9 : v9.cell? ⟨rb, 9, none⟩ = some (.int .i64 0) := A.out.res.cell 9
      have gr0 := A.out.res.free 0
      have gr1 := A.out.res.free 1
      have gr2 := A.out.res.free 2
      have gr3 := A.out.res.free 3
      have gr4 := A.out.res.free 4
      have gr5 := A.out.res.free 5
      have gr6 := A.out.res.free 6
      have gr7 := A.out.res.free 7
      have gr8 := A.out.res.free 8
      have gr9 := A.out.res.free 9
      have HE2 := A.out.e2
      go_wp2_with fail
      have hgr := grown_one (grown_one (grown_one (grown_one (grown_one (grown_one (grown_one (grown_one (grown_one (setCell_grown v9 rb 0 (.int .i64 (fof p xa))) (setCell_grown _ rb 1 (.int .i64 (fadd p s.ap 2)))) (setCell_grown _ rb 2 (.int .i64 (fadd p (fadd p s.ap 2) xb)))) (setCell_grown _ rb 3 (.int .i64 s.rv))) (setCell_grown _ rb 4 (.int .i64 0))) (setCell_grown _ rb 5 (.int .i64 0))) (setCell_grown _ rb 6 (.int .i64 0))) (setCell_grown _ rb 7 (.int .i64 0))) (setCell_grown _ rb 8 (.int .i64 0))) (setCell_grown _ rb 9 (.int .i64 0))
      have hbl := ((((((((((A.out.res).set 0 (.int .i64 (fof p xa))).set 1 (.int .i64 (fadd p s.ap 2))).set 2 (.int .i64 (fadd p (fadd p s.ap 2) xb))).set 3 (.int .i64 s.rv)).set 4 (.int .i64 0)).set 5 (.int .i64 0)).set 6 (.int .i64 0)).set 7 (.int .i64 0)).set 8 (.int .i64 0)).set 9 (.int .i64 0)
      obtain ⟨m1, m2⟩ := do_fin H.out A.out.r1 A.out.r2 HZ1.out hgr
      have M1 := Lib.hid m1; have MK := Lib.hid (KK.out.dk.lowg KK.out.hr hgr); clear m1 m2 hgr H A HE2 KK
      clear n0 n1 n2 n3 n4 n5 n6 n7 n8 n9 r0 r1 r2 r3 r4 r5 r6 r7 r8 r9 gr0 gr1 gr2 gr3 gr4 gr5 gr6 gr7 gr8 gr9
      refine bodyPost_ret (v := .agg #[.int .i64 (fof p xa), .int .i64 (fadd p s.ap 2), .int .i64 (fadd p (fadd p s.ap 2) xb), .int .i64 s.rv, .int .i64 0, .int .i64 0, .int .i64 0, .int .i64 0, .int .i64 0, .int .i64 0]) (res_do hbl _ rfl) rfl ?_
      exact ⟨(((Ds.mk s 0).tell p s.ap s.fp).tell p (fadd p s.ap 1) (s.pc + 1)), cv6, (fof p xa), (fadd p s.ap 2), (fadd p (fadd p s.ap 2) xb), s.rv, rfl, M1.out, MK.out, Nat.le_trans K2.out.acc (by omega), Nat.le_trans K2.out.mem (by omega), fun h => absurd (show (10 : Int) = 0 from h) (by decide), fun _ => same_10 hlo HO.out xa xb xc⟩
    · have k1 := HD.out.look (fsub p s.fp 2)
      have k2 := k1.look (fsub p s.fp 1)
      have k3 := k2.look (fadd p s.fp xa)
      have K1 := Lib.hid k1; have K2 := Lib.hid k2; have K3 := Lib.hid k3; clear k1 k2 k3
      have c0 : v4.cell? ⟨b, 0, none⟩ = some (.int .i64 p) := H.out.blk.cell 0
      go_wp2_with (go_at_call 86; refine (rsub_any _ _ _ _ hlo hhi).mono ?_; rintro e mw ⟨rfl, rfl⟩)
      refine (dlook_all (d := (Ds.mk s 0)) H.out (fsub p s.fp 2) (Nat.le_trans HD.out.acc (by omega))).mono ?_
      rintro e v5 ⟨rfl, cv5, h5, k5⟩
      replace A := Lib.hid (A.out.dk k5); replace KK := Lib.hid (KK.out.next k5); have HH := Lib.hid h5
      clear z0 c0
      clear H h5 k5
      have H := HH; clear HH
      have n1 : v5.cell? ⟨nb, 1, none⟩ = some (.int .i64 s.fp) := A.out.nxt.cell 1
      have gn1 := A.out.nxt.free 1
      go_upto_region 41 with (fail)
      have a6 := A.out.put 1 (.int .i64 ((Ds.mk s 0).lookV (fsub p s.fp 2))) (pc' := (fadd p s.pc 1)) (fp' := ((Ds.mk s 0).lookV (fsub p s.fp 2))) (ap' := s.ap) (rv' := s.rv) rfl
      replace KK := Lib.hid (KK.out.put 1 (.int .i64 ((Ds.mk s 0).lookV (fsub p s.fp 2))))
      have h6 := H.out.low (i := 1) (v := .int .i64 ((Ds.mk s 0).lookV (fsub p s.fp 2))) A.out.n1 A.out.n2 HZ.out
      clear A H
      clear n1 gn1
      have A := Lib.hid a6; have H := Lib.hid h6
      clear a6 h6
      generalize (v5.setCell ⟨nb, 1, none⟩ (.int .i64 ((Ds.mk s 0).lookV (fsub p s.fp 2)))) = v6 at *
      have c0 : v6.cell? ⟨b, 0, none⟩ = some (.int .i64 p) := H.out.blk.cell 0
      go_wp2_with (go_at_call 86; refine (rsub_any _ _ _ _ hlo hhi).mono ?_; rintro e mw ⟨rfl, rfl⟩)
      refine (dlook_all (d := ((Ds.mk s 0).look (fsub p s.fp 2))) H.out (fsub p s.fp 1) (Nat.le_trans K1.out.acc (by omega))).mono ?_
      rintro e v7 ⟨rfl, cv7, h7, k7⟩
      replace A := Lib.hid (A.out.dk k7); replace KK := Lib.hid (KK.out.next k7); have HH := Lib.hid h7
      clear c0
      clear H h7 k7
      have H := HH; clear HH
      have n0 : v7.cell? ⟨nb, 0, none⟩ = some (.int .i64 (fadd p s.pc 1)) := A.out.nxt.cell 0
      have gn0 := A.out.nxt.free 0
      go_upto_region 43 with (fail)
      have a8 := A.out.put 0 (.int .i64 (((Ds.mk s 0).look (fsub p s.fp 2)).lookV (fsub p s.fp 1))) (pc' := (((Ds.mk s 0).look (fsub p s.fp 2)).lookV (fsub p s.fp 1))) (fp' := ((Ds.mk s 0).lookV (fsub p s.fp 2))) (ap' := s.ap) (rv' := s.rv) rfl
      replace KK := Lib.hid (KK.out.put 0 (.int .i64 (((Ds.mk s 0).look (fsub p s.fp 2)).lookV (fsub p s.fp 1))))
      have h8 := H.out.low (i := 0) (v := .int .i64 (((Ds.mk s 0).look (fsub p s.fp 2)).lookV (fsub p s.fp 1))) A.out.n1 A.out.n2 HZ.out
      clear A H
      clear n0 gn0
      have A := Lib.hid a8; have H := Lib.hid h8
      clear a8 h8
      generalize (v7.setCell ⟨nb, 0, none⟩ (.int .i64 (((Ds.mk s 0).look (fsub p s.fp 2)).lookV (fsub p s.fp 1)))) = v8 at *
      go_wp2_with fail
      refine (dlook_all (d := (((Ds.mk s 0).look (fsub p s.fp 2)).look (fsub p s.fp 1))) H.out (fadd p s.fp xa) (Nat.le_trans K2.out.acc (by omega))).mono ?_
      rintro e v9 ⟨rfl, cv9, h9, k9⟩
      replace A := Lib.hid (A.out.dk k9); replace KK := Lib.hid (KK.out.next k9); have HH := Lib.hid h9
      clear H h9 k9
      have H := HH; clear HH
      have n3 : v9.cell? ⟨nb, 3, none⟩ = some (.int .i64 s.rv) := A.out.nxt.cell 3
      have gn3 := A.out.nxt.free 3
      go_upto_region 53 with (fail)
      have a10 := A.out.put 3 (.int .i64 ((((Ds.mk s 0).look (fsub p s.fp 2)).look (fsub p s.fp 1)).lookV (fadd p s.fp xa))) (pc' := (((Ds.mk s 0).look (fsub p s.fp 2)).lookV (fsub p s.fp 1))) (fp' := ((Ds.mk s 0).lookV (fsub p s.fp 2))) (ap' := s.ap) (rv' := ((((Ds.mk s 0).look (fsub p s.fp 2)).look (fsub p s.fp 1)).lookV (fadd p s.fp xa))) rfl
      replace KK := Lib.hid (KK.out.put 3 (.int .i64 ((((Ds.mk s 0).look (fsub p s.fp 2)).look (fsub p s.fp 1)).lookV (fadd p s.fp xa))))
      have h10 := H.out.low (i := 3) (v := .int .i64 ((((Ds.mk s 0).look (fsub p s.fp 2)).look (fsub p s.fp 1)).lookV (fadd p s.fp xa))) A.out.n1 A.out.n2 HZ.out
      clear A H
      clear n3 gn3
      have A := Lib.hid a10; have H := Lib.hid h10
      clear a10 h10
      generalize (v9.setCell ⟨nb, 3, none⟩ (.int .i64 ((((Ds.mk s 0).look (fsub p s.fp 2)).look (fsub p s.fp 1)).lookV (fadd p s.fp xa)))) = v10 at *
      have n0 : v10.cell? ⟨nb, 0, none⟩ = some (.int .i64 (((Ds.mk s 0).look (fsub p s.fp 2)).lookV (fsub p s.fp 1))) := A.out.nxt.cell 0
      have n1 : v10.cell? ⟨nb, 1, none⟩ = some (.int .i64 ((Ds.mk s 0).lookV (fsub p s.fp 2))) := A.out.nxt.cell 1
      have n2 : v10.cell? ⟨nb, 2, none⟩ = some (.int .i64 s.ap) := A.out.nxt.cell 2
      have n3 : v10.cell? ⟨nb, 3, none⟩ = some (.int .i64 ((((Ds.mk s 0).look (fsub p s.fp 2)).look (fsub p s.fp 1)).lookV (fadd p s.fp xa))) := A.out.nxt.cell 3
      have n4 : v10.cell? ⟨nb, 4, none⟩ = some (.int .i64 0) := A.out.nxt.cell 4
      have n5 : v10.cell? ⟨nb, 5, none⟩ = some (.int .i64 0) := A.out.nxt.cell 5
      have n6 : v10.cell? ⟨nb, 6, none⟩ = some (.int .i64 0) := A.out.nxt.cell 6
      have n7 : v10.cell? ⟨nb, 7, none⟩ = some (.int .i64 0) := A.out.nxt.cell 7
      have n8 : v10.cell? ⟨nb, 8, none⟩ = some (.int .i64 0) := A.out.nxt.cell 8
      have n9 : v10.cell? ⟨nb, 9, none⟩ = some (.int .i64 0) := A.out.nxt.cell 9
      have r0 : v10.cell? ⟨rb, 0, none⟩ = some (.int .i64 0) := A.out.res.cell 0
      have r1 : v10.cell? ⟨rb, 1, none⟩ = some (.int .i64 0) := A.out.res.cell 1
      have r2 : v10.cell? ⟨rb, 2, none⟩ = some (.int .i64 0) := A.out.res.cell 2
      have r3 : v10.cell? ⟨rb, 3, none⟩ = some (.int .i64 0) := A.out.res.cell 3
      have r4 : v10.cell? ⟨rb, 4, none⟩ = some (.int .i64 0) := A.out.res.cell 4
      have r5 : v10.cell? ⟨rb, 5, none⟩ = some (.int .i64 0) := A.out.res.cell 5
      have r6 : v10.cell? ⟨rb, 6, none⟩ = some (.int .i64 0) := A.out.res.cell 6
      have r7 : v10.cell? ⟨rb, 7, none⟩ = some (.int .i64 0) := A.out.res.cell 7
      have r8 : v10.cell? ⟨rb, 8, none⟩ = some (.int .i64 0) := A.out.res.cell 8
      have r9 : v10.cell? ⟨rb, 9, none⟩ = some (.int .i64 0) := A.out.res.cell 9
      have gr0 := A.out.res.free 0
      have gr1 := A.out.res.free 1
      have gr2 := A.out.res.free 2
      have gr3 := A.out.res.free 3
      have gr4 := A.out.res.free 4
      have gr5 := A.out.res.free 5
      have gr6 := A.out.res.free 6
      have gr7 := A.out.res.free 7
      have gr8 := A.out.res.free 8
      have gr9 := A.out.res.free 9
      have HE2 := A.out.e2
      go_wp2_with fail
      have hgr := grown_one (grown_one (grown_one (grown_one (grown_one (grown_one (grown_one (grown_one (grown_one (setCell_grown v10 rb 0 (.int .i64 (((Ds.mk s 0).look (fsub p s.fp 2)).lookV (fsub p s.fp 1)))) (setCell_grown _ rb 1 (.int .i64 ((Ds.mk s 0).lookV (fsub p s.fp 2))))) (setCell_grown _ rb 2 (.int .i64 s.ap))) (setCell_grown _ rb 3 (.int .i64 ((((Ds.mk s 0).look (fsub p s.fp 2)).look (fsub p s.fp 1)).lookV (fadd p s.fp xa))))) (setCell_grown _ rb 4 (.int .i64 0))) (setCell_grown _ rb 5 (.int .i64 0))) (setCell_grown _ rb 6 (.int .i64 0))) (setCell_grown _ rb 7 (.int .i64 0))) (setCell_grown _ rb 8 (.int .i64 0))) (setCell_grown _ rb 9 (.int .i64 0))
      have hbl := ((((((((((A.out.res).set 0 (.int .i64 (((Ds.mk s 0).look (fsub p s.fp 2)).lookV (fsub p s.fp 1)))).set 1 (.int .i64 ((Ds.mk s 0).lookV (fsub p s.fp 2)))).set 2 (.int .i64 s.ap)).set 3 (.int .i64 ((((Ds.mk s 0).look (fsub p s.fp 2)).look (fsub p s.fp 1)).lookV (fadd p s.fp xa)))).set 4 (.int .i64 0)).set 5 (.int .i64 0)).set 6 (.int .i64 0)).set 7 (.int .i64 0)).set 8 (.int .i64 0)).set 9 (.int .i64 0)
      obtain ⟨m1, m2⟩ := do_fin H.out A.out.r1 A.out.r2 HZ1.out hgr
      have M1 := Lib.hid m1; have MK := Lib.hid (KK.out.dk.lowg KK.out.hr hgr); clear m1 m2 hgr H A HE2 KK
      clear n0 n1 n2 n3 n4 n5 n6 n7 n8 n9 r0 r1 r2 r3 r4 r5 r6 r7 r8 r9 gr0 gr1 gr2 gr3 gr4 gr5 gr6 gr7 gr8 gr9
      refine bodyPost_ret (v := .agg #[.int .i64 (((Ds.mk s 0).look (fsub p s.fp 2)).lookV (fsub p s.fp 1)), .int .i64 ((Ds.mk s 0).lookV (fsub p s.fp 2)), .int .i64 s.ap, .int .i64 ((((Ds.mk s 0).look (fsub p s.fp 2)).look (fsub p s.fp 1)).lookV (fadd p s.fp xa)), .int .i64 0, .int .i64 0, .int .i64 0, .int .i64 0, .int .i64 0, .int .i64 0]) (res_do hbl _ rfl) rfl ?_
      exact ⟨((((Ds.mk s 0).look (fsub p s.fp 2)).look (fsub p s.fp 1)).look (fadd p s.fp xa)), cv9, (((Ds.mk s 0).look (fsub p s.fp 2)).lookV (fsub p s.fp 1)), ((Ds.mk s 0).lookV (fsub p s.fp 2)), s.ap, ((((Ds.mk s 0).look (fsub p s.fp 2)).look (fsub p s.fp 1)).lookV (fadd p s.fp xa)), rfl, M1.out, MK.out, K3.out.acc, Nat.le_trans K3.out.mem (by omega), fun h => absurd (show (11 : Int) = 0 from h) (by decide), fun _ => same_11 xa xb xc⟩
    · have k1 := HD.out.tell (fadd p s.fp xa) s.rv
      have K1 := Lib.hid k1; clear k1
      have c5 : v4.cell? ⟨b, 5, none⟩ = some (.int .i64 s.rv) := H.out.blk.cell 5
      go_wp2_with fail
      refine (dtell_all (d := (Ds.mk s 0)) H.out s.rv (fadd_bd hlo s.fp xa) (Nat.le_trans HD.out.acc (by omega)) (by have := HM.out; show s.mem.length + 1 ≤ 100000; omega)).mono ?_
      rintro e v5 ⟨rfl, cv5, h5, k5⟩
      replace A := Lib.hid (A.out.dk k5); replace KK := Lib.hid (KK.out.next k5); have HH := Lib.hid h5
      clear z0 c5
      clear H h5 k5
      have H := HH; clear HH
      have n0 : v5.cell? ⟨nb, 0, none⟩ = some (.int .i64 (fadd p s.pc 1)) := A.out.nxt.cell 0
      have n1 : v5.cell? ⟨nb, 1, none⟩ = some (.int .i64 s.fp) := A.out.nxt.cell 1
      have n2 : v5.cell? ⟨nb, 2, none⟩ = some (.int .i64 s.ap) := A.out.nxt.cell 2
      have n3 : v5.cell? ⟨nb, 3, none⟩ = some (.int .i64 s.rv) := A.out.nxt.cell 3
      have n4 : v5.cell? ⟨nb, 4, none⟩ = some (.int .i64 0) := A.out.nxt.cell 4
      have n5 : v5.cell? ⟨nb, 5, none⟩ = some (.int .i64 0) := A.out.nxt.cell 5
      have n6 : v5.cell? ⟨nb, 6, none⟩ = some (.int .i64 0) := A.out.nxt.cell 6
      have n7 : v5.cell? ⟨nb, 7, none⟩ = some (.int .i64 0) := A.out.nxt.cell 7
      have n8 : v5.cell? ⟨nb, 8, none⟩ = some (.int .i64 0) := A.out.nxt.cell 8
      have n9 : v5.cell? ⟨nb, 9, none⟩ = some (.int .i64 0) := A.out.nxt.cell 9
      have r0 : v5.cell? ⟨rb, 0, none⟩ = some (.int .i64 0) := A.out.res.cell 0
      have r1 : v5.cell? ⟨rb, 1, none⟩ = some (.int .i64 0) := A.out.res.cell 1
      have r2 : v5.cell? ⟨rb, 2, none⟩ = some (.int .i64 0) := A.out.res.cell 2
      have r3 : v5.cell? ⟨rb, 3, none⟩ = some (.int .i64 0) := A.out.res.cell 3
      have r4 : v5.cell? ⟨rb, 4, none⟩ = some (.int .i64 0) := A.out.res.cell 4
      have r5 : v5.cell? ⟨rb, 5, none⟩ = some (.int .i64 0) := A.out.res.cell 5
      have r6 : v5.cell? ⟨rb, 6, none⟩ = some (.int .i64 0) := A.out.res.cell 6
      have r7 : v5.cell? ⟨rb, 7, none⟩ = some (.int .i64 0) := A.out.res.cell 7
      have r8 : v5.cell? ⟨rb, 8, none⟩ = some (.int .i64 0) := A.out.res.cell 8
      have r9 : v5.cell? ⟨rb, 9, none⟩ = some (.int .i64 0) := A.out.res.cell 9
      have gr0 := A.out.res.free 0
      have gr1 := A.out.res.free 1
      have gr2 := A.out.res.free 2
      have gr3 := A.out.res.free 3
      have gr4 := A.out.res.free 4
      have gr5 := A.out.res.free 5
      have gr6 := A.out.res.free 6
      have gr7 := A.out.res.free 7
      have gr8 := A.out.res.free 8
      have gr9 := A.out.res.free 9
      have HE2 := A.out.e2
      go_wp2_with fail
      have hgr := grown_one (grown_one (grown_one (grown_one (grown_one (grown_one (grown_one (grown_one (grown_one (setCell_grown v5 rb 0 (.int .i64 (fadd p s.pc 1))) (setCell_grown _ rb 1 (.int .i64 s.fp))) (setCell_grown _ rb 2 (.int .i64 s.ap))) (setCell_grown _ rb 3 (.int .i64 s.rv))) (setCell_grown _ rb 4 (.int .i64 0))) (setCell_grown _ rb 5 (.int .i64 0))) (setCell_grown _ rb 6 (.int .i64 0))) (setCell_grown _ rb 7 (.int .i64 0))) (setCell_grown _ rb 8 (.int .i64 0))) (setCell_grown _ rb 9 (.int .i64 0))
      have hbl := ((((((((((A.out.res).set 0 (.int .i64 (fadd p s.pc 1))).set 1 (.int .i64 s.fp)).set 2 (.int .i64 s.ap)).set 3 (.int .i64 s.rv)).set 4 (.int .i64 0)).set 5 (.int .i64 0)).set 6 (.int .i64 0)).set 7 (.int .i64 0)).set 8 (.int .i64 0)).set 9 (.int .i64 0)
      obtain ⟨m1, m2⟩ := do_fin H.out A.out.r1 A.out.r2 HZ1.out hgr
      have M1 := Lib.hid m1; have MK := Lib.hid (KK.out.dk.lowg KK.out.hr hgr); clear m1 m2 hgr H A HE2 KK
      clear n0 n1 n2 n3 n4 n5 n6 n7 n8 n9 r0 r1 r2 r3 r4 r5 r6 r7 r8 r9 gr0 gr1 gr2 gr3 gr4 gr5 gr6 gr7 gr8 gr9
      refine bodyPost_ret (v := .agg #[.int .i64 (fadd p s.pc 1), .int .i64 s.fp, .int .i64 s.ap, .int .i64 s.rv, .int .i64 0, .int .i64 0, .int .i64 0, .int .i64 0, .int .i64 0, .int .i64 0]) (res_do hbl _ rfl) rfl ?_
      exact ⟨((Ds.mk s 0).tell p (fadd p s.fp xa) s.rv), cv5, (fadd p s.pc 1), s.fp, s.ap, s.rv, rfl, M1.out, MK.out, Nat.le_trans K1.out.acc (by omega), Nat.le_trans K1.out.mem (by omega), fun h => absurd (show (12 : Int) = 0 from h) (by decide), fun _ => same_12 HO.out xa xb xc⟩
    · have k1 := HD.out.look (fadd p s.fp xa)
      have k2 := k1.tell (fadd p (fadd p s.ap 2) xb) ((Ds.mk s 0).lookV (fadd p s.fp xa))
      have K1 := Lib.hid k1; have K2 := Lib.hid k2; clear k1 k2
      go_wp2_with fail
      refine (dlook_all (d := (Ds.mk s 0)) H.out _ (Nat.le_trans HD.out.acc (by omega))).mono ?_
      rintro e v5 ⟨rfl, cv5, h5, k5⟩
      replace A := Lib.hid (A.out.dk k5); replace KK := Lib.hid (KK.out.next k5); have HH := Lib.hid h5
      clear z0
      clear H h5 k5
      have H := HH; clear HH
      have c0 : v5.cell? ⟨b, 0, none⟩ = some (.int .i64 p) := H.out.blk.cell 0
      have z2 : v5.cell? ⟨zb, 2, none⟩ = some (.int .i64 xb) := A.out.ins.cell 2
      go_wp2_with (go_at_call 89; refine (radd_any _ _ _ _ hlo hhi).mono ?_; rintro e mw ⟨rfl, rfl⟩)
      go_quiet ((go_at_call 89; exact radd_q _ _ _ _ _ hlo hhi))
      have a6 := A.out.ext (Ext.drewN v5 nq); have h6 := H.out.to (Ext.drewN v5 nq)
      replace KK := Lib.hid (KK.out.next (DK.ext (Ext.drewN v5 nq)))
      clear A H
      clear c0 z2
      have A := Lib.hid a6; have H := Lib.hid h6; clear a6 h6
      generalize v5.drewN nq = v6 at *
      go_wp2_with fail
      refine (dtell_all (d := ((Ds.mk s 0).look (fadd p s.fp xa))) H.out ((Ds.mk s 0).lookV (fadd p s.fp xa)) (fadd_bd hlo _ xb) (Nat.le_trans K1.out.acc (by omega)) (by have := K1.out.mem; have := HM.out; omega)).mono ?_
      rintro e v7 ⟨rfl, cv7, h7, k7⟩
      replace A := Lib.hid (A.out.dk k7); replace KK := Lib.hid (KK.out.next k7); have HH := Lib.hid h7
      clear H h7 k7
      have H := HH; clear HH
      have n0 : v7.cell? ⟨nb, 0, none⟩ = some (.int .i64 (fadd p s.pc 1)) := A.out.nxt.cell 0
      have n1 : v7.cell? ⟨nb, 1, none⟩ = some (.int .i64 s.fp) := A.out.nxt.cell 1
      have n2 : v7.cell? ⟨nb, 2, none⟩ = some (.int .i64 s.ap) := A.out.nxt.cell 2
      have n3 : v7.cell? ⟨nb, 3, none⟩ = some (.int .i64 s.rv) := A.out.nxt.cell 3
      have n4 : v7.cell? ⟨nb, 4, none⟩ = some (.int .i64 0) := A.out.nxt.cell 4
      have n5 : v7.cell? ⟨nb, 5, none⟩ = some (.int .i64 0) := A.out.nxt.cell 5
      have n6 : v7.cell? ⟨nb, 6, none⟩ = some (.int .i64 0) := A.out.nxt.cell 6
      have n7 : v7.cell? ⟨nb, 7, none⟩ = some (.int .i64 0) := A.out.nxt.cell 7
      have n8 : v7.cell? ⟨nb, 8, none⟩ = some (.int .i64 0) := A.out.nxt.cell 8
      have n9 : v7.cell? ⟨nb, 9, none⟩ = some (.int .i64 0) := A.out.nxt.cell 9
      have r0 : v7.cell? ⟨rb, 0, none⟩ = some (.int .i64 0) := A.out.res.cell 0
      have r1 : v7.cell? ⟨rb, 1, none⟩ = some (.int .i64 0) := A.out.res.cell 1
      have r2 : v7.cell? ⟨rb, 2, none⟩ = some (.int .i64 0) := A.out.res.cell 2
      have r3 : v7.cell? ⟨rb, 3, none⟩ = some (.int .i64 0) := A.out.res.cell 3
      have r4 : v7.cell? ⟨rb, 4, none⟩ = some (.int .i64 0) := A.out.res.cell 4
      have r5 : v7.cell? ⟨rb, 5, none⟩ = some (.int .i64 0) := A.out.res.cell 5
      have r6 : v7.cell? ⟨rb, 6, none⟩ = some (.int .i64 0) := A.out.res.cell 6
      have r7 : v7.cell? ⟨rb, 7, none⟩ = some (.int .i64 0) := A.out.res.cell 7
      have r8 : v7.cell? ⟨rb, 8, none⟩ = some (.int .i64 0) := A.out.res.cell 8
      have r9 : v7.cell? ⟨rb, 9, none⟩ = some (.int .i64 0) := A.out.res.cell 9
      have gr0 := A.out.res.free 0
      have gr1 := A.out.res.free 1
      have gr2 := A.out.res.free 2
      have gr3 := A.out.res.free 3
      have gr4 := A.out.res.free 4
      have gr5 := A.out.res.free 5
      have gr6 := A.out.res.free 6
      have gr7 := A.out.res.free 7
      have gr8 := A.out.res.free 8
      have gr9 := A.out.res.free 9
      have HE2 := A.out.e2
      go_wp2_with fail
      have hgr := grown_one (grown_one (grown_one (grown_one (grown_one (grown_one (grown_one (grown_one (grown_one (setCell_grown v7 rb 0 (.int .i64 (fadd p s.pc 1))) (setCell_grown _ rb 1 (.int .i64 s.fp))) (setCell_grown _ rb 2 (.int .i64 s.ap))) (setCell_grown _ rb 3 (.int .i64 s.rv))) (setCell_grown _ rb 4 (.int .i64 0))) (setCell_grown _ rb 5 (.int .i64 0))) (setCell_grown _ rb 6 (.int .i64 0))) (setCell_grown _ rb 7 (.int .i64 0))) (setCell_grown _ rb 8 (.int .i64 0))) (setCell_grown _ rb 9 (.int .i64 0))
      have hbl := ((((((((((A.out.res).set 0 (.int .i64 (fadd p s.pc 1))).set 1 (.int .i64 s.fp)).set 2 (.int .i64 s.ap)).set 3 (.int .i64 s.rv)).set 4 (.int .i64 0)).set 5 (.int .i64 0)).set 6 (.int .i64 0)).set 7 (.int .i64 0)).set 8 (.int .i64 0)).set 9 (.int .i64 0)
      obtain ⟨m1, m2⟩ := do_fin H.out A.out.r1 A.out.r2 HZ1.out hgr
      have M1 := Lib.hid m1; have MK := Lib.hid (KK.out.dk.lowg KK.out.hr hgr); clear m1 m2 hgr H A HE2 KK
      clear n0 n1 n2 n3 n4 n5 n6 n7 n8 n9 r0 r1 r2 r3 r4 r5 r6 r7 r8 r9 gr0 gr1 gr2 gr3 gr4 gr5 gr6 gr7 gr8 gr9
      refine bodyPost_ret (v := .agg #[.int .i64 (fadd p s.pc 1), .int .i64 s.fp, .int .i64 s.ap, .int .i64 s.rv, .int .i64 0, .int .i64 0, .int .i64 0, .int .i64 0, .int .i64 0, .int .i64 0]) (res_do hbl _ rfl) rfl ?_
      exact ⟨(((Ds.mk s 0).look (fadd p s.fp xa)).tell p (fadd p (fadd p s.ap 2) xb) ((Ds.mk s 0).lookV (fadd p s.fp xa))), cv7, (fadd p s.pc 1), s.fp, s.ap, s.rv, rfl, M1.out, MK.out, Nat.le_trans K2.out.acc (by omega), Nat.le_trans K2.out.mem (by omega), fun h => absurd (show (13 : Int) = 0 from h) (by decide), fun _ => same_13 HO.out xa xb xc⟩
end
end Go.Proofs.YtainhfnanamobaaGreatDoor
