/- The document's machine: its calls whatever its state; a step. -/
import Derived.Test.YtnmjaddhbecopaaGreatDoorMe
import Derived.Test.YtnmjaddhbecopaaGreatDoorM5
namespace Go.Att
open Go.RowKit
/-- A step's numbers where nothing was looked at. -/
def ncs (pc fp ap rv : Int) : List Value := [.int .i64 pc, .int .i64 fp, .int .i64 ap, .int .i64 rv, .int .i64 0, .int .i64 0, .int .i64 0, .int .i64 0, .int .i64 0, .int .i64 0]
/-- The blocks of a step's own. -/
structure Aux (ti ts : TypeId) (w : World) (b : Nat) (cv : Value) (zb rb nb : Nat) (x : In4) (pc fp ap rv : Int) : Prop where
  ins : BlkOf w zb (insCs x) ti
  res : BlkOf w rb (ncs 0 0 0 0) ts
  nxt : BlkOf w nb (ncs pc fp ap rv) ts
  z1 : zb ≠ b
  r1 : rb ≠ b
  n1 : nb ≠ b
  z2 : cv.ownBlock ≠ some zb
  r2 : cv.ownBlock ≠ some rb
  n2 : cv.ownBlock ≠ some nb
  e1 : zb ≠ nb
  e2 : rb ≠ nb
section
variable {ti ts : TypeId} {w w' : World} {b : Nat} {cv cv' : Value} {zb rb nb : Nat} {x : In4} {pc fp ap rv : Int}
theorem Aux.dk (h : Aux ti ts w b cv zb rb nb x pc fp ap rv) (k : DK b w w' cv cv') : Aux ti ts w' b cv' zb rb nb x pc fp ap rv :=
  ⟨k.blk h.ins h.z1 h.z2, k.blk h.res h.r1 h.r2, k.blk h.nxt h.n1 h.n2, h.z1, h.r1, h.n1, (k zb h.ins.lt h.z1 h.z2).2.2, (k rb h.res.lt h.r1 h.r2).2.2, (k nb h.nxt.lt h.n1 h.n2).2.2, h.e1, h.e2⟩
theorem Aux.ext (h : Aux ti ts w b cv zb rb nb x pc fp ap rv) (hx : Ext w w') : Aux ti ts w' b cv zb rb nb x pc fp ap rv := h.dk (DK.ext hx)
/-- A register of the step to come was written. -/
theorem Aux.put (h : Aux ti ts w b cv zb rb nb x pc fp ap rv) (i : Nat) (v : Value) {pc' fp' ap' rv' : Int} (e : (ncs pc fp ap rv).set i v = ncs pc' fp' ap' rv') : Aux ti ts (w.setCell ⟨nb, i, none⟩ v) b cv zb rb nb x pc' fp' ap' rv' :=
  ⟨h.ins.grown (setCell_grown _ _ _ _) (fun k => h.e1 (Option.some.inj k)), h.res.grown (setCell_grown _ _ _ _) (fun k => h.e2 (Option.some.inj k)), by rw [← e]; exact h.nxt.set i v, h.z1, h.r1, h.n1, h.z2, h.r2, h.n2, h.e1, h.e2⟩
end
/-- What else is there stays; the step's own blocks are new. -/
structure DKn (b : Nat) (w W : World) (cv cv' : Value) (rb nb : Nat) : Prop where
  dk : DK b w W cv cv'
  hr : w.heap.size ≤ rb
  hn : w.heap.size ≤ nb
section
variable {b : Nat} {w W W' : World} {cv cv' cv'' : Value} {rb nb : Nat}
theorem DKn.next (h : DKn b w W cv cv' rb nb) (k : DK b W W' cv' cv'') : DKn b w W' cv cv'' rb nb := ⟨h.dk.trans k, h.hr, h.hn⟩
theorem DK.lowg (h : DK b w W cv cv') {r : Nat} (hr : w.heap.size ≤ r) (hg : W.grownBy W' (some r)) : DK b w W' cv cv' := fun q h1 h2 h3 => by
  obtain ⟨a1, a2, a3⟩ := h q h1 h2 h3
  exact ⟨(hg.block q a2 (fun e => by have := Option.some.inj e; omega)).trans a1, Nat.lt_of_lt_of_le a2 hg.size, a3⟩
theorem DKn.put (h : DKn b w W cv cv' rb nb) (i : Nat) (v : Value) : DKn b w (W.setCell ⟨nb, i, none⟩ v) cv cv' rb nb := ⟨h.dk.lowg h.hn (setCell_grown _ _ _ _), h.hr, h.hn⟩
end
theorem dtell_pc (p : Int) (d : Ds) (i x : Int) : (d.tell p i x).s.pc = d.s.pc := by
  unfold Ds.tell
  split
  · rfl
  · split <;> rfl
end Go.Att
namespace Go.Proofs.YtnmjaddhbecopaaGreatDoor
open Go.RowKit Go.Att
attribute [local go_sem ↓] Go.wp_at_zero Go.wp_at_succ
section
variable {w0 w w' : World} {b : Nat} {p : Int} {d : Ds} {cv : Value}
end
end Go.Proofs.YtnmjaddhbecopaaGreatDoor
