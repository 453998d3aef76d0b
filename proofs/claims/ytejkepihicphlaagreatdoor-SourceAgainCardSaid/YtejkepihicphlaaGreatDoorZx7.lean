/- Instructions: how a slice of them reads. Code as text, the document's side: whether an instruction can be written, outright; plain bounds; a slice that is made, as a block known whole. -/
import Derived.Test.YtejkepihicphlaaGreatDoorVc
import Derived.Test.YtejkepihicphlaaGreatDoorProg
import Derived.StillTailTactics
import Derived.Test.YtejkepihicphlaaGreatDoorFa
import Derived.Test.YtejkepihicphlaaGreatDoorM1
import Derived.Test.YtejkepihicphlaaGreatDoorZx6
section
/-! Instructions: how a slice of them reads. -/
namespace Go.Att
open Go.RowKit
def flatQ (l : List In4) : List Value := l.flatMap fun c => [.int .i64 c.op, .int .i64 c.a, .int .i64 c.b, .int .i64 c.c]
theorem flatQ_get (l : List In4) (i : Nat) (h : i < l.length) : (flatQ l)[i * 4]? = some (.int .i64 l[i].op) ∧ (flatQ l)[i * 4 + 1]? = some (.int .i64 l[i].a) ∧ (flatQ l)[i * 4 + 2]? = some (.int .i64 l[i].b) ∧ (flatQ l)[i * 4 + 3]? = some (.int .i64 l[i].c) := by
  induction l generalizing i with
  | nil => simp at h
  | cons c l ih =>
    cases i with
    | zero => simp [flatQ]
    | succ i =>
      have := ih i (by simpa using h)
      have e : (i + 1) * 4 = i * 4 + 4 := by omega
      simp only [flatQ, List.flatMap_cons, List.cons_append, List.nil_append, e] at *
      exact this
theorem nthI_eq {l : List In4} {i : Nat} (h : i < l.length) : nthI l i = l[i] := by simp [nthI, h]
def Inqs (w : World) (v : Value) (l : List In4) : Prop := Sl w 4 v l.length (flatQ l)
section
variable {P : Program} {w w' : World} {v : Value} {l : List In4}
theorem Inqs.ext (h : Inqs w v l) (hx : Ext w w') : Inqs w' v l := Sl.ext h hx
theorem Inqs.len (h : Inqs w v l) : l.length ≤ 9223372036854775807 := by have := Sl.len h; unfold maxLen at this; omega
theorem Inqs.run_len (h : Inqs w v l) {t e bytes : Nat} {z : Value} (ht : SlT P t e 4 bytes z) (ty : TypeId) (w' : World) :
    (Builtin.len_ #[t] ty #[v]).run P w' = .ok (.int .i64 l.length) w' := Sl.run_len h ht ty w'
theorem Inqs.run_index (h : Inqs w v l) {t e bytes : Nat} {z : Value} (ht : SlT P t e 4 bytes z) (i : Nat) (hi : i < l.length) (w' : World) :
    (Instr.indexAt t v (.int .i64 i)).run P w' = .ok (.pointer (some (elt v i 4))) w' := Sl.run_index h ht i (by omega) (by omega) w'
theorem Inqs.c0 (h : Inqs w v l) (i : Nat) (hi : i < l.length) : w.cell? (elt v i 4) = some (.int .i64 (nthI l i).op) := by
  have := Sl.cell h i 0 hi (by omega)
  simp only [Addr.add, if_true, Nat.add_zero] at this
  rw [this, (flatQ_get l i hi).1, nthI_eq hi]
theorem Inqs.c1 (h : Inqs w v l) (i : Nat) (hi : i < l.length) : w.cell? ⟨(elt v i 4).block, (elt v i 4).off + 1, none⟩ = some (.int .i64 (nthI l i).a) := by
  have := Sl.cell h i 1 hi (by omega)
  simp only [Addr.add] at this
  rw [if_neg (by omega)] at this
  rw [this, (flatQ_get l i hi).2.1, nthI_eq hi]
theorem Inqs.c2 (h : Inqs w v l) (i : Nat) (hi : i < l.length) : w.cell? ⟨(elt v i 4).block, (elt v i 4).off + 2, none⟩ = some (.int .i64 (nthI l i).b) := by
  have := Sl.cell h i 2 hi (by omega)
  simp only [Addr.add] at this
  rw [if_neg (by omega)] at this
  rw [this, (flatQ_get l i hi).2.2.1, nthI_eq hi]
theorem Inqs.c3 (h : Inqs w v l) (i : Nat) (hi : i < l.length) : w.cell? ⟨(elt v i 4).block, (elt v i 4).off + 3, none⟩ = some (.int .i64 (nthI l i).c) := by
  have := Sl.cell h i 3 hi (by omega)
  simp only [Addr.add] at this
  rw [if_neg (by omega)] at this
  rw [this, (flatQ_get l i hi).2.2.2, nthI_eq hi]
end
end Go.Att
namespace Go.Proofs.YtejkepihicphlaaGreatDoor
open Go.RowKit Go.Att
end Go.Proofs.YtejkepihicphlaaGreatDoor
end
section
namespace Go.Att
open Go.RowKit
section
variable {P : Program} {ops : Array Oper} {rest : List Oper} {o : Oper} {a : Act} {Q : Exit → Act → World → Prop}
end
end Go.Att
namespace Go.Proofs.YtejkepihicphlaaGreatDoor
open Go.RowKit Go.Att
theorem Strs.grown {w w' : World} {v : Value} {L : List (List UInt8)} {b : Nat} (h : Strs w v L) (hg : w.grownBy w' (some b)) (hn : ∀ k, v.ownBlock = some k → k ≠ b) : Strs w' v L := Sl.grown h hg (fun k hk e => hn k hk (Option.some.inj e))
end Go.Proofs.YtejkepihicphlaaGreatDoor
end
