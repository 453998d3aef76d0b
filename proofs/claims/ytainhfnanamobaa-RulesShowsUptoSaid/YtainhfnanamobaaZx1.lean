/- RulesBroken: the document's side: what a rule is asked of. RulesBroken: the document's side: a cell of an instruction; what a register becomes. RulesBroken: the document's side: a cell of an instruction. RulesBroken: the document's side: what else an instruction does; which is next. RulesBroken: the document's side: which instruction is next. RulesBroken: the document's side: what is summed up of an instruction. RulesBroken: the document's side: a sum over all instructions; the order of two pairs. RulesBroken: the document's side: the rules of the first and the last row. RulesBroken: the document's side: a rule: those of the instructions' own columns. RulesBroken: the document's side: a rule: the fifth behind the instructions' (the pattern for its like). RulesBroken: the document's side: a rule: the sixth, and those of the first and the last row. RulesBroken: the document's side: a rule: those of cells, of registers, of orders. RulesBroken: the document's side: a rule: the sum of all s; the number of the next one. RulesBroken: the document's side: what any rule says. RulesBroken: of which rows a rule is: both sides. RulesBroken: two cells of a block of the call's own; what Broken tells, plain. RulesBroken: the document's side: the first rule that does not hold: rows of another shape. -/
import Derived.Test.YtainhfnanamobaaK2
import Derived.Test.YtainhfnanamobaaIq
import Derived.Test.YtainhfnanamobaaFa
import Derived.BigQuiet
section
namespace Go.Att
open Go.RowKit
/-- What rules are asked of lies in a block. -/
structure WAt (w : World) (b : Nat) (p sz out : Int) (cd : List In4) (lv rv nv : Value) (r n : List Int) : Prop where
  c0 : w.cell? ⟨b, 0, none⟩ = some (.int .i64 p)
  c1 : w.cell? ⟨b, 1, none⟩ = some (.int .i64 sz)
  c2 : w.cell? ⟨b, 2, none⟩ = some lv
  c3 : w.cell? ⟨b, 3, none⟩ = some (.int .i64 out)
  c4 : w.cell? ⟨b, 4, none⟩ = some rv
  c5 : w.cell? ⟨b, 5, none⟩ = some nv
  code : Inqs w lv cd
  row : Ints w rv r
  next : Ints w nv n
  lr : r.length = 20 + cd.length
  ln : n.length = 20 + cd.length
  two : 2 ≤ p
  hi : p ≤ 2147483647
theorem WAt.ext {w w' : World} {b : Nat} {p sz out : Int} {cd : List In4} {lv rv nv : Value} {r n : List Int} (h : WAt w b p sz out cd lv rv nv r n) (hx : Ext w w') : WAt w' b p sz out cd lv rv nv r n :=
  ⟨hx.cell h.c0, hx.cell h.c1, hx.cell h.c2, hx.cell h.c3, hx.cell h.c4, hx.cell h.c5, h.code.ext hx, h.row.ext hx, h.next.ext hx, h.lr, h.ln, h.two, h.hi⟩
end Go.Att
namespace Go.Proofs.Ytainhfnanamobaa
open Go.RowKit Go.Att
section
variable {w : World} {q : Nat} {p sz out : Int} {cd : List In4} {lv rv nv : Value} {r n : List Int}
end
end Go.Proofs.Ytainhfnanamobaa
end
section
namespace Go.Proofs.Ytainhfnanamobaa
open Go.RowKit Go.Att
section
variable {w : World} {q : Nat} {p sz out : Int} {cd : List In4} {lv rv nv : Value} {r n : List Int}
/-- What the register numbered g becomes. -/
def regK (p : Int) (r : List Int) (g : Nat) (k : Nat) (x : In4) : Int := if g = 0 then fpK p r k x else if g = 1 then apK p r k x else rvK r k x
end
end Go.Proofs.Ytainhfnanamobaa
end
section
namespace Go.Proofs.Ytainhfnanamobaa
open Go.RowKit Go.Att
section
variable {w : World} {q : Nat} {p sz out : Int} {cd : List In4} {lv rv nv : Value} {r n : List Int}
end
end Go.Proofs.Ytainhfnanamobaa
end
section
namespace Go.Proofs.Ytainhfnanamobaa
open Go.RowKit Go.Att
section
variable {w : World} {q : Nat} {p sz out : Int} {cd : List In4} {lv rv nv : Value} {r n : List Int}
end
end Go.Proofs.Ytainhfnanamobaa
end
section
namespace Go.Proofs.Ytainhfnanamobaa
open Go.RowKit Go.Att
section
variable {w : World} {q : Nat} {p sz out : Int} {cd : List In4} {lv rv nv : Value} {r n : List Int}
end
end Go.Proofs.Ytainhfnanamobaa
end
section
namespace Go.Att
/-- What is summed up of an instruction, for a kind of rule. -/
def ofD (p : Int) (r : List Int) (kind : Nat) (k : Nat) (x : In4) : Int :=
  if kind < 3 then cellD p r kind k x else if kind = 3 then doesK p r k x else if kind = 4 then moreK p r k x else if kind = 5 then goesD p r k x
  else if kind < 9 then Go.Proofs.Ytainhfnanamobaa.regK p r (kind - 6) k x else haltK k x
end Go.Att
namespace Go.Proofs.Ytainhfnanamobaa
open Go.RowKit Go.Att
section
variable {w : World} {q : Nat} {p sz out : Int} {cd : List In4} {lv rv nv : Value} {r n : List Int}
end
end Go.Proofs.Ytainhfnanamobaa
end
section
namespace Go.Proofs.Ytainhfnanamobaa
open Go.RowKit Go.Att
section
variable {w : World} {q : Nat} {p sz out : Int} {cd : List In4} {lv rv nv : Value} {r n : List Int}
end
end Go.Proofs.Ytainhfnanamobaa
end
section
namespace Go.Proofs.Ytainhfnanamobaa
open Go.RowKit Go.Att
section
variable {w : World} {q : Nat} {p sz out : Int} {cd : List In4} {lv rv nv : Value} {r n : List Int}
end
end Go.Proofs.Ytainhfnanamobaa
end
section
namespace Go.Proofs.Ytainhfnanamobaa
open Go.RowKit Go.Att
section
variable {w : World} {q : Nat} {p sz out : Int} {cd : List In4} {lv rv nv : Value} {r n : List Int}
end
end Go.Proofs.Ytainhfnanamobaa
end
section
namespace Go.Proofs.Ytainhfnanamobaa
open Go.RowKit Go.Att
section
variable {w : World} {q : Nat} {p sz out : Int} {cd : List In4} {lv rv nv : Value} {r n : List Int}
end
end Go.Proofs.Ytainhfnanamobaa
end
section
namespace Go.Proofs.Ytainhfnanamobaa
open Go.RowKit Go.Att
section
variable {w : World} {q : Nat} {p sz out : Int} {cd : List In4} {lv rv nv : Value} {r n : List Int}
end
end Go.Proofs.Ytainhfnanamobaa
end
section
namespace Go.Proofs.Ytainhfnanamobaa
open Go.RowKit Go.Att
section
variable {w : World} {q : Nat} {p sz out : Int} {cd : List In4} {lv rv nv : Value} {r n : List Int}
end
end Go.Proofs.Ytainhfnanamobaa
end
section
namespace Go.Proofs.Ytainhfnanamobaa
open Go.RowKit Go.Att
section
variable {w : World} {q : Nat} {p sz out : Int} {cd : List In4} {lv rv nv : Value} {r n : List Int}
end
end Go.Proofs.Ytainhfnanamobaa
end
section
namespace Go.Proofs.Ytainhfnanamobaa
open Go.RowKit Go.Att
section
variable {w : World} {q : Nat} {p sz out : Int} {cd : List In4} {lv rv nv : Value} {r n : List Int}
end
end Go.Proofs.Ytainhfnanamobaa
end
section
namespace Go.Proofs.Ytainhfnanamobaa
open Go.RowKit Go.Att
set_option maxHeartbeats 1000000 in
theorem pof_any (l k : Nat) (w : World) (hl : l ≤ 1048576) (hk : k < l + 26) : Calls Try.prog 22 #[.int .i64 k, .int .i64 l] w fun e w' => e = .returned (.int .i64 (kindB l k)) ∧ w = w' := by
  have hall : k < l + 12 ∨ (¬ k < l + 12 ∧ k < l + 18) ∨ (¬ k < l + 12 ∧ ¬ k < l + 18 ∧ k < l + 24) ∨ (¬ k < l + 12 ∧ ¬ k < l + 18 ∧ ¬ k < l + 24) := by omega
  rcases hall with h | ⟨h, h2⟩ | ⟨h, h2, h3⟩ | ⟨h, h2, h3⟩
  all_goals
    go_enter Try.func22, Try.ntmps22
    go_wp2_with fail
    go_ret
    refine ⟨ret_int ?_, rfl⟩
    simp [kindB, *]
set_option maxHeartbeats 1000000 in
theorem speaks_any (kd i N : Nat) (ki : Int) (w : World) (hi : i < N) (hN : N ≤ 1048576) (hk : (kd = 0 ∧ ki = 0) ∨ (kd = 1 ∧ ki = 1) ∨ (kd = 2 ∧ ki = 2) ∨ (kd = 3 ∧ ki = 3)) : Calls Try.prog 21 #[.int .i64 ki, .int .i64 i, .int .i64 N] w fun e w' => e = .returned (.bool (speakB N kd i)) ∧ w = w' := by
  have ha : i = 0 ∨ 0 < i := by omega
  have hb : i + 1 = N ∨ i + 1 < N := by omega
  rcases hk with ⟨rfl, rfl⟩ | ⟨rfl, rfl⟩ | ⟨rfl, rfl⟩ | ⟨rfl, rfl⟩ <;> rcases ha with rfl | ha <;> rcases hb with rfl | hb
  all_goals
    go_enter Try.func21, Try.ntmps21
    go_wp2_with fail
    go_ret
    refine ⟨ret_bool ?_, rfl⟩
    simp only [speakB]
    first | rfl | (have hh : ((i : Int) == 0) = (i == 0) := (by rw [Bool.eq_iff_iff, beq_iff_eq, beq_iff_eq]; omega); rw [hh]; rfl) | (simp; done) | (have hh : (((i : Int) + 1 == N)) = false := (beq_eq_false_iff_ne.2 (by omega)); simp [hh]; done) | (rw [Bool.eq_iff_iff]; simp; omega) | (rw [Bool.eq_iff_iff]; simp only [beq_iff_eq, decide_eq_true_eq]; omega)
end Go.Proofs.Ytainhfnanamobaa
end
section
namespace Go.Att
open Go.RowKit
/-- Two cells of a block of the call's own. -/
structure C2 (w : World) (b : Nat) (x y : Value) : Prop where
  c0 : w.cell? ⟨b, 0, none⟩ = some x
  c1 : w.cell? ⟨b, 1, none⟩ = some y
  f0 : w.frozen? ⟨b, 0, none⟩ = false
  f1 : w.frozen? ⟨b, 1, none⟩ = false
section
variable {w w' : World} {b : Nat} {x y : Value}
theorem C2.new (w : World) (x y : Value) (t : TypeId) : C2 (w.alloc (Obj.cells #[x, y] t)) w.heap.size x y :=
  ⟨by rw [cell_new]; rfl, by rw [cell_new]; rfl, by simp, by simp⟩
theorem C2.ext (h : C2 w b x y) (hx : Ext w w') : C2 w' b x y := by
  have hb : b < w.heap.size := World.block_lt_of_cell? w ⟨b, 0, none⟩ h.c0
  exact ⟨hx.cell h.c0, hx.cell h.c1, (Below.frozen hx (p := ⟨b, 0, none⟩) hb).trans h.f0, (Below.frozen hx (p := ⟨b, 1, none⟩) hb).trans h.f1⟩
theorem C2.set0 (h : C2 w b x y) (v : Value) : C2 (w.setCell ⟨b, 0, none⟩ v) b v y :=
  ⟨World.cell?_setCell_same _ _ _ h.c0, by rw [World.cell?_setCell_other _ _ _ _ (by simp)]; exact h.c1, by rw [World.frozen?_setCell]; exact h.f0, by rw [World.frozen?_setCell]; exact h.f1⟩
theorem C2.set1 (h : C2 w b x y) (v : Value) : C2 (w.setCell ⟨b, 1, none⟩ v) b x v :=
  ⟨by rw [World.cell?_setCell_other _ _ _ _ (by simp)]; exact h.c0, World.cell?_setCell_same _ _ _ h.c1, by rw [World.frozen?_setCell]; exact h.f0, by rw [World.frozen?_setCell]; exact h.f1⟩
theorem C2.other (h : C2 w b x y) {b' k : Nat} (hne : b ≠ b') (v : Value) : C2 (w.setCell ⟨b', k, none⟩ v) b x y := by
  have hb := (setCell_grown w b' k v).block b (World.block_lt_of_cell? w ⟨b, 0, none⟩ h.c0) (fun e => hne (Option.some.inj e))
  exact ⟨by rw [World.cell?_of_block (a := ⟨b, 0, none⟩) hb]; exact h.c0, by rw [World.cell?_of_block (a := ⟨b, 1, none⟩) hb]; exact h.c1,
    by rw [World.frozen?_of_block (a := ⟨b, 0, none⟩) hb]; exact h.f0, by rw [World.frozen?_of_block (a := ⟨b, 1, none⟩) hb]; exact h.f1⟩
end
/-- Two boxes of two cells each. -/
theorem bx_new (w : World) (x y z u : Value) (t1 t2 : TypeId) : C2 ((w.alloc (Obj.cells #[x, y] t1)).alloc (Obj.cells #[z, u] t2)) w.heap.size x y ∧ C2 ((w.alloc (Obj.cells #[x, y] t1)).alloc (Obj.cells #[z, u] t2)) (w.heap.size + 1) z u ∧ Ext w ((w.alloc (Obj.cells #[x, y] t1)).alloc (Obj.cells #[z, u] t2)) := by
  refine ⟨(C2.new w x y t1).ext (Ext.alloc _ _), ?_, (Ext.alloc _ _).trans (Ext.alloc _ _)⟩
  have := C2.new (w.alloc (Obj.cells #[x, y] t1)) z u t2
  rwa [show (w.alloc (Obj.cells #[x, y] t1)).heap.size = w.heap.size + 1 by simp] at this
/-- Both cells anew. -/
theorem C2.both {w w0 : World} {b : Nat} {x y : Value} (h : C2 w b x y) (hx : Ext w0 w) (hb : w0.heap.size ≤ b) (u v : Value) : C2 ((w.setCell ⟨b, 0, none⟩ u).setCell ⟨b, 1, none⟩ v) b u v ∧ Ext w0 ((w.setCell ⟨b, 0, none⟩ u).setCell ⟨b, 1, none⟩ v) :=
  ⟨(h.set0 u).set1 v, Below.setCell (Below.setCell hx hb u) hb v⟩
/-- What Broken tells. -/
def BrkGot (p sz out : Int) (cd : List In4) (L : List (List Int)) (e : Ending) : Prop :=
  (shapeB cd L = true ∧ e = .returned (.agg #[.int .i64 (-2), .int .i64 0])) ∨
  (shapeB cd L = false ∧ ∃ o, FstBad (badB p sz out cd L) (fun k i => k < cd.length + 26 ∧ i < L.length) o ∧ e = .returned (.agg #[.int .i64 (toldB o).1, .int .i64 (toldB o).2]))
theorem BrkGot.one {p sz out : Int} {cd : List In4} {L : List (List Int)} {a b : Ending} (h1 : BrkGot p sz out cd L a) (h2 : BrkGot p sz out cd L b) : a = b := by
  rcases h1 with ⟨a1, rfl⟩ | ⟨a1, o, ho, rfl⟩ <;> rcases h2 with ⟨b1, rfl⟩ | ⟨b1, o', ho', rfl⟩
  · rfl
  · rw [a1] at b1; cases b1
  · rw [a1] at b1; cases b1
  · rw [ho.one ho']
theorem shapeB_full {cd : List In4} {L : List (List Int)} (h1 : 0 < L.length) (h2 : 0 < cd.length) (h : ∀ i, i < L.length → (nthL L i).length = 20 + cd.length) : shapeB cd L = false := by
  unfold shapeB
  rw [Bool.or_eq_false_iff, Bool.or_eq_false_iff]
  refine ⟨⟨by rw [beq_eq_false_iff_ne]; omega, by rw [beq_eq_false_iff_ne]; omega⟩, ?_⟩
  rw [List.any_eq_false]
  intro x hx
  obtain ⟨i, hi, rfl⟩ := List.mem_iff_getElem.1 hx
  have := h i hi
  simp only [nthL, List.getD_eq_getElem?_getD, List.getElem?_eq_getElem hi, Option.getD_some] at this
  simp [this]
theorem shapeB_row {cd : List In4} {L : List (List Int)} {i : Nat} (hi : i < L.length) (h : (nthL L i).length ≠ 20 + cd.length) : shapeB cd L = true := by
  unfold shapeB
  rw [Bool.or_eq_true]
  right
  rw [List.any_eq_true]
  refine ⟨L[i], List.getElem_mem hi, ?_⟩
  simp only [nthL, List.getD_eq_getElem?_getD, List.getElem?_eq_getElem hi, Option.getD_some] at h
  simpa using h
theorem shapeB_nil {cd : List In4} {L : List (List Int)} (h : L.length = 0 ∨ cd.length = 0) : shapeB cd L = true := by
  unfold shapeB
  rcases h with h | h <;> simp [h]
end Go.Att
end
section
namespace Go.Proofs.Ytainhfnanamobaa
open Go.RowKit Go.Att
theorem slRowsK : SlT Try.prog 28 46 1 24 (.slice none 0 0) := .mk' Try.underlying28 (by kernel_rfl) (by decide)
end Go.Proofs.Ytainhfnanamobaa
end
