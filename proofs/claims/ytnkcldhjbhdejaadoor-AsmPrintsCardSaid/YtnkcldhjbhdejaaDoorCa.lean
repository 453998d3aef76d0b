/- Circuits: gates as triples, layers as slices of slices of them; how wide a layer is. -/
import Derived.Test.YtnkcldhjbhdejaaDoorVc
import Derived.Test.YtnkcldhjbhdejaaDoorProg
import Derived.StillTailTactics
import Derived.Test.YtnkcldhjbhdejaaDoorFa
/-! Circuits: gates as triples, layers as slices of slices of them; how wide a layer is. -/
namespace Go.Att
open Go.RowKit
abbrev Tri := Int × Int × Int
def flatT (l : List Tri) : List Value := l.flatMap fun c => [.int .i64 c.1, .int .i64 c.2.1, .int .i64 c.2.2]
theorem flatT_length (l : List Tri) : (flatT l).length = l.length * 3 := by
  induction l with
  | nil => rfl
  | cons c l ih => simp only [flatT, List.flatMap_cons, List.length_append, List.length_cons, List.length_nil] at *; omega
theorem flatT_get (l : List Tri) (i : Nat) (h : i < l.length) : (flatT l)[i * 3]? = some (.int .i64 l[i].1) ∧ (flatT l)[i * 3 + 1]? = some (.int .i64 l[i].2.1) ∧ (flatT l)[i * 3 + 2]? = some (.int .i64 l[i].2.2) := by
  induction l generalizing i with
  | nil => simp at h
  | cons c l ih =>
    cases i with
    | zero => simp [flatT]
    | succ i =>
      have := ih i (by simpa using h)
      have e : (i + 1) * 3 = i * 3 + 3 := by omega
      simp only [flatT, List.flatMap_cons, List.cons_append, List.nil_append, e] at *
      exact this
def nthT (l : List Tri) (i : Nat) : Tri := l.getD i (0, 0, 0)
theorem nthT_eq {l : List Tri} {i : Nat} (h : i < l.length) : nthT l i = l[i] := by simp [nthT, h]
theorem nthT_mem {l : List Tri} {i : Nat} (h : i < l.length) : nthT l i ∈ l := by rw [nthT_eq h]; exact List.getElem_mem h
/-- A slice of triples. -/
def Trs (w : World) (v : Value) (l : List Tri) : Prop := Sl w 3 v l.length (flatT l)
section
variable {P : Program} {w w' : World} {v : Value} {l : List Tri}
theorem Trs.ext (h : Trs w v l) (hx : Ext w w') : Trs w' v l := Sl.ext h hx
theorem Trs.len (h : Trs w v l) : l.length ≤ 9223372036854775807 := by have := Sl.len h; unfold maxLen at this; omega
theorem Trs.run_len (h : Trs w v l) {t e bytes : Nat} {z : Value} (ht : SlT P t e 3 bytes z) (ty : TypeId) (w' : World) :
    (Builtin.len_ #[t] ty #[v]).run P w' = .ok (.int .i64 l.length) w' := Sl.run_len h ht ty w'
theorem Trs.run_index (h : Trs w v l) {t e bytes : Nat} {z : Value} (ht : SlT P t e 3 bytes z) (i : Nat) (hi : i < l.length) (w' : World) :
    (Instr.indexAt t v (.int .i64 i)).run P w' = .ok (.pointer (some (elt v i 3))) w' := Sl.run_index h ht i (by omega) (by omega) w'
theorem Trs.c0 (h : Trs w v l) (i : Nat) (hi : i < l.length) : w.cell? (elt v i 3) = some (.int .i64 (nthT l i).1) := by
  have := Sl.cell h i 0 hi (by omega)
  simp only [Addr.add, if_true, Nat.add_zero] at this
  rw [this, (flatT_get l i hi).1, nthT_eq hi]
theorem Trs.c1 (h : Trs w v l) (i : Nat) (hi : i < l.length) : w.cell? ⟨(elt v i 3).block, (elt v i 3).off + 1, none⟩ = some (.int .i64 (nthT l i).2.1) := by
  have := Sl.cell h i 1 hi (by omega)
  simp only [Addr.add] at this
  rw [if_neg (by omega)] at this
  rw [this, (flatT_get l i hi).2.1, nthT_eq hi]
theorem Trs.c2 (h : Trs w v l) (i : Nat) (hi : i < l.length) : w.cell? ⟨(elt v i 3).block, (elt v i 3).off + 2, none⟩ = some (.int .i64 (nthT l i).2.2) := by
  have := Sl.cell h i 2 hi (by omega)
  simp only [Addr.add] at this
  rw [if_neg (by omega)] at this
  rw [this, (flatT_get l i hi).2.2, nthT_eq hi]
theorem Trs.shape (h : Trs w v l) : ∃ ao cap, v = .slice ao l.length cap := by
  obtain ⟨ao, cap, h1, _⟩ := h; exact ⟨ao, cap, h1⟩
end
def nthY (l : List (List Tri)) (i : Nat) : List Tri := l.getD i []
theorem nthY_eq {l : List (List Tri)} {i : Nat} (h : i < l.length) : nthY l i = l[i] := by simp [nthY, h]
theorem nthY_mem {l : List (List Tri)} {i : Nat} (h : i < l.length) : nthY l i ∈ l := by rw [nthY_eq h]; exact List.getElem_mem h
/-- A slice of slices of triples. -/
structure LysAt (w : World) (v : Value) (l : List (List Tri)) (R : Nat → Value) : Prop where
  sl : Sl w 1 v l.length ((List.range l.length).map R)
  row : ∀ i, i < l.length → Trs w (R i) (nthY l i)
section
variable {P : Program} {w w' : World} {v : Value} {l : List (List Tri)} {R : Nat → Value}
theorem LysAt.ext (h : LysAt w v l R) (hx : Ext w w') : LysAt w' v l R := ⟨h.sl.ext hx, fun i hi => (h.row i hi).ext hx⟩
theorem LysAt.run_len (h : LysAt w v l R) {t e bytes : Nat} {z : Value} (ht : SlT P t e 1 bytes z) (ty : TypeId) (w' : World) : (Builtin.len_ #[t] ty #[v]).run P w' = .ok (.int .i64 l.length) w' := Sl.run_len h.sl ht ty w'
theorem LysAt.run_index (h : LysAt w v l R) {t e bytes : Nat} {z : Value} (ht : SlT P t e 1 bytes z) (i : Nat) (hi : i < l.length) (w' : World) :
    (Instr.indexAt t v (.int .i64 i)).run P w' = .ok (.pointer (some (elt v i 1))) w' := Sl.run_index h.sl ht i (by omega) (by omega) w'
theorem LysAt.cell (h : LysAt w v l R) (i : Nat) (hi : i < l.length) : w.cell? (elt v i 1) = some (R i) := by
  have := Sl.cell h.sl i 0 hi (by omega)
  simp [Addr.add] at this
  rw [this]; simp [hi]
theorem LysAt.len (h : LysAt w v l R) : l.length ≤ 9223372036854775807 := by have := Sl.len h.sl; unfold maxLen at this; omega
theorem LysAt.shape (h : LysAt w v l R) : ∃ ao cap, v = .slice ao l.length cap := by
  obtain ⟨ao, cap, h1, _⟩ := h.sl; exact ⟨ao, cap, h1⟩
end

/-! How many times 2 a number is. -/
def wideUp : Nat → Int → Int
  | 0, _ => -1
  | k + 1, n => if wideUp k n < 0 then (if (2 : Int) ^ k = n then k else -1) else wideUp k n
/-- 6 at most; -1: it is none. -/
def wideOf (n : Int) : Int := if n = 1 then 0 else if n = 2 then 1 else if n = 4 then 2 else if n = 8 then 3 else if n = 16 then 4 else if n = 32 then 5 else if n = 64 then 6 else -1
theorem wideOf_bd (n : Int) : -1 ≤ wideOf n ∧ wideOf n ≤ 6 := by unfold wideOf; repeat (split <;> try omega)
theorem wideOf_pow {n : Int} (h : 0 ≤ wideOf n) : n = 2 ^ (wideOf n).toNat := by
  unfold wideOf at *
  repeat (split at h; (· subst_vars; rfl))
  omega
theorem wideOf_of (k : Nat) (h : k ≤ 6) : wideOf (2 ^ k) = k := by
  have : k = 0 ∨ k = 1 ∨ k = 2 ∨ k = 3 ∨ k = 4 ∨ k = 5 ∨ k = 6 := by omega
  rcases this with rfl | rfl | rfl | rfl | rfl | rfl | rfl <;> rfl
theorem wideOf_no {n : Int} (h : ∀ k : Nat, k ≤ 6 → (2 : Int) ^ k ≠ n) : wideOf n = -1 := by
  apply Classical.byContradiction
  intro hc
  have h1 := wideOf_bd n
  have h2 := wideOf_pow (n := n) (by omega)
  exact h (wideOf n).toNat (by omega) h2.symm
theorem wideOf_le {n : Int} (h : 0 ≤ wideOf n) : 1 ≤ n ∧ n ≤ 64 := by
  unfold wideOf at h
  repeat (split at h; (· omega))
  omega
end Go.Att
namespace Go.Proofs.YtnkcldhjbhdejaaDoor
open Go.RowKit Go.Att
end Go.Proofs.YtnkcldhjbhdejaaDoor
/-! What is wrong with a circuit, the document's side: contracts. -/
namespace Go.Att
open Go.RowKit
/-- The sizes are right. -/
def cirSizes (wd : Int) (Ls : List (List Tri)) : Prop := 0 ≤ wd ∧ wd ≤ 6 ∧ 1 ≤ Ls.length ∧ Ls.length ≤ 8 ∧ ∀ i, i < Ls.length → 0 ≤ wideOf (nthY Ls i).length
/-- How many there are beneath a layer. -/
def below (wd : Int) (Ls : List (List Tri)) (i : Nat) : Int := if i = 0 then 2 ^ wd.toNat else (nthY Ls (i - 1)).length
/-- .. how many variables these have. -/
def beneath (wd : Int) (Ls : List (List Tri)) (i : Nat) : Int := if i = 0 then wd else wideOf (nthY Ls (i - 1)).length
def gateOk (b : Int) (g : Tri) : Prop := 0 ≤ g.1 ∧ g.1 ≤ 1 ∧ 0 ≤ g.2.1 ∧ g.2.1 < b ∧ 0 ≤ g.2.2 ∧ g.2.2 < b
def cirGates (wd : Int) (Ls : List (List Tri)) : Prop := ∀ i, i < Ls.length → ∀ k, k < (nthY Ls i).length → gateOk (below wd Ls i) (nthT (nthY Ls i) k)
open Classical in
noncomputable def cirErr (wd : Int) (Ls : List (List Tri)) : Int := if cirSizes wd Ls then (if cirGates wd Ls then 0 else 3) else 2
theorem cirErr_two {wd : Int} {Ls : List (List Tri)} (h : ¬ cirSizes wd Ls) : cirErr wd Ls = 2 := by unfold cirErr; rw [if_neg h]
theorem cirErr_three {wd : Int} {Ls : List (List Tri)} (h : cirSizes wd Ls) (h2 : ¬ cirGates wd Ls) : cirErr wd Ls = 3 := by unfold cirErr; rw [if_pos h, if_neg h2]
theorem cirErr_zero {wd : Int} {Ls : List (List Tri)} (h : cirSizes wd Ls) (h2 : cirGates wd Ls) : cirErr wd Ls = 0 := by unfold cirErr; rw [if_pos h, if_pos h2]
theorem cirErr_ok {wd : Int} {Ls : List (List Tri)} (h : cirErr wd Ls = 0) : cirSizes wd Ls ∧ cirGates wd Ls := by
  apply Classical.byContradiction
  intro hc
  by_cases h1 : cirSizes wd Ls
  · rw [cirErr_three h1 (fun h2 => hc ⟨h1, h2⟩)] at h; omega
  · rw [cirErr_two h1] at h; omega
theorem beneath_bd {wd : Int} {Ls : List (List Tri)} (h : cirSizes wd Ls) {i : Nat} (hi : i < Ls.length) : 0 ≤ beneath wd Ls i ∧ beneath wd Ls i ≤ 6 := by
  unfold beneath
  split
  · exact ⟨h.1, h.2.1⟩
  · exact ⟨h.2.2.2.2 _ (by omega), (wideOf_bd _).2⟩
theorem below_pow {wd : Int} {Ls : List (List Tri)} (h : cirSizes wd Ls) {i : Nat} (hi : i < Ls.length) : below wd Ls i = 2 ^ (beneath wd Ls i).toNat := by
  unfold below beneath
  split
  · rfl
  · exact wideOf_pow (h.2.2.2.2 _ (by omega))
theorem gates_not {wd : Int} {Ls : List (List Tri)} {i k : Nat} (hi : i < Ls.length) (hk : k < (nthY Ls i).length) (h : ¬ gateOk (below wd Ls i) (nthT (nthY Ls i) k)) : ¬ cirGates wd Ls := fun hc => h (hc i hi k hk)
end Go.Att
namespace Go.Proofs.YtnkcldhjbhdejaaDoor
open Go.RowKit Go.Att

end Go.Proofs.YtnkcldhjbhdejaaDoor
