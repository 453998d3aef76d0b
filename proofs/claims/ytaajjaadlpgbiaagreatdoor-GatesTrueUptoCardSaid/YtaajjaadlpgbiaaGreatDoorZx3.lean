/- Circuits: gates as triples, layers as slices of slices of them; how wide a layer is. The one listed variable: errors.errorType: what the condition gives; a world that meets it. (begun from the seat's starting text UptoLemmas) What the bound on the arguments' bulk gives. What the bound on the bulk gives for lists of lists. -/
import Derived.Test.YtaajjaadlpgbiaaGreatDoorVc
import Derived.Test.YtaajjaadlpgbiaaGreatDoorProg
import Derived.StillTailTactics
import Derived.Test.YtaajjaadlpgbiaaGreatDoorZx1
import Derived.Test.YtaajjaadlpgbiaaGreatDoorEr
import Derived.Test.YtaajjaadlpgbiaaGreatDoorRows
import Derived.Test.YtaajjaadlpgbiaaGreatDoorZx7
import Derived.LaidHandle
import Derived.Deep.DeepHandedRow
section
/-! Circuits: gates as triples, layers as slices of slices of them; how wide a layer is. -/
namespace Go.Att
open Go.RowKit
abbrev Tri := Int × Int × Int
def flatT (l : List Tri) : List Value := l.flatMap fun c => [.int .i64 c.1, .int .i64 c.2.1, .int .i64 c.2.2]
theorem flatT_length (l : List Tri) : (flatT l).length = l.length * 3 := by
  induction l with
  | nil => rfl
  | cons c l ih => simp only [flatT, List.flatMap_cons, List.length_append, List.length_cons, List.length_nil] at *; omega
theorem flatT_get (l : List Tri) (i : Nat) (h : i < l.length) : (flatT l)[i * 3]? = some (.int .i64 l[i].1) ∧ (flatT l)[i * 3 + 1]? = some (.int .i64 l[i].2.1) ∧ (flatT l)[i * 3 + 2]? = some (.int .i64 l[i].2.2) := by
  induction l generalizing i with
  | nil => simp at h
  | cons c l ih =>
    cases i with
    | zero => simp [flatT]
    | succ i =>
      have := ih i (by simpa using h)
      have e : (i + 1) * 3 = i * 3 + 3 := by omega
      simp only [flatT, List.flatMap_cons, List.cons_append, List.nil_append, e] at *
      exact this
def nthT (l : List Tri) (i : Nat) : Tri := l.getD i (0, 0, 0)
theorem nthT_eq {l : List Tri} {i : Nat} (h : i < l.length) : nthT l i = l[i] := by simp [nthT, h]
theorem nthT_mem {l : List Tri} {i : Nat} (h : i < l.length) : nthT l i ∈ l := by rw [nthT_eq h]; exact List.getElem_mem h
/-- A slice of triples. -/
def Trs (w : World) (v : Value) (l : List Tri) : Prop := Sl w 3 v l.length (flatT l)
section
variable {P : Program} {w w' : World} {v : Value} {l : List Tri}
theorem Trs.ext (h : Trs w v l) (hx : Ext w w') : Trs w' v l := Sl.ext h hx
theorem Trs.len (h : Trs w v l) : l.length ≤ 9223372036854775807 := by have := Sl.len h; unfold maxLen at this; omega
theorem Trs.run_len (h : Trs w v l) {t e bytes : Nat} {z : Value} (ht : SlT P t e 3 bytes z) (ty : TypeId) (w' : World) :
    (Builtin.len_ #[t] ty #[v]).run P w' = .ok (.int .i64 l.length) w' := Sl.run_len h ht ty w'
theorem Trs.run_index (h : Trs w v l) {t e bytes : Nat} {z : Value} (ht : SlT P t e 3 bytes z) (i : Nat) (hi : i < l.length) (w' : World) :
    (Instr.indexAt t v (.int .i64 i)).run P w' = .ok (.pointer (some (elt v i 3))) w' := Sl.run_index h ht i (by omega) (by omega) w'
theorem Trs.c0 (h : Trs w v l) (i : Nat) (hi : i < l.length) : w.cell? (elt v i 3) = some (.int .i64 (nthT l i).1) := by
  have := Sl.cell h i 0 hi (by omega)
  simp only [Addr.add, if_true, Nat.add_zero] at this
  rw [this, (flatT_get l i hi).1, nthT_eq hi]
theorem Trs.c1 (h : Trs w v l) (i : Nat) (hi : i < l.length) : w.cell? ⟨(elt v i 3).block, (elt v i 3).off + 1, none⟩ = some (.int .i64 (nthT l i).2.1) := by
  have := Sl.cell h i 1 hi (by omega)
  simp only [Addr.add] at this
  rw [if_neg (by omega)] at this
  rw [this, (flatT_get l i hi).2.1, nthT_eq hi]
theorem Trs.c2 (h : Trs w v l) (i : Nat) (hi : i < l.length) : w.cell? ⟨(elt v i 3).block, (elt v i 3).off + 2, none⟩ = some (.int .i64 (nthT l i).2.2) := by
  have := Sl.cell h i 2 hi (by omega)
  simp only [Addr.add] at this
  rw [if_neg (by omega)] at this
  rw [this, (flatT_get l i hi).2.2, nthT_eq hi]
theorem Trs.shape (h : Trs w v l) : ∃ ao cap, v = .slice ao l.length cap := by
  obtain ⟨ao, cap, h1, _⟩ := h; exact ⟨ao, cap, h1⟩
end
def nthY (l : List (List Tri)) (i : Nat) : List Tri := l.getD i []
theorem nthY_eq {l : List (List Tri)} {i : Nat} (h : i < l.length) : nthY l i = l[i] := by simp [nthY, h]
theorem nthY_mem {l : List (List Tri)} {i : Nat} (h : i < l.length) : nthY l i ∈ l := by rw [nthY_eq h]; exact List.getElem_mem h
/-- A slice of slices of triples. -/
structure LysAt (w : World) (v : Value) (l : List (List Tri)) (R : Nat → Value) : Prop where
  sl : Sl w 1 v l.length ((List.range l.length).map R)
  row : ∀ i, i < l.length → Trs w (R i) (nthY l i)
section
variable {P : Program} {w w' : World} {v : Value} {l : List (List Tri)} {R : Nat → Value}
theorem LysAt.ext (h : LysAt w v l R) (hx : Ext w w') : LysAt w' v l R := ⟨h.sl.ext hx, fun i hi => (h.row i hi).ext hx⟩
theorem LysAt.run_len (h : LysAt w v l R) {t e bytes : Nat} {z : Value} (ht : SlT P t e 1 bytes z) (ty : TypeId) (w' : World) : (Builtin.len_ #[t] ty #[v]).run P w' = .ok (.int .i64 l.length) w' := Sl.run_len h.sl ht ty w'
theorem LysAt.run_index (h : LysAt w v l R) {t e bytes : Nat} {z : Value} (ht : SlT P t e 1 bytes z) (i : Nat) (hi : i < l.length) (w' : World) :
    (Instr.indexAt t v (.int .i64 i)).run P w' = .ok (.pointer (some (elt v i 1))) w' := Sl.run_index h.sl ht i (by omega) (by omega) w'
theorem LysAt.cell (h : LysAt w v l R) (i : Nat) (hi : i < l.length) : w.cell? (elt v i 1) = some (R i) := by
  have := Sl.cell h.sl i 0 hi (by omega)
  simp [Addr.add] at this
  rw [this]; simp [hi]
theorem LysAt.len (h : LysAt w v l R) : l.length ≤ 9223372036854775807 := by have := Sl.len h.sl; unfold maxLen at this; omega
theorem LysAt.shape (h : LysAt w v l R) : ∃ ao cap, v = .slice ao l.length cap := by
  obtain ⟨ao, cap, h1, _⟩ := h.sl; exact ⟨ao, cap, h1⟩
end

/-! How many times 2 a number is. -/
def wideUp : Nat → Int → Int
  | 0, _ => -1
  | k + 1, n => if wideUp k n < 0 then (if (2 : Int) ^ k = n then k else -1) else wideUp k n
/-- 6 at most; -1: it is none. -/
def wideOf (n : Int) : Int := if n = 1 then 0 else if n = 2 then 1 else if n = 4 then 2 else if n = 8 then 3 else if n = 16 then 4 else if n = 32 then 5 else if n = 64 then 6 else -1
theorem wideOf_bd (n : Int) : -1 ≤ wideOf n ∧ wideOf n ≤ 6 := by unfold wideOf; repeat (split <;> try omega)
theorem wideOf_pow {n : Int} (h : 0 ≤ wideOf n) : n = 2 ^ (wideOf n).toNat := by
  unfold wideOf at *
  repeat (split at h; (· subst_vars; rfl))
  omega
theorem wideOf_of (k : Nat) (h : k ≤ 6) : wideOf (2 ^ k) = k := by
  have : k = 0 ∨ k = 1 ∨ k = 2 ∨ k = 3 ∨ k = 4 ∨ k = 5 ∨ k = 6 := by omega
  rcases this with rfl | rfl | rfl | rfl | rfl | rfl | rfl <;> rfl
theorem wideOf_no {n : Int} (h : ∀ k : Nat, k ≤ 6 → (2 : Int) ^ k ≠ n) : wideOf n = -1 := by
  apply Classical.byContradiction
  intro hc
  have h1 := wideOf_bd n
  have h2 := wideOf_pow (n := n) (by omega)
  exact h (wideOf n).toNat (by omega) h2.symm
theorem wideOf_le {n : Int} (h : 0 ≤ wideOf n) : 1 ≤ n ∧ n ≤ 64 := by
  unfold wideOf at h
  repeat (split at h; (· omega))
  omega
end Go.Att
namespace Go.Proofs.YtaajjaadlpgbiaaGreatDoor
open Go.RowKit Go.Att
theorem slGates : SlT Tryz.prog 62 61 3 24 (.agg #[.int .i64 0, .int .i64 0, .int .i64 0]) := .mk' Tryz.underlying62 (by kernel_rfl) (by decide)
theorem slLayers : SlT Tryz.prog 46 62 1 24 (.slice none 0 0) := .mk' Tryz.underlying46 (by kernel_rfl) (by decide)

set_option maxHeartbeats 1000000 in
theorem rwide_any (n : Int) (w : World) : Calls Tryz.prog 105 #[.int .i64 n] w fun e w' => e = .returned (.int .i64 (wideOf n)) ∧ w = w' := by
  go_enter Tryz.func105, Tryz.ntmps105
  go_wp2
  go_loop [3, 4] (fun x3 x4 => ∃ k : Nat, k ≤ 7 ∧ x3 = .int .i64 ((2 : Int) ^ k) ∧ x4 = .int .i64 k ∧ Hid (∀ j : Nat, j < k → (2 : Int) ^ j ≠ n)) (fun _ x4 => 7 - (intOf x4).toNat)
  case atStart => exact ⟨0, by omega, rfl, rfl, Lib.hid (fun j hj => by omega)⟩
  case round =>
    obtain ⟨k, hk, rfl, rfl, H⟩ := hrel
    by_cases hk7 : k ≤ 6
    · have hp : (2 : Int) ^ (k + 1) = 2 ^ k * 2 := Int.pow_succ _ _
      have hb : (1 : Int) ≤ 2 ^ k ∧ (2 : Int) ^ k ≤ 64 := by
        have : k = 0 ∨ k = 1 ∨ k = 2 ∨ k = 3 ∨ k = 4 ∨ k = 5 ∨ k = 6 := by omega
        rcases this with rfl | rfl | rfl | rfl | rfl | rfl | rfl <;> decide
      have hw := wideOf_of k hk7
      have HW := Lib.hid hw; have HP := Lib.hid hp; clear hw hp
      by_cases he : (2 : Int) ^ k = n
      · have HE := Lib.hid he
        have hbb : ((2 : Int) ^ k == n) = true := by rw [beq_iff_eq]; exact he
        clear he
        go_wp2
        go_ret
        exact ⟨ret_int (by rw [← HE.out, HW.out]), rfl⟩
      · have HE := Lib.hid he
        have hbb : ((2 : Int) ^ k == n) = false := by rw [beq_eq_false_iff_ne]; exact he
        clear he
        generalize hN : (2 : Int) ^ k = N at hb hbb
        go_wp2
        go_round
        case rel => exact ⟨k + 1, by omega, by rw [HP.out, hN], by go_num, Lib.hid (fun j hj => by
          rcases Nat.lt_or_eq_of_le (show j ≤ k by omega) with h | rfl
          · exact H.out j h
          · exact HE.out)⟩
        case measure => simp [intOf]; omega
    · obtain rfl : k = 7 := by omega
      have HW := Lib.hid (wideOf_no (n := n) (fun k hk => H.out k (by omega)))
      go_wp2
      go_ret
      exact ⟨ret_int HW.out.symm, rfl⟩

end Go.Proofs.YtaajjaadlpgbiaaGreatDoor
/-! What is wrong with a circuit, the document's side: contracts. -/
namespace Go.Att
open Go.RowKit
/-- The sizes are right. -/
def cirSizes (wd : Int) (Ls : List (List Tri)) : Prop := 0 ≤ wd ∧ wd ≤ 6 ∧ 1 ≤ Ls.length ∧ Ls.length ≤ 8 ∧ ∀ i, i < Ls.length → 0 ≤ wideOf (nthY Ls i).length
/-- How many there are beneath a layer. -/
def below (wd : Int) (Ls : List (List Tri)) (i : Nat) : Int := if i = 0 then 2 ^ wd.toNat else (nthY Ls (i - 1)).length
/-- .. how many variables these have. -/
def beneath (wd : Int) (Ls : List (List Tri)) (i : Nat) : Int := if i = 0 then wd else wideOf (nthY Ls (i - 1)).length
def gateOk (b : Int) (g : Tri) : Prop := 0 ≤ g.1 ∧ g.1 ≤ 1 ∧ 0 ≤ g.2.1 ∧ g.2.1 < b ∧ 0 ≤ g.2.2 ∧ g.2.2 < b
def cirGates (wd : Int) (Ls : List (List Tri)) : Prop := ∀ i, i < Ls.length → ∀ k, k < (nthY Ls i).length → gateOk (below wd Ls i) (nthT (nthY Ls i) k)
open Classical in
noncomputable def cirErr (wd : Int) (Ls : List (List Tri)) : Int := if cirSizes wd Ls then (if cirGates wd Ls then 0 else 3) else 2
theorem cirErr_two {wd : Int} {Ls : List (List Tri)} (h : ¬ cirSizes wd Ls) : cirErr wd Ls = 2 := by unfold cirErr; rw [if_neg h]
theorem cirErr_three {wd : Int} {Ls : List (List Tri)} (h : cirSizes wd Ls) (h2 : ¬ cirGates wd Ls) : cirErr wd Ls = 3 := by unfold cirErr; rw [if_pos h, if_neg h2]
theorem cirErr_zero {wd : Int} {Ls : List (List Tri)} (h : cirSizes wd Ls) (h2 : cirGates wd Ls) : cirErr wd Ls = 0 := by unfold cirErr; rw [if_pos h, if_pos h2]
theorem cirErr_ok {wd : Int} {Ls : List (List Tri)} (h : cirErr wd Ls = 0) : cirSizes wd Ls ∧ cirGates wd Ls := by
  apply Classical.byContradiction
  intro hc
  by_cases h1 : cirSizes wd Ls
  · rw [cirErr_three h1 (fun h2 => hc ⟨h1, h2⟩)] at h; omega
  · rw [cirErr_two h1] at h; omega
theorem beneath_bd {wd : Int} {Ls : List (List Tri)} (h : cirSizes wd Ls) {i : Nat} (hi : i < Ls.length) : 0 ≤ beneath wd Ls i ∧ beneath wd Ls i ≤ 6 := by
  unfold beneath
  split
  · exact ⟨h.1, h.2.1⟩
  · exact ⟨h.2.2.2.2 _ (by omega), (wideOf_bd _).2⟩
theorem below_pow {wd : Int} {Ls : List (List Tri)} (h : cirSizes wd Ls) {i : Nat} (hi : i < Ls.length) : below wd Ls i = 2 ^ (beneath wd Ls i).toNat := by
  unfold below beneath
  split
  · rfl
  · exact wideOf_pow (h.2.2.2.2 _ (by omega))
theorem gates_not {wd : Int} {Ls : List (List Tri)} {i k : Nat} (hi : i < Ls.length) (hk : k < (nthY Ls i).length) (h : ¬ gateOk (below wd Ls i) (nthT (nthY Ls i) k)) : ¬ cirGates wd Ls := fun hc => h (hc i hi k hk)
end Go.Att
namespace Go.Proofs.YtaajjaadlpgbiaaGreatDoor
open Go.RowKit Go.Att

set_option maxRecDepth 100000 in
set_option maxHeartbeats 1000000 in
theorem rbeneath_any (wd : Int) (lv : Value) (Ls : List (List Tri)) (R : Nat → Value) (i : Nat) (w : World) (hv : LysAt w lv Ls R) (hi : i < Ls.length) :
    Calls Tryz.prog 53 #[.agg #[.int .i64 wd, lv], .int .i64 i] w fun e w' => e = .returned (.int .i64 (beneath wd Ls i)) ∧ Ext w w' := by
  obtain ⟨ao, cap, rfl⟩ := hv.shape
  have hlen := hv.len
  have HV := Lib.hid hv
  by_cases h0 : i = 0
  · subst h0
    clear hv
    go_enter Tryz.func53, Tryz.ntmps53
    go_wp2_with fail
    go_ret
    exact ⟨rfl, Ext.alloc _ _⟩
  · have hb : ((i : Int) == 0) = false := by rw [beq_eq_false_iff_ne]; omega
    have hix := hv.run_index (P := Tryz.prog) slLayers (i - 1) (by omega)
    rw [show ((i - 1 : Nat) : Int) = (i : Int) - 1 by omega] at hix
    have hc := hv.cell (i - 1) (by omega)
    have hc' := (Ext.alloc w (Obj.cells #[.int .i64 wd, .slice ao Ls.length cap] 48)).cell hc
    have hrow := hv.row (i - 1) (by omega)
    have hln := hrow.run_len (P := Tryz.prog) slGates
    have hrl := hrow.len
    have E := Lib.hid (show beneath wd Ls i = wideOf (nthY Ls (i - 1)).length by unfold beneath; rw [if_neg h0])
    clear hv hc hrow
    go_enter Tryz.func53, Tryz.ntmps53
    go_wp2_with (go_at_call 105; refine (rwide_any _ _).mono ?_; rintro e w2 ⟨rfl, rfl⟩)
    go_ret
    exact ⟨ret_int E.out.symm, Ext.alloc _ _⟩
end Go.Proofs.YtaajjaadlpgbiaaGreatDoor
end
section
namespace Go.Proofs.YtaajjaadlpgbiaaGreatDoor
open Go.ChangeShapes Go.WideShapes Go.RowKit Go.Att

theorem kOwn : ownKnob Tryz.prog.godebug = none := by kernel_rfl
theorem kEt : Tryz.prog.globalNamed "errors.errorType" = some 0 := by kernel_rfl
theorem kRt : (Tryz.prog.cutTypes.find? (·.1 == "internal/reflectlite.rtype")).map (·.2) = some 196 := by kernel_rfl
theorem kOneRow : ((List.range 251).filter fun t => Tryz.prog.rowNamed t [101, 114, 114, 111, 114]) = [31] := by kernel_rfl
theorem kSize : Tryz.prog.types.size = 251 := by kernel_rfl
theorem kLaidOut : laidOutB Tryz.prog = true := by kernel_rfl

/-- What the condition gives a walk: the variable's one cell. -/
theorem handle_of_laid {W : World} (h : laidMetH Tryz.prog [("errors.errorType", Rows.laid_errors_errorType)] W) : Hnd W := by
  have h' : laidMet Tryz.prog [] W ∧ handlesMet Tryz.prog [("errors.errorType", Rows.laid_errors_errorType)] W := h
  obtain ⟨name, u, ty, e1, e2, e3, e4, e5⟩ := h'.2 _ (List.mem_singleton.2 rfl)
  have en : name = [101, 114, 114, 111, 114] := (Option.some.inj e1).symm
  subst en
  obtain rfl := Option.some.inj (kRt.symm.trans e2)
  have hm : ty ∈ (List.range 251).filter fun t => Tryz.prog.rowNamed t [101, 114, 114, 111, 114] := List.mem_filter.2 ⟨List.mem_range.2 (by rw [← kSize]; exact e3), e4⟩
  rw [kOneRow] at hm
  obtain rfl := List.mem_singleton.1 hm
  have hh : typeHandle Tryz.prog 31 = .pointer (some ⟨1, 31, none⟩) := by kernel_rfl
  rw [hh] at e5
  unfold Hnd
  simpa using World.var?_cell kEt e5 0

/-- A world that meets the condition: the settled one, the variable's cell laid. -/
noncomputable def laidWorld (os : Os) : World :=
  let w0 := World.holding Tryz.prog os ⟨#[], #[], []⟩
  { w0 with heap := w0.heap.modify 0 fun
      | .cells _ t frozen => .cells #[.iface 196 (.agg #[.pointer (some ⟨1, 31, none⟩)])] t frozen
      | o => o }
theorem laidWorld_met (os : Os) (args : Array Value) : laidMetH Tryz.prog [("errors.errorType", Rows.laid_errors_errorType)] ((laidWorld os).forCall (fun _ _ => 0) ⟨#[], args, []⟩).memory :=
  laidMetH_of_parts (laidMet_nil _ _) (by kernel_rfl)
end Go.Proofs.YtaajjaadlpgbiaaGreatDoor
end
section
namespace Go.Proofs.YtaajjaadlpgbiaaGreatDoor.bulks

theorem one_le {H : Type} (d : DataW H) : 1 ≤ Rows.uptoBulk d := by
  cases d with
  | lit l => cases l <;> simp [Rows.uptoBulk]
  | nil => simp [Rows.uptoBulk]
  | ptr d => simp [Rows.uptoBulk]
  | slice elems spare => simp [Rows.uptoBulk]
  | agg parts => simp [Rows.uptoBulk]
  | iface t d => simp [Rows.uptoBulk]
  | map entries => simp [Rows.uptoBulk]
  | held h => simp [Rows.uptoBulk]

/-- a part's bulk is at most the whole's -/
theorem part_le {H : Type} {d : DataW H} {l : List (DataW H)} (h : d ∈ l) : Rows.uptoBulk d ≤ Rows.uptoBulkAll l := by
  induction l with
  | nil => cases h
  | cons x r ih =>
    simp only [Rows.uptoBulkAll]
    cases List.mem_cons.1 h with
    | inl e => subst e; omega
    | inr e => have := ih e; omega

theorem append {H : Type} (l r : List (DataW H)) : Rows.uptoBulkAll (l ++ r) = Rows.uptoBulkAll l + Rows.uptoBulkAll r := by
  induction l with
  | nil => simp [Rows.uptoBulkAll]
  | cons x l ih => simp only [List.cons_append, Rows.uptoBulkAll, ih]; omega

/-- so many values at the most -/
theorem length_le {H : Type} (l : List (DataW H)) : l.length ≤ Rows.uptoBulkAll l := by
  induction l with
  | nil => simp [Rows.uptoBulkAll]
  | cons x r ih => have := one_le x; simp only [Rows.uptoBulkAll, List.length_cons]; omega

/-- a slice's places, and what they hold -/
theorem slice_le {H : Type} (elems spare : List (DataW H)) : elems.length + spare.length + 1 ≤ Rows.uptoBulk (.slice elems spare) := by
  have h1 := length_le elems
  have h2 := length_le spare
  simp only [Rows.uptoBulk]
  omega
theorem slice_elems {H : Type} (elems spare : List (DataW H)) : Rows.uptoBulkAll elems + 1 ≤ Rows.uptoBulk (.slice elems spare) := by
  simp only [Rows.uptoBulk]
  omega

/-- a string's letters -/
theorem string_eq {H : Type} (bytes : List UInt8) : Rows.uptoBulk (DataW.lit (H := H) (.string bytes)) = bytes.length + 1 := by
  simp [Rows.uptoBulk]

/-- THE BOUND, as the builder hands it over ('hk') -/
theorem bound {H : Type} {l : List (DataW H)} (hk : Rows.uptoSmall H l = true) : Rows.uptoBulkAll l ≤ 1048576 := by
  simpa [Rows.uptoSmall] using hk

/-- ROOM: a slice of n elements of b bytes, grown by append: below the 2^48 bytes that append, make and a Builder bear. Here n up to 2^21, b up to 4,096: put your own numbers. -/
theorem room {n b : Nat} (hn : n ≤ 2097152) (hb : b ≤ 4096) : (n + n / 4 + 192) * b ≤ 281474976710656 := by
  have h : (n + n / 4 + 192) * b ≤ 2621632 * 4096 := Nat.mul_le_mul (by omega) hb
  omega

end Go.Proofs.YtaajjaadlpgbiaaGreatDoor.bulks
end
section
/-! What the bound on the bulk gives for lists of lists. -/
namespace Go.Proofs.YtaajjaadlpgbiaaGreatDoor.bulks
open Go.Att
theorem row_le {H : Type} {l : List Int} {d : DataW H} (h : RowD l d) : l.length ≤ Rows.uptoBulk d := by
  rcases h with rfl | ⟨es, sp, rfl, e⟩
  · exact Nat.zero_le _
  · have := slice_le es sp; omega
theorem rows_le {H : Type} {L : List (List Int)} {d : DataW H} (h : RowsD L d) : L.length ≤ Rows.uptoBulk d := by
  rcases h with rfl | ⟨es, sp, rfl, e, _⟩
  · exact Nat.zero_le _
  · have := slice_le es sp; omega
theorem rows_row_le {H : Type} {L : List (List Int)} {d : DataW H} (h : RowsD L d) {i : Nat} (hi : i < L.length) : (nthL L i).length ≤ Rows.uptoBulk d := by
  rcases h with rfl | ⟨es, sp, rfl, e, h2⟩
  · simp at hi
  · have h3 := row_le (h2 i (by omega))
    have h4 : Rows.uptoBulk es[i] ≤ Rows.uptoBulkAll es := part_le (List.getElem_mem _)
    have := slice_elems es sp
    omega
end Go.Proofs.YtaajjaadlpgbiaaGreatDoor.bulks
/-! How arguments read: circuits (a struct of a number and slices of slices of triples). -/
namespace Go.Att
open Go.RowKit Go.ChangeShapes Go.WideShapes Go.Deep
section
variable {H : Type} {enc : TypeId × Value → H} {P : Program} {w : World} {base : Nat} {spare : Nat → Bool} {held : Bool}
def TrD {H : Type} (l : List Tri) (d : DataW H) : Prop := l = [] ∨ ∃ es sp, d = .slice es sp ∧ es.length = l.length
def LysD {H : Type} (L : List (List Tri)) (d : DataW H) : Prop := L = [] ∨ ∃ es sp, d = .slice es sp ∧ es.length = L.length ∧ ∀ i (h : i < es.length), TrD (nthY L i) es[i]
theorem open_TrsF {fuel : Nat} {t e : TypeId} {f0 f1 f2 : Field} {v : Value} {d : DataW H} {p : List MemPlace} (ht : P.underlying t = some (.slice e)) (he : P.underlying e = some (.struct #[f0, f1, f2])) (ce : P.cellsOf e = 3)
    (o0 : f0.offset = 0) (o1 : f1.offset = 1) (o2 : f2.offset = 2) (c0 : P.cellsOf f0.type = 1) (c1 : P.cellsOf f1.type = 1) (c2 : P.cellsOf f2.type = 1)
    (u0 : P.underlying f0.type = some (.int .i64)) (u1 : P.underlying f1.type = some (.int .i64)) (u2 : P.underlying f2.type = some (.int .i64))
    (hf : DataW.trod enc P w base spare held fuel t [v] = some (d, p)) : ∃ l : List Tri, Trs w v l ∧ TrD l d := by
  rcases open_slice ht hf with ⟨h1, h2⟩ | ⟨a, len, cap, m, n, D, Pl, h1, hb, hl, hm, hmm, h6, hx⟩
  · simp at h1
    subst h1
    exact ⟨[], ⟨none, 0, rfl, by simp [flatT], Nat.le_refl _, Nat.zero_le _, fun i hi => by simp [flatT] at hi⟩, .inl rfl⟩
  · simp at h1 h6
    subst h1
    have hlm : len ≤ m := by rw [hmm]; split <;> omega
    have each : ∀ i, i < m → ∃ q : Tri, w.cell? (a.add (i * 3)) = some (.int .i64 q.1) ∧ w.cell? (a.add (i * 3 + 1)) = some (.int .i64 q.2.1) ∧ w.cell? (a.add (i * 3 + 2)) = some (.int .i64 q.2.2) := by
      intro i hi
      obtain ⟨cs', g1, g2⟩ := hx i hi
      rw [ce] at g1
      obtain ⟨_, hlen, hcell⟩ := World.cells?_some g1
      obtain ⟨xs, k, hk, hxy, _, hxl, hff⟩ := DataW.trod_struct he g2
      match xs, hxl, cs', hlen with
      | [y0, y1, y2], _, [v0, v1, v2], _ =>
        have g0 := hff 0 f0 rfl
        have g1 := hff 1 f1 rfl
        have g2 := hff 2 f2 rfl
        simp [o0, o1, o2, c0, c1, c2] at g0 g1 g2
        have e0 := hcell 0 (by omega)
        have e1 := hcell 1 (by omega)
        have e2 := hcell 2 (by omega)
        rw [add_add] at e0 e1 e2
        obtain ⟨x, hx0, _⟩ := DataW.trod_int u0 g0
        obtain ⟨y, hy0, _⟩ := DataW.trod_int u1 g1
        obtain ⟨z, hz0, _⟩ := DataW.trod_int u2 g2
        simp at hx0 hy0 hz0
        subst hx0 hy0 hz0
        exact ⟨(x, y, z), by simpa using e0, by simpa using e1, by simpa using e2⟩
    have choose : ∃ f : Nat → Tri, ∀ i, i < m → w.cell? (a.add (i * 3)) = some (.int .i64 (f i).1) ∧ w.cell? (a.add (i * 3 + 1)) = some (.int .i64 (f i).2.1) ∧ w.cell? (a.add (i * 3 + 2)) = some (.int .i64 (f i).2.2) := by
      refine ⟨fun i => if h : i < m then Classical.choose (each i h) else (0, 0, 0), fun i hi => ?_⟩
      have e : (if h : i < m then Classical.choose (each i h) else (0, 0, 0)) = Classical.choose (each i hi) := dif_pos hi
      simp only [e]; exact Classical.choose_spec (each i hi)
    obtain ⟨f, hf2⟩ := choose
    have hlenf : ((List.range len).map f).length = len := by simp
    refine ⟨(List.range len).map f, ⟨some a, cap, by simp, by rw [flatT_length], by simpa using hl, hm, fun i hi => ?_⟩, .inr ⟨_, _, h6.1, by simp⟩⟩
    rw [flatT_length, hlenf] at hi
    have hk : i / 3 < len := by omega
    obtain ⟨k0, k1, k2⟩ := hf2 (i / 3) (by omega)
    have hsp : a.spot = none := by
      have h0 := (hf2 0 (by omega)).1
      rw [Nat.zero_mul, Addr.add, if_pos rfl] at h0
      exact spot_none h0
    have hg := flatT_get ((List.range len).map f) (i / 3) (by simpa using hk)
    refine ⟨a.block, a.off, by rcases a with ⟨b, o, s⟩; simp at hsp; subst hsp; rfl, ?_⟩
    rw [addr_lit hsp] at k0 k1 k2
    have h3 : i % 3 = 0 ∨ i % 3 = 1 ∨ i % 3 = 2 := by omega
    rcases h3 with h3 | h3 | h3
    · have e2 : i / 3 * 3 = i := by omega
      rw [e2] at k0 hg
      rw [k0, ← List.getElem?_eq_getElem, hg.1]; simp
    · have e2 : i / 3 * 3 + 1 = i := by omega
      rw [e2] at k1 hg
      rw [k1, ← List.getElem?_eq_getElem, hg.2.1]; simp
    · have e2 : i / 3 * 3 + 2 = i := by omega
      rw [e2] at k2 hg
      rw [k2, ← List.getElem?_eq_getElem, hg.2.2]; simp
theorem open_LysF {fuel : Nat} {t e q : TypeId} {f0 f1 f2 : Field} {v : Value} {d : DataW H} {p : List MemPlace} (ht : P.underlying t = some (.slice e)) (he : P.underlying e = some (.slice q)) (hq : P.underlying q = some (.struct #[f0, f1, f2])) (ce : P.cellsOf e = 1) (cq : P.cellsOf q = 3)
    (o0 : f0.offset = 0) (o1 : f1.offset = 1) (o2 : f2.offset = 2) (c0 : P.cellsOf f0.type = 1) (c1 : P.cellsOf f1.type = 1) (c2 : P.cellsOf f2.type = 1)
    (u0 : P.underlying f0.type = some (.int .i64)) (u1 : P.underlying f1.type = some (.int .i64)) (u2 : P.underlying f2.type = some (.int .i64))
    (hf : DataW.trod enc P w base spare held fuel t [v] = some (d, p)) : ∃ (L : List (List Tri)) (R : Nat → Value), LysAt w v L R ∧ LysD L d := by
  rcases open_slice1 ht ce hf with ⟨h1, h2⟩ | ⟨a, len, cap, m, n, V, D, Pl, h1, h2, h3, h4, h5, h6, h7⟩
  · simp at h1
    subst h1
    exact ⟨[], fun _ => .bool false, ⟨⟨none, 0, rfl, by simp, Nat.le_refl _, Nat.zero_le _, fun i hi => by simp at hi⟩, fun i hi => by simp at hi⟩, .inl rfl⟩
  · simp at h1 h6
    subst h1
    have hlm : len ≤ m := by rw [h5]; split <;> omega
    have each : ∀ i, i < m → ∃ l : List Tri, Trs w (V i) l ∧ TrD l (D i) := fun i hi => open_TrsF he hq cq o0 o1 o2 c0 c1 c2 u0 u1 u2 (h7 i hi).2
    have choose : ∃ f : Nat → List Tri, ∀ i, i < m → Trs w (V i) (f i) ∧ TrD (f i) (D i) := by
      refine ⟨fun i => if h : i < m then Classical.choose (each i h) else [], fun i hi => ?_⟩
      have e : (if h : i < m then Classical.choose (each i h) else []) = Classical.choose (each i hi) := dif_pos hi
      simp only [e]; exact Classical.choose_spec (each i hi)
    obtain ⟨f, hf2⟩ := choose
    refine ⟨(List.range len).map f, V, ⟨⟨some a, cap, ?_, ?_, ?_, h4, fun i hi => ?_⟩, fun i hi => ?_⟩, .inr ⟨_, _, h6.1, by simp, fun i hi => ?_⟩⟩
    · simp
    · simp
    · simpa using h3
    · simp at hi
      have hsp : a.spot = none := spot_none (by have := (h7 0 (by omega)).1; rw [Addr.add, if_pos rfl] at this; exact this)
      refine ⟨a.block, a.off, by rcases a with ⟨b, o, s⟩; simp at hsp; subst hsp; rfl, ?_⟩
      have := (h7 i (by omega)).1
      rw [addr_lit hsp] at this
      rw [this]; simp
    · simp at hi
      rw [nthY_eq (by simpa using hi)]; simpa using (hf2 i (by omega)).1
    · simp at hi
      rw [nthY_eq (by simpa using hi)]; simpa using (hf2 i (by omega)).2
/-- A struct of a number and a slice. -/
theorem open_pair {t : TypeId} {g0 g1 : Field} {cs : Array Value} {d : DataW H} {p : List MemPlace} (ht : P.underlying t = some (.struct #[g0, g1])) (o0 : g0.offset = 0) (o1 : g1.offset = 1) (c0 : P.cellsOf g0.type = 1) (c1 : P.cellsOf g1.type = 1)
    (u0 : P.underlying g0.type = some (.int .i64)) (hs : cs.size = 2) (hv : (Value.agg cs).cells.toList = cs.toList) (h : DataW.Trod enc P w base spare held t (.agg cs) d p) :
    ∃ (n : Int) (sv : Value) (d0 d1 : DataW H) (p1 : List MemPlace) (fuel : Nat), cs = #[.int .i64 n, sv] ∧ d = .agg [d0, d1] ∧ DataW.trod enc P w base spare held fuel g1.type [sv] = some (d1, p1) := by
  obtain ⟨fuel, hf⟩ := h
  rw [hv] at hf
  obtain ⟨xs, k, hk, hxy, _, hxl, hff⟩ := DataW.trod_struct ht hf
  obtain ⟨a, b, rfl⟩ : ∃ a b, cs = #[a, b] := by
    rcases cs with ⟨l⟩
    match l, hs with
    | [a, b], _ => exact ⟨a, b, rfl⟩
  match xs, hxl with
  | [y0, y1], _ =>
    have e0 := hff 0 g0 rfl
    have e1 := hff 1 g1 rfl
    simp [o0, o1, c0, c1] at e0 e1
    obtain ⟨x, hx0, _⟩ := DataW.trod_int u0 e0
    simp at hx0
    subst hx0
    simp only [Prod.mk.injEq] at hxy
    exact ⟨x, b, y0.1, y1.1, y1.2, k, rfl, by simpa using hxy.1, e1⟩
theorem okWide_agg {t : TypeId} {fs : Array Field} {v : Value} {r : Reach} (ht : P.underlying t = some (.struct fs)) (h : Value.okWide P w r base t v) : ∃ cs, v = .agg cs ∧ cs.size = P.cellsOf t := by
  simp only [Value.okWide, ht] at h
  obtain ⟨cs, rfl, h2, _⟩ := h
  exact ⟨cs, rfl, h2⟩
end
end Go.Att
namespace Go.Proofs.YtaajjaadlpgbiaaGreatDoor.bulks
open Go.Att
theorem tr_le {H : Type} {l : List Tri} {d : DataW H} (h : TrD l d) : l.length ≤ Rows.uptoBulk d := by
  rcases h with rfl | ⟨es, sp, rfl, e⟩
  · exact Nat.zero_le _
  · have := slice_le es sp; omega
theorem lys_le {H : Type} {L : List (List Tri)} {d : DataW H} (h : LysD L d) : L.length ≤ Rows.uptoBulk d := by
  rcases h with rfl | ⟨es, sp, rfl, e, _⟩
  · exact Nat.zero_le _
  · have := slice_le es sp; omega
end Go.Proofs.YtaajjaadlpgbiaaGreatDoor.bulks
end
