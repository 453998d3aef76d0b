/- Circuits: gates as triples, layers as slices of slices of them; how wide a layer is. Words for worlds: a matrix of eight rows of eight numbers in a block of its own. No program in sight. Are two lists the same? Contract. (begun from the seat's starting text UptoLemmas) What the bound on the arguments' bulk gives. From a law's walk to its row: what a law leaves behind; how arguments read. No function in sight. What the bound on the bulk gives for lists of lists. The one listed variable: errors.errorType: what the condition gives; a world that meets it. -/
import Derived.Test.YtcpnidomdkaefaaGreatDoorVc
import Derived.Test.YtcpnidomdkaefaaGreatDoorProg
import Derived.StillTailTactics
import Derived.Test.YtcpnidomdkaefaaGreatDoorZx5
import Derived.Test.YtcpnidomdkaefaaGreatDoorRows
import Derived.ProofKit
import Derived.OpenShut
import Derived.Deep.SlicePairs
import Derived.Carry
import Derived.Deep.Slices
import Derived.Test.YtcpnidomdkaefaaGreatDoorZx15
import Derived.LaidHandle
import Derived.Deep.DeepHandedRow
section
/-! Circuits: gates as triples, layers as slices of slices of them; how wide a layer is. -/
namespace Go.Att
open Go.RowKit
abbrev Tri := Int × Int × Int
def flatT (l : List Tri) : List Value := l.flatMap fun c => [.int .i64 c.1, .int .i64 c.2.1, .int .i64 c.2.2]
theorem flatT_length (l : List Tri) : (flatT l).length = l.length * 3 := by
  induction l with
  | nil => rfl
  | cons c l ih => simp only [flatT, List.flatMap_cons, List.length_append, List.length_cons, List.length_nil] at *; omega
theorem flatT_get (l : List Tri) (i : Nat) (h : i < l.length) : (flatT l)[i * 3]? = some (.int .i64 l[i].1) ∧ (flatT l)[i * 3 + 1]? = some (.int .i64 l[i].2.1) ∧ (flatT l)[i * 3 + 2]? = some (.int .i64 l[i].2.2) := by
  induction l generalizing i with
  | nil => simp at h
  | cons c l ih =>
    cases i with
    | zero => simp [flatT]
    | succ i =>
      have := ih i (by simpa using h)
      have e : (i + 1) * 3 = i * 3 + 3 := by omega
      simp only [flatT, List.flatMap_cons, List.cons_append, List.nil_append, e] at *
      exact this
def nthT (l : List Tri) (i : Nat) : Tri := l.getD i (0, 0, 0)
theorem nthT_eq {l : List Tri} {i : Nat} (h : i < l.length) : nthT l i = l[i] := by simp [nthT, h]
theorem nthT_mem {l : List Tri} {i : Nat} (h : i < l.length) : nthT l i ∈ l := by rw [nthT_eq h]; exact List.getElem_mem h
/-- A slice of triples. -/
def Trs (w : World) (v : Value) (l : List Tri) : Prop := Sl w 3 v l.length (flatT l)
section
variable {P : Program} {w w' : World} {v : Value} {l : List Tri}
theorem Trs.ext (h : Trs w v l) (hx : Ext w w') : Trs w' v l := Sl.ext h hx
theorem Trs.len (h : Trs w v l) : l.length ≤ 9223372036854775807 := by have := Sl.len h; unfold maxLen at this; omega
theorem Trs.run_len (h : Trs w v l) {t e bytes : Nat} {z : Value} (ht : SlT P t e 3 bytes z) (ty : TypeId) (w' : World) :
    (Builtin.len_ #[t] ty #[v]).run P w' = .ok (.int .i64 l.length) w' := Sl.run_len h ht ty w'
theorem Trs.run_index (h : Trs w v l) {t e bytes : Nat} {z : Value} (ht : SlT P t e 3 bytes z) (i : Nat) (hi : i < l.length) (w' : World) :
    (Instr.indexAt t v (.int .i64 i)).run P w' = .ok (.pointer (some (elt v i 3))) w' := Sl.run_index h ht i (by omega) (by omega) w'
theorem Trs.c0 (h : Trs w v l) (i : Nat) (hi : i < l.length) : w.cell? (elt v i 3) = some (.int .i64 (nthT l i).1) := by
  have := Sl.cell h i 0 hi (by omega)
  simp only [Addr.add, if_true, Nat.add_zero] at this
  rw [this, (flatT_get l i hi).1, nthT_eq hi]
theorem Trs.c1 (h : Trs w v l) (i : Nat) (hi : i < l.length) : w.cell? ⟨(elt v i 3).block, (elt v i 3).off + 1, none⟩ = some (.int .i64 (nthT l i).2.1) := by
  have := Sl.cell h i 1 hi (by omega)
  simp only [Addr.add] at this
  rw [if_neg (by omega)] at this
  rw [this, (flatT_get l i hi).2.1, nthT_eq hi]
theorem Trs.c2 (h : Trs w v l) (i : Nat) (hi : i < l.length) : w.cell? ⟨(elt v i 3).block, (elt v i 3).off + 2, none⟩ = some (.int .i64 (nthT l i).2.2) := by
  have := Sl.cell h i 2 hi (by omega)
  simp only [Addr.add] at this
  rw [if_neg (by omega)] at this
  rw [this, (flatT_get l i hi).2.2, nthT_eq hi]
theorem Trs.shape (h : Trs w v l) : ∃ ao cap, v = .slice ao l.length cap := by
  obtain ⟨ao, cap, h1, _⟩ := h; exact ⟨ao, cap, h1⟩
end
def nthY (l : List (List Tri)) (i : Nat) : List Tri := l.getD i []
theorem nthY_eq {l : List (List Tri)} {i : Nat} (h : i < l.length) : nthY l i = l[i] := by simp [nthY, h]
theorem nthY_mem {l : List (List Tri)} {i : Nat} (h : i < l.length) : nthY l i ∈ l := by rw [nthY_eq h]; exact List.getElem_mem h
/-- A slice of slices of triples. -/
structure LysAt (w : World) (v : Value) (l : List (List Tri)) (R : Nat → Value) : Prop where
  sl : Sl w 1 v l.length ((List.range l.length).map R)
  row : ∀ i, i < l.length → Trs w (R i) (nthY l i)
section
variable {P : Program} {w w' : World} {v : Value} {l : List (List Tri)} {R : Nat → Value}
theorem LysAt.ext (h : LysAt w v l R) (hx : Ext w w') : LysAt w' v l R := ⟨h.sl.ext hx, fun i hi => (h.row i hi).ext hx⟩
theorem LysAt.run_len (h : LysAt w v l R) {t e bytes : Nat} {z : Value} (ht : SlT P t e 1 bytes z) (ty : TypeId) (w' : World) : (Builtin.len_ #[t] ty #[v]).run P w' = .ok (.int .i64 l.length) w' := Sl.run_len h.sl ht ty w'
theorem LysAt.run_index (h : LysAt w v l R) {t e bytes : Nat} {z : Value} (ht : SlT P t e 1 bytes z) (i : Nat) (hi : i < l.length) (w' : World) :
    (Instr.indexAt t v (.int .i64 i)).run P w' = .ok (.pointer (some (elt v i 1))) w' := Sl.run_index h.sl ht i (by omega) (by omega) w'
theorem LysAt.cell (h : LysAt w v l R) (i : Nat) (hi : i < l.length) : w.cell? (elt v i 1) = some (R i) := by
  have := Sl.cell h.sl i 0 hi (by omega)
  simp [Addr.add] at this
  rw [this]; simp [hi]
theorem LysAt.len (h : LysAt w v l R) : l.length ≤ 9223372036854775807 := by have := Sl.len h.sl; unfold maxLen at this; omega
theorem LysAt.shape (h : LysAt w v l R) : ∃ ao cap, v = .slice ao l.length cap := by
  obtain ⟨ao, cap, h1, _⟩ := h.sl; exact ⟨ao, cap, h1⟩
end

/-! How many times 2 a number is. -/
def wideUp : Nat → Int → Int
  | 0, _ => -1
  | k + 1, n => if wideUp k n < 0 then (if (2 : Int) ^ k = n then k else -1) else wideUp k n
/-- 6 at most; -1: it is none. -/
def wideOf (n : Int) : Int := if n = 1 then 0 else if n = 2 then 1 else if n = 4 then 2 else if n = 8 then 3 else if n = 16 then 4 else if n = 32 then 5 else if n = 64 then 6 else -1
theorem wideOf_bd (n : Int) : -1 ≤ wideOf n ∧ wideOf n ≤ 6 := by unfold wideOf; repeat (split <;> try omega)
theorem wideOf_pow {n : Int} (h : 0 ≤ wideOf n) : n = 2 ^ (wideOf n).toNat := by
  unfold wideOf at *
  repeat (split at h; (· subst_vars; rfl))
  omega
theorem wideOf_of (k : Nat) (h : k ≤ 6) : wideOf (2 ^ k) = k := by
  have : k = 0 ∨ k = 1 ∨ k = 2 ∨ k = 3 ∨ k = 4 ∨ k = 5 ∨ k = 6 := by omega
  rcases this with rfl | rfl | rfl | rfl | rfl | rfl | rfl <;> rfl
theorem wideOf_no {n : Int} (h : ∀ k : Nat, k ≤ 6 → (2 : Int) ^ k ≠ n) : wideOf n = -1 := by
  apply Classical.byContradiction
  intro hc
  have h1 := wideOf_bd n
  have h2 := wideOf_pow (n := n) (by omega)
  exact h (wideOf n).toNat (by omega) h2.symm
theorem wideOf_le {n : Int} (h : 0 ≤ wideOf n) : 1 ≤ n ∧ n ≤ 64 := by
  unfold wideOf at h
  repeat (split at h; (· omega))
  omega
end Go.Att
namespace Go.Proofs.YtcpnidomdkaefaaGreatDoor
open Go.RowKit Go.Att
end Go.Proofs.YtcpnidomdkaefaaGreatDoor
/-! What is wrong with a circuit, the document's side: contracts. -/
namespace Go.Att
open Go.RowKit
/-- The sizes are right. -/
def cirSizes (wd : Int) (Ls : List (List Tri)) : Prop := 0 ≤ wd ∧ wd ≤ 6 ∧ 1 ≤ Ls.length ∧ Ls.length ≤ 8 ∧ ∀ i, i < Ls.length → 0 ≤ wideOf (nthY Ls i).length
/-- How many there are beneath a layer. -/
def below (wd : Int) (Ls : List (List Tri)) (i : Nat) : Int := if i = 0 then 2 ^ wd.toNat else (nthY Ls (i - 1)).length
/-- .. how many variables these have. -/
def beneath (wd : Int) (Ls : List (List Tri)) (i : Nat) : Int := if i = 0 then wd else wideOf (nthY Ls (i - 1)).length
def gateOk (b : Int) (g : Tri) : Prop := 0 ≤ g.1 ∧ g.1 ≤ 1 ∧ 0 ≤ g.2.1 ∧ g.2.1 < b ∧ 0 ≤ g.2.2 ∧ g.2.2 < b
def cirGates (wd : Int) (Ls : List (List Tri)) : Prop := ∀ i, i < Ls.length → ∀ k, k < (nthY Ls i).length → gateOk (below wd Ls i) (nthT (nthY Ls i) k)
open Classical in
noncomputable def cirErr (wd : Int) (Ls : List (List Tri)) : Int := if cirSizes wd Ls then (if cirGates wd Ls then 0 else 3) else 2
theorem cirErr_two {wd : Int} {Ls : List (List Tri)} (h : ¬ cirSizes wd Ls) : cirErr wd Ls = 2 := by unfold cirErr; rw [if_neg h]
theorem cirErr_three {wd : Int} {Ls : List (List Tri)} (h : cirSizes wd Ls) (h2 : ¬ cirGates wd Ls) : cirErr wd Ls = 3 := by unfold cirErr; rw [if_pos h, if_neg h2]
theorem cirErr_zero {wd : Int} {Ls : List (List Tri)} (h : cirSizes wd Ls) (h2 : cirGates wd Ls) : cirErr wd Ls = 0 := by unfold cirErr; rw [if_pos h, if_pos h2]
theorem cirErr_ok {wd : Int} {Ls : List (List Tri)} (h : cirErr wd Ls = 0) : cirSizes wd Ls ∧ cirGates wd Ls := by
  apply Classical.byContradiction
  intro hc
  by_cases h1 : cirSizes wd Ls
  · rw [cirErr_three h1 (fun h2 => hc ⟨h1, h2⟩)] at h; omega
  · rw [cirErr_two h1] at h; omega
theorem beneath_bd {wd : Int} {Ls : List (List Tri)} (h : cirSizes wd Ls) {i : Nat} (hi : i < Ls.length) : 0 ≤ beneath wd Ls i ∧ beneath wd Ls i ≤ 6 := by
  unfold beneath
  split
  · exact ⟨h.1, h.2.1⟩
  · exact ⟨h.2.2.2.2 _ (by omega), (wideOf_bd _).2⟩
theorem below_pow {wd : Int} {Ls : List (List Tri)} (h : cirSizes wd Ls) {i : Nat} (hi : i < Ls.length) : below wd Ls i = 2 ^ (beneath wd Ls i).toNat := by
  unfold below beneath
  split
  · rfl
  · exact wideOf_pow (h.2.2.2.2 _ (by omega))
theorem gates_not {wd : Int} {Ls : List (List Tri)} {i k : Nat} (hi : i < Ls.length) (hk : k < (nthY Ls i).length) (h : ¬ gateOk (below wd Ls i) (nthT (nthY Ls i) k)) : ¬ cirGates wd Ls := fun hc => h (hc i hi k hk)
end Go.Att
namespace Go.Proofs.YtcpnidomdkaefaaGreatDoor
open Go.RowKit Go.Att

end Go.Proofs.YtcpnidomdkaefaaGreatDoor
end
section
namespace Go.Att
open Go.RowKit
def Mx (w : World) (b : Nat) (M : Nat → Nat → Int) : Prop := ∀ r j, r < 8 → j < 8 → w.cell? ⟨b, r * 8 + j, none⟩ = some (.int .i64 (M r j)) ∧ w.frozen? ⟨b, r * 8 + j, none⟩ = false
def upm (M : Nat → Nat → Int) (r j : Nat) (x : Int) : Nat → Nat → Int := fun r' j' => if r' = r ∧ j' = j then x else M r' j'
theorem Mx.ext {w w' : World} {b : Nat} {M : Nat → Nat → Int} (h : Mx w b M) (hx : Ext w w') : Mx w' b M := fun r j hr hj =>
  ⟨hx.cell (h r j hr hj).1, by rw [World.frozen?_of_block (hx.below.block b (World.block_lt_of_cell? w ⟨b, r * 8 + j, none⟩ (h r j hr hj).1))]; exact (h r j hr hj).2⟩
theorem Mx.set {w : World} {b : Nat} {M : Nat → Nat → Int} (h : Mx w b M) {r j : Nat} (hr : r < 8) (hj : j < 8) (x : Int) : Mx (w.setCell ⟨b, r * 8 + j, none⟩ (.int .i64 x)) b (upm M r j x) := fun r' j' hr' hj' => by
  refine ⟨?_, by rw [World.frozen?_setCell]; exact (h r' j' hr' hj').2⟩
  unfold upm
  by_cases e : r' = r ∧ j' = j
  · obtain ⟨rfl, rfl⟩ := e
    rw [if_pos ⟨rfl, rfl⟩]; exact World.cell?_setCell_same _ _ _ (h _ _ hr hj).1
  · rw [if_neg e, World.cell?_setCell_other _ _ _ _ (by first | (simp; omega) | simp)]; exact (h _ _ hr' hj').1
theorem Mx.other {w : World} {b b' k : Nat} {M : Nat → Nat → Int} (h : Mx w b M) (hb : b ≠ b') (v : Value) : Mx (w.setCell ⟨b', k, none⟩ v) b M := fun r j hr hj =>
  ⟨by rw [World.cell?_setCell_other _ _ _ _ (by simp)]; exact (h r j hr hj).1, by rw [World.frozen?_setCell]; exact (h r j hr hj).2⟩
theorem Mx.size {w : World} {b : Nat} {M : Nat → Nat → Int} (h : Mx w b M) : b < w.heap.size := World.block_lt_of_cell? w ⟨b, 0 * 8 + 0, none⟩ (h 0 0 (by decide) (by decide)).1
theorem Mx.congr {w : World} {b : Nat} {M M' : Nat → Nat → Int} (h : Mx w b M) (he : ∀ r j, r < 8 → j < 8 → M r j = M' r j) : Mx w b M' := fun r j hr hj => by rw [← he r j hr hj]; exact h r j hr hj
end Go.Att
end
section
/-! Are two lists the same? Contract. -/
namespace Go.Att
theorem list_eq_of {a b : List Int} (h : a.length = b.length) (h2 : ∀ i, i < a.length → nth a i = nth b i) : a = b := by
  refine List.ext_getElem h fun i h3 h4 => ?_
  have := h2 i h3
  rwa [nth_eq h3, nth_eq h4] at this
end Go.Att
namespace Go.Proofs.YtcpnidomdkaefaaGreatDoor
open Go.RowKit Go.Att
set_option maxRecDepth 100000 in
set_option maxHeartbeats 1000000 in
theorem sints_any (va vb : Value) (a b : List Int) (w : World) (ha : Ints w va a) (hb : Ints w vb b) :
    Calls Tryz.prog 17 #[va, vb] w (Rd w (.bool (decide (a = b)))) := by
  have hla := ha.run_len (P := Tryz.prog) slInts
  have hlb := hb.run_len (P := Tryz.prog) slInts
  have hlen := ha.len
  have HA := Lib.hid ha; have HB := Lib.hid hb; clear ha hb
  by_cases hl : a.length = b.length
  · have hbb : ((a.length : Int) != (b.length : Int)) = false := by rw [bne_eq_false_iff_eq]; omega
    have HL := Lib.hid hl; clear hl
    go_enter Tryz.func17, Tryz.ntmps17
    go_wp2_with fail
    go_loopw [5] (fun x5 wr => ∃ i m : Nat, i ≤ a.length ∧ x5 = .int .i64 i ∧ Hid (∀ j, j < i → nth a j = nth b j) ∧ wr = w.drewN m) (fun x5 _ => a.length - (intOf x5).toNat)
    case atStart => exact ⟨0, 0, Nat.zero_le _, rfl, Lib.hid (fun j hj => by omega), rfl⟩
    case round =>
      obtain ⟨i, m, hi, rfl, H, rfl⟩ := hrel
      by_cases hil : i < a.length
      · have hix := HA.out.run_index (P := Tryz.prog) slInts i hil
        have hc := HA.out.cell i hil
        have hix2 := HB.out.run_index (P := Tryz.prog) slInts i (by have := HL.out; omega)
        have hc2 := HB.out.cell i (by have := HL.out; omega)
        by_cases he : nth a i = nth b i
        · have hb2 : (nth a i != nth b i) = false := by rw [bne_eq_false_iff_eq]; exact he
          have HE := Lib.hid he; clear he
          go_wp2_with fail
          go_quiet (fail)
          go_wp2_with fail
          go_roundw
          case rel => exact ⟨i + 1, _, by omega, by go_num, Lib.hid (fun j hj => by
            rcases Nat.lt_or_eq_of_le (show j ≤ i by omega) with h | rfl
            · exact H.out j h
            · exact HE.out), rfl⟩
          case measure => simp [intOf]; omega
        · have hb2 : (nth a i != nth b i) = true := by rw [bne_iff_ne]; exact he
          have HD := Lib.hid (decide_eq_false (p := a = b) (fun e => he (by rw [e]))); clear he
          go_wp2_with fail
          go_quiet (fail)
          go_wp2_with fail
          go_ret
          exact ⟨ret_bool HD.out.symm, _, World.drewN_drewN _ _ _⟩
      · obtain rfl : i = a.length := by omega
        have HD := Lib.hid (decide_eq_true (p := a = b) (list_eq_of HL.out H.out))
        go_wp2_with fail
        go_ret
        exact .more _ (ret_bool HD.out.symm)
  · have hbb : ((a.length : Int) != (b.length : Int)) = true := by rw [bne_iff_ne]; omega
    have HD := Lib.hid (decide_eq_false (p := a = b) (fun e => hl (by rw [e]))); clear hl
    go_enter Tryz.func17, Tryz.ntmps17
    go_wp2_with fail
    go_ret
    exact .same (ret_bool HD.out.symm)
theorem sints_q {va vb : Value} {a b : List Int} {w : World} {c : Bool} (ha : Ints w va a) (hb : Ints w vb b) (hc : decide (a = b) = c) (n : Nat) :
    Calls Tryz.prog 17 #[va, vb] (w.drewN n) fun e w'' => e = .returned (.bool c) ∧ ∃ m, w'' = w.drewN m := by
  subst hc
  exact Calls.quiet_of (sints_any _ _ _ _ _ (ha.drewN n) (hb.drewN n))
end Go.Proofs.YtcpnidomdkaefaaGreatDoor
/-! Are two lists of lists the same? Contract. -/
namespace Go.Att
theorem lists_eq_of {a b : List (List Int)} (h : a.length = b.length) (h2 : ∀ i, i < a.length → nthL a i = nthL b i) : a = b := by
  refine List.ext_getElem h fun i h3 h4 => ?_
  have := h2 i h3
  rwa [nthL_eq h3, nthL_eq h4] at this
end Go.Att
namespace Go.Proofs.YtcpnidomdkaefaaGreatDoor
open Go.RowKit Go.Att
theorem slRows2 : SlT Tryz.prog 23 22 1 24 (.slice none 0 0) := .mk' Tryz.underlying23 (by kernel_rfl) (by decide)
set_option maxRecDepth 100000 in
set_option maxHeartbeats 1000000 in
theorem srows_any (va vb : Value) (a b : List (List Int)) (w : World) (ha : Rws w va a) (hb : Rws w vb b) :
    Calls Tryz.prog 129 #[va, vb] w (Rd w (.bool (decide (a = b)))) := by
  obtain ⟨RA, ha⟩ := ha
  obtain ⟨RB, hb⟩ := hb
  have hla := ha.run_len (P := Tryz.prog) slRows2
  have hlb := hb.run_len (P := Tryz.prog) slRows2
  have hlen := ha.len
  have HA := Lib.hid ha; have HB := Lib.hid hb; clear ha hb
  by_cases hl : a.length = b.length
  · have hbb : ((a.length : Int) != (b.length : Int)) = false := by rw [bne_eq_false_iff_eq]; omega
    have HL := Lib.hid hl; clear hl
    go_enter Tryz.func129, Tryz.ntmps129
    go_wp2_with fail
    go_loopw [5, 6] (fun x5 _ wr => ∃ i m : Nat, i ≤ a.length ∧ x5 = .int .i64 i ∧ Hid (∀ j, j < i → nthL a j = nthL b j) ∧ wr = w.drewN m) (fun x5 _ _ => a.length - (intOf x5).toNat)
    case atStart => exact ⟨0, 0, Nat.zero_le _, rfl, Lib.hid (fun j hj => by omega), rfl⟩
    case round =>
      obtain ⟨i, m, hi, rfl, H, hwr⟩ := hrel
      have hx : Ext w wr := hwr ▸ Ext.drewN _ _
      have HW := Lib.hid hwr; clear hwr
      by_cases hil : i < a.length
      · have hil2 : i < b.length := by have := HL.out; omega
        have hix := HA.out.run_index (P := Tryz.prog) slRows2 i hil
        have hc := (HA.out.ext hx).cell i hil
        have hix2 := HB.out.run_index (P := Tryz.prog) slRows2 i hil2
        have hc2 := (HB.out.ext hx).cell i hil2
        by_cases he : nthL a i = nthL b i
        · have HE := Lib.hid he
          have hd := decide_eq_true he
          clear he
          go_wp2_with fail
          go_quiet ((go_at_call 17; exact sints_q ((HA.out.row i hil).ext hx) ((HB.out.row i hil2).ext hx) hd _))
          go_wp2_with fail
          go_roundw
          case rel => exact ⟨i + 1, _, by omega, by go_num, Lib.hid (fun j hj => by
            rcases Nat.lt_or_eq_of_le (show j ≤ i by omega) with h | rfl
            · exact H.out j h
            · exact HE.out), by rw [HW.out, World.drewN_drewN]⟩
          case measure => simp [intOf]; omega
        · have hd := decide_eq_false he
          have HD := Lib.hid (decide_eq_false (p := a = b) (fun e => he (by rw [e]))); clear he
          go_wp2_with fail
          go_quiet ((go_at_call 17; exact sints_q ((HA.out.row i hil).ext hx) ((HB.out.row i hil2).ext hx) hd _))
          go_wp2_with fail
          go_ret
          exact ⟨ret_bool HD.out.symm, _, by rw [HW.out, World.drewN_drewN]⟩
      · obtain rfl : i = a.length := by omega
        have HD := Lib.hid (decide_eq_true (p := a = b) (lists_eq_of HL.out H.out))
        go_wp2_with fail
        go_ret
        exact ⟨ret_bool HD.out.symm, m, HW.out⟩
  · have hbb : ((a.length : Int) != (b.length : Int)) = true := by rw [bne_iff_ne]; omega
    have HD := Lib.hid (decide_eq_false (p := a = b) (fun e => hl (by rw [e]))); clear hl
    go_enter Tryz.func129, Tryz.ntmps129
    go_wp2_with fail
    go_ret
    exact .same (ret_bool HD.out.symm)
end Go.Proofs.YtcpnidomdkaefaaGreatDoor
end
section
namespace Go.Proofs.YtcpnidomdkaefaaGreatDoor.bulks

theorem one_le {H : Type} (d : DataW H) : 1 ≤ Rows.uptoBulk d := by
  cases d with
  | lit l => cases l <;> simp [Rows.uptoBulk]
  | nil => simp [Rows.uptoBulk]
  | ptr d => simp [Rows.uptoBulk]
  | slice elems spare => simp [Rows.uptoBulk]
  | agg parts => simp [Rows.uptoBulk]
  | iface t d => simp [Rows.uptoBulk]
  | map entries => simp [Rows.uptoBulk]
  | held h => simp [Rows.uptoBulk]

/-- a part's bulk is at most the whole's -/
theorem part_le {H : Type} {d : DataW H} {l : List (DataW H)} (h : d ∈ l) : Rows.uptoBulk d ≤ Rows.uptoBulkAll l := by
  induction l with
  | nil => cases h
  | cons x r ih =>
    simp only [Rows.uptoBulkAll]
    cases List.mem_cons.1 h with
    | inl e => subst e; omega
    | inr e => have := ih e; omega

theorem append {H : Type} (l r : List (DataW H)) : Rows.uptoBulkAll (l ++ r) = Rows.uptoBulkAll l + Rows.uptoBulkAll r := by
  induction l with
  | nil => simp [Rows.uptoBulkAll]
  | cons x l ih => simp only [List.cons_append, Rows.uptoBulkAll, ih]; omega

/-- so many values at the most -/
theorem length_le {H : Type} (l : List (DataW H)) : l.length ≤ Rows.uptoBulkAll l := by
  induction l with
  | nil => simp [Rows.uptoBulkAll]
  | cons x r ih => have := one_le x; simp only [Rows.uptoBulkAll, List.length_cons]; omega

/-- a slice's places, and what they hold -/
theorem slice_le {H : Type} (elems spare : List (DataW H)) : elems.length + spare.length + 1 ≤ Rows.uptoBulk (.slice elems spare) := by
  have h1 := length_le elems
  have h2 := length_le spare
  simp only [Rows.uptoBulk]
  omega
theorem slice_elems {H : Type} (elems spare : List (DataW H)) : Rows.uptoBulkAll elems + 1 ≤ Rows.uptoBulk (.slice elems spare) := by
  simp only [Rows.uptoBulk]
  omega

/-- a string's letters -/
theorem string_eq {H : Type} (bytes : List UInt8) : Rows.uptoBulk (DataW.lit (H := H) (.string bytes)) = bytes.length + 1 := by
  simp [Rows.uptoBulk]

/-- THE BOUND, as the builder hands it over ('hk') -/
theorem bound {H : Type} {l : List (DataW H)} (hk : Rows.uptoSmall H l = true) : Rows.uptoBulkAll l ≤ 1048576 := by
  simpa [Rows.uptoSmall] using hk

/-- ROOM: a slice of n elements of b bytes, grown by append: below the 2^48 bytes that append, make and a Builder bear. Here n up to 2^21, b up to 4,096: put your own numbers. -/
theorem room {n b : Nat} (hn : n ≤ 2097152) (hb : b ≤ 4096) : (n + n / 4 + 192) * b ≤ 281474976710656 := by
  have h : (n + n / 4 + 192) * b ≤ 2621632 * 4096 := Nat.mul_le_mul (by omega) hb
  omega

end Go.Proofs.YtcpnidomdkaefaaGreatDoor.bulks
end
section
/-! From a law's walk to its row: what a law leaves behind; how arguments read. No function in sight. -/
namespace Go.Att
open Go.RowKit Go.ChangeShapes Go.WideShapes Go.Deep

section
variable {H : Type} {enc : TypeId × Value → H} {P : Program}
/-- All arguments read behind the call as they did. -/
theorem trodAll_below (hl : laidOutB P = true) {W W' : World} (hb : Ext W W') : ∀ {ts : List TypeId} {vs : List Value} {ds : List (DataW H)} {ps : List MemPlace},
    (∀ t ∈ ts, P.readableRec t = true ∧ t < P.types.size) → DataW.TrodAll enc P W 0 (fun _ => true) true ts vs ds ps → (∀ x ∈ ps, x.block < W.heap.size) →
    DataW.TrodAll enc P W' 0 (fun b => decide (b < W.heap.size)) true ts vs ds ps
  | [], vs, ds, ps, _, h, _ => by
    obtain ⟨rfl, rfl, rfl⟩ := trodAll_nil h
    exact trodAll_mk0
  | t :: ts, vs, ds, ps, hr, h, hlt => by
    obtain ⟨v, vs', d, ds', p, q, rfl, rfl, rfl, h1, h2⟩ := trodAll_cons h
    obtain ⟨r1, r2⟩ := hr t (by simp)
    exact trodAll_cons_mk (Below.trod hl r1 r2 h1 hb (fun x hx => hlt x (by simp [hx]))) (trodAll_below hl hb (fun t ht => hr t (by simp [ht])) h2 (fun x hx => hlt x (by simp [hx])))

/-- What a law that returns true, and leaves all that was there as it was, leaves behind. -/
theorem law_post {f : Func} {s : ChangeSpec} {W W' : World} {args : Array Value} {ds gs : List (DataW H)} {before : List MemPlace} {tb : TypeId} (hl : laidOutB P = true)
    (hpar : f.params.toList.all (fun t => P.readableRec t && decide (t < P.types.size)) = true) (hres : f.resultTypes = #[tb]) (htb : P.underlying tb = some .bool) (hsv : s.vars = [])
    (hW : DataW.Whole enc P f.params.toList s.vars false W args.toList ds gs before) (hfn : s.fn H ds = { results := [.lit (.bool true)], args := ds }) (hx : Ext W W') :
    s.post enc P f false true false false W args (.bool true) W' := by
  have hW' := hW
  obtain ⟨p, q, hA, hV, rfl, hfz, hnd⟩ := hW
  rw [hsv] at hV
  obtain ⟨rfl, rfl⟩ : gs = [] ∧ q = [] := by
    cases gs with
    | nil => exact ⟨rfl, hV⟩
    | cons g r => exact absurd hV (by intro h; cases h)
  have hlt : ∀ x ∈ p, x.block < W.heap.size := fun x hx => hW'.lt x (by simpa using hx)
  have hpar' : ∀ t ∈ f.params.toList, P.readableRec t = true ∧ t < P.types.size := fun t ht => by
    have := List.all_eq_true.1 hpar t ht
    simpa using this
  refine ⟨ds, [], _, [], p, [], hW', ?_, ?_, ?_, World.keptBut_mono (fun x hx => ?_) (Below.frame hx (fun _ => False)), fun h => by cases h⟩
  · rw [List.append_nil, hfn, hres]
    exact trodAll_mk1 (shut_bool htb true)
  · rw [List.append_nil, hfn]
    exact trodAll_below hl hx hpar' hA hlt
  · rw [List.append_nil, hfn, hsv]; rfl
  · exact hx.elim
end

section
variable {H : Type} {enc : TypeId × Value → H} {P : Program} {w : World} {base : Nat} {spare : Nat → Bool} {held : Bool}
/-- A slice of ints that came in. -/
theorem open_IntsF {fuel : Nat} {t e : TypeId} {v : Value} {d : DataW H} {p : List MemPlace} (ht : P.underlying t = some (.slice e)) (he : P.underlying e = some (.int .i64)) (hc : P.cellsOf e = 1)
    (hf : DataW.trod enc P w base spare held fuel t [v] = some (d, p)) : ∃ l : List Int, Ints w v l ∧ (l = [] ∨ ∃ es sp, d = .slice es sp ∧ es.length = l.length) := by
  rcases open_ints ht he hc hf with ⟨h1, h2⟩ | ⟨a, len, cap, zs, h1, h2, h3, h4, h5, h6, h7, h8⟩
  · simp at h1 h2
    subst h1
    exact ⟨[], Ints.nil _, .inl rfl⟩
  · simp at h1 h6
    subst h1
    have hlz : len ≤ zs.length := by rw [h5]; split <;> omega
    refine ⟨zs.take len, ⟨some a, cap, ?_, ?_, ?_, h4, fun i hi => ?_⟩, .inr ⟨_, _, h6.1, by simp [lits]⟩⟩
    · simp; omega
    · simp
    · simp; omega
    · simp at hi
      have hi' : i < zs.length := by omega
      have hsp : a.spot = none := by
        have h0 := h7 0 (by omega)
        rw [Addr.add, if_pos rfl] at h0
        rcases ha : a.spot with _ | n
        · rfl
        · unfold World.cell? at h0
          rw [ha] at h0
          split at h0
          · simp at h0
          · cases h0
      refine ⟨a.block, a.off, ?_, ?_⟩
      · rcases a with ⟨b, o, s⟩; simp at hsp; subst hsp; rfl
      · have hci := h7 i hi'
        have : a.add i = ⟨a.block, a.off + i, none⟩ := by
          rcases a with ⟨b, o, s⟩; simp at hsp; subst hsp; exact Addr.add_lit _ _ _
        rw [this] at hci
        rw [hci]
        simp [hi']
theorem open_Ints {t e : TypeId} {v : Value} {d : DataW H} {p : List MemPlace} (ht : P.underlying t = some (.slice e)) (he : P.underlying e = some (.int .i64)) (hc : P.cellsOf e = 1)
    (hv : v.cells.toList = [v]) (h : DataW.Trod enc P w base spare held t v d p) : ∃ l : List Int, Ints w v l ∧ (l = [] ∨ ∃ es sp, d = .slice es sp ∧ es.length = l.length) := by
  obtain ⟨fuel, hf⟩ := h
  rw [hv] at hf
  exact open_IntsF ht he hc hf

theorem spot_none {a : Addr} {x : Value} (h0 : w.cell? a = some x) : a.spot = none := by
  rcases ha : a.spot with _ | n
  · rfl
  · unfold World.cell? at h0
    rw [ha] at h0
    split at h0
    · simp at h0
    · cases h0
/-- A slice of pairs of ints that came in. -/
theorem open_Prs {t e : TypeId} {f0 f1 : Field} {v : Value} {d : DataW H} {p : List MemPlace} (ht : P.underlying t = some (.slice e)) (he : P.underlying e = some (.struct #[f0, f1])) (ce : P.cellsOf e = 2) (o0 : f0.offset = 0) (o1 : f1.offset = 1)
    (c0 : P.cellsOf f0.type = 1) (c1 : P.cellsOf f1.type = 1) (u0 : P.underlying f0.type = some (.int .i64)) (u1 : P.underlying f1.type = some (.int .i64))
    (hv : v.cells.toList = [v]) (h : DataW.Trod enc P w base spare held t v d p) : ∃ l : List (Int × Int), Prs w v l ∧ (l = [] ∨ ∃ es sp, d = .slice es sp ∧ es.length = l.length) := by
  obtain ⟨fuel, hf⟩ := h
  rw [hv] at hf
  rcases open_slice_pairs ht he ce o0 o1 c0 c1 hf with ⟨h1, h2⟩ | ⟨a, len, cap, m, n, V0, V1, D0, D1, P0, P1, h1, h2, h3, h4, h5, h6, h7⟩
  · simp at h1
    subst h1
    exact ⟨[], ⟨none, 0, rfl, by simp [flatP], Nat.le_refl _, Nat.zero_le _, fun i hi => by simp [flatP] at hi⟩, .inl rfl⟩
  · simp at h1 h6
    subst h1
    have hlm : len ≤ m := by rw [h5]; split <;> omega
    have hint : ∀ i, i < m → ∃ x y : Int, V0 i = .int .i64 x ∧ V1 i = .int .i64 y := by
      intro i hi
      obtain ⟨_, _, t0, t1⟩ := h7 i hi
      obtain ⟨x, hx, _⟩ := DataW.trod_int u0 t0
      obtain ⟨y, hy, _⟩ := DataW.trod_int u1 t1
      exact ⟨x, y, by simpa using hx, by simpa using hy⟩
    refine ⟨(List.range len).map fun i => (intOf (V0 i), intOf (V1 i)), ⟨some a, cap, by simp, by rw [flatP_length], by simpa using h3, h4, fun i hi => ?_⟩, .inr ⟨_, _, h6.1, by simp⟩⟩
    rw [flatP_length] at hi
    simp at hi
    have hk : i / 2 < len := by omega
    obtain ⟨k0, k1, _, _⟩ := h7 (i / 2) (by omega)
    obtain ⟨x, y, ex, ey⟩ := hint (i / 2) (by omega)
    have hsp : a.spot = none := by
      have h0 := (h7 0 (by omega)).1
      rw [Nat.zero_mul, Addr.add, if_pos rfl] at h0
      exact spot_none h0
    have hadd : ∀ j, a.add j = ⟨a.block, a.off + j, none⟩ := fun j => by
      rcases a with ⟨b, o, s⟩; simp at hsp; subst hsp; exact Addr.add_lit _ _ _
    have hg := flatP_get ((List.range len).map fun i => (intOf (V0 i), intOf (V1 i))) (i / 2) (by simpa using hk)
    refine ⟨a.block, a.off, by rcases a with ⟨b, o, s⟩; simp at hsp; subst hsp; rfl, ?_⟩
    rw [hadd] at k0 k1
    rcases Nat.mod_two_eq_zero_or_one i with h8 | h8
    · have e2 : i / 2 * 2 = i := by omega
      rw [e2] at k0 hg
      rw [k0, ex, ← List.getElem?_eq_getElem, hg.1]
      simp [ex, intOf]
    · have e2 : i / 2 * 2 + 1 = i := by omega
      rw [e2] at k1 hg
      rw [k1, ey, ← List.getElem?_eq_getElem, hg.2]
      simp [ey, intOf]
end
end Go.Att
/-! How arguments read: slices of slices. No function in sight. -/
namespace Go.Att
open Go.RowKit Go.ChangeShapes Go.WideShapes Go.Deep
section
variable {H : Type} {enc : TypeId × Value → H} {P : Program} {w : World} {base : Nat} {spare : Nat → Bool} {held : Bool}
theorem addr_lit {a : Addr} (h : a.spot = none) (j : Nat) : a.add j = ⟨a.block, a.off + j, none⟩ := by
  rcases a with ⟨b, o, s⟩; simp at h; subst h; exact Addr.add_lit _ _ _
/-- What the slices in a list of lists read as. -/
def RowD {H : Type} (l : List Int) (d : DataW H) : Prop := l = [] ∨ ∃ es sp, d = .slice es sp ∧ es.length = l.length
def RowsD {H : Type} (L : List (List Int)) (d : DataW H) : Prop := L = [] ∨ ∃ es sp, d = .slice es sp ∧ es.length = L.length ∧ ∀ i (h : i < es.length), RowD (nthL L i) es[i]
theorem open_RwsF {fuel : Nat} {t e q : TypeId} {v : Value} {d : DataW H} {p : List MemPlace} (ht : P.underlying t = some (.slice e)) (he : P.underlying e = some (.slice q)) (hq : P.underlying q = some (.int .i64)) (ce : P.cellsOf e = 1) (cq : P.cellsOf q = 1)
    (hf : DataW.trod enc P w base spare held fuel t [v] = some (d, p)) : ∃ L : List (List Int), Rws w v L ∧ RowsD L d := by
  rcases open_slice1 ht ce hf with ⟨h1, h2⟩ | ⟨a, len, cap, m, n, V, D, Pl, h1, h2, h3, h4, h5, h6, h7⟩
  · simp at h1
    subst h1
    exact ⟨[], Rws.nil w, .inl rfl⟩
  · simp at h1 h6
    subst h1
    have hlm : len ≤ m := by rw [h5]; split <;> omega
    have each : ∀ i, i < m → ∃ l : List Int, Ints w (V i) l ∧ RowD l (D i) := fun i hi => open_IntsF he hq cq (h7 i hi).2
    have choose : ∃ f : Nat → List Int, ∀ i, i < m → Ints w (V i) (f i) ∧ RowD (f i) (D i) := by
      refine ⟨fun i => if h : i < m then Classical.choose (each i h) else [], fun i hi => ?_⟩
      have e : (if h : i < m then Classical.choose (each i h) else []) = Classical.choose (each i hi) := dif_pos hi
      simp only [e]; exact Classical.choose_spec (each i hi)
    obtain ⟨f, hf2⟩ := choose
    refine ⟨(List.range len).map f, ⟨V, ⟨some a, cap, ?_, ?_, ?_, h4, fun i hi => ?_⟩, fun i hi => ?_⟩, .inr ⟨_, _, h6.1, by simp, fun i hi => ?_⟩⟩
    · simp
    · simp
    · simpa using h3
    · simp at hi
      have hsp : a.spot = none := spot_none (by have := (h7 0 (by omega)).1; rw [Addr.add, if_pos rfl] at this; exact this)
      refine ⟨a.block, a.off, by rcases a with ⟨b, o, s⟩; simp at hsp; subst hsp; rfl, ?_⟩
      have := (h7 i (by omega)).1
      rw [addr_lit hsp] at this
      rw [this]; simp
    · simp at hi
      rw [nthL_eq (by simpa using hi)]; simpa using (hf2 i (by omega)).1
    · simp at hi
      rw [nthL_eq (by simpa using hi)]; simpa using (hf2 i (by omega)).2
theorem open_Rws {t e q : TypeId} {v : Value} {d : DataW H} {p : List MemPlace} (ht : P.underlying t = some (.slice e)) (he : P.underlying e = some (.slice q)) (hq : P.underlying q = some (.int .i64)) (ce : P.cellsOf e = 1) (cq : P.cellsOf q = 1)
    (hv : v.cells.toList = [v]) (h : DataW.Trod enc P w base spare held t v d p) : ∃ L : List (List Int), Rws w v L ∧ RowsD L d := by
  obtain ⟨fuel, hf⟩ := h
  rw [hv] at hf
  exact open_RwsF ht he hq ce cq hf
end
end Go.Att
end
section
/-! What the bound on the bulk gives for lists of lists. -/
namespace Go.Proofs.YtcpnidomdkaefaaGreatDoor.bulks
open Go.Att
theorem row_le {H : Type} {l : List Int} {d : DataW H} (h : RowD l d) : l.length ≤ Rows.uptoBulk d := by
  rcases h with rfl | ⟨es, sp, rfl, e⟩
  · exact Nat.zero_le _
  · have := slice_le es sp; omega
theorem rows_le {H : Type} {L : List (List Int)} {d : DataW H} (h : RowsD L d) : L.length ≤ Rows.uptoBulk d := by
  rcases h with rfl | ⟨es, sp, rfl, e, _⟩
  · exact Nat.zero_le _
  · have := slice_le es sp; omega
theorem rows_row_le {H : Type} {L : List (List Int)} {d : DataW H} (h : RowsD L d) {i : Nat} (hi : i < L.length) : (nthL L i).length ≤ Rows.uptoBulk d := by
  rcases h with rfl | ⟨es, sp, rfl, e, h2⟩
  · simp at hi
  · have h3 := row_le (h2 i (by omega))
    have h4 : Rows.uptoBulk es[i] ≤ Rows.uptoBulkAll es := part_le (List.getElem_mem _)
    have := slice_elems es sp
    omega
end Go.Proofs.YtcpnidomdkaefaaGreatDoor.bulks
/-! How arguments read: circuits (a struct of a number and slices of slices of triples). -/
namespace Go.Att
open Go.RowKit Go.ChangeShapes Go.WideShapes Go.Deep
section
variable {H : Type} {enc : TypeId × Value → H} {P : Program} {w : World} {base : Nat} {spare : Nat → Bool} {held : Bool}
def TrD {H : Type} (l : List Tri) (d : DataW H) : Prop := l = [] ∨ ∃ es sp, d = .slice es sp ∧ es.length = l.length
def LysD {H : Type} (L : List (List Tri)) (d : DataW H) : Prop := L = [] ∨ ∃ es sp, d = .slice es sp ∧ es.length = L.length ∧ ∀ i (h : i < es.length), TrD (nthY L i) es[i]
theorem open_TrsF {fuel : Nat} {t e : TypeId} {f0 f1 f2 : Field} {v : Value} {d : DataW H} {p : List MemPlace} (ht : P.underlying t = some (.slice e)) (he : P.underlying e = some (.struct #[f0, f1, f2])) (ce : P.cellsOf e = 3)
    (o0 : f0.offset = 0) (o1 : f1.offset = 1) (o2 : f2.offset = 2) (c0 : P.cellsOf f0.type = 1) (c1 : P.cellsOf f1.type = 1) (c2 : P.cellsOf f2.type = 1)
    (u0 : P.underlying f0.type = some (.int .i64)) (u1 : P.underlying f1.type = some (.int .i64)) (u2 : P.underlying f2.type = some (.int .i64))
    (hf : DataW.trod enc P w base spare held fuel t [v] = some (d, p)) : ∃ l : List Tri, Trs w v l ∧ TrD l d := by
  rcases open_slice ht hf with ⟨h1, h2⟩ | ⟨a, len, cap, m, n, D, Pl, h1, hb, hl, hm, hmm, h6, hx⟩
  · simp at h1
    subst h1
    exact ⟨[], ⟨none, 0, rfl, by simp [flatT], Nat.le_refl _, Nat.zero_le _, fun i hi => by simp [flatT] at hi⟩, .inl rfl⟩
  · simp at h1 h6
    subst h1
    have hlm : len ≤ m := by rw [hmm]; split <;> omega
    have each : ∀ i, i < m → ∃ q : Tri, w.cell? (a.add (i * 3)) = some (.int .i64 q.1) ∧ w.cell? (a.add (i * 3 + 1)) = some (.int .i64 q.2.1) ∧ w.cell? (a.add (i * 3 + 2)) = some (.int .i64 q.2.2) := by
      intro i hi
      obtain ⟨cs', g1, g2⟩ := hx i hi
      rw [ce] at g1
      obtain ⟨_, hlen, hcell⟩ := World.cells?_some g1
      obtain ⟨xs, k, hk, hxy, _, hxl, hff⟩ := DataW.trod_struct he g2
      match xs, hxl, cs', hlen with
      | [y0, y1, y2], _, [v0, v1, v2], _ =>
        have g0 := hff 0 f0 rfl
        have g1 := hff 1 f1 rfl
        have g2 := hff 2 f2 rfl
        simp [o0, o1, o2, c0, c1, c2] at g0 g1 g2
        have e0 := hcell 0 (by omega)
        have e1 := hcell 1 (by omega)
        have e2 := hcell 2 (by omega)
        rw [add_add] at e0 e1 e2
        obtain ⟨x, hx0, _⟩ := DataW.trod_int u0 g0
        obtain ⟨y, hy0, _⟩ := DataW.trod_int u1 g1
        obtain ⟨z, hz0, _⟩ := DataW.trod_int u2 g2
        simp at hx0 hy0 hz0
        subst hx0 hy0 hz0
        exact ⟨(x, y, z), by simpa using e0, by simpa using e1, by simpa using e2⟩
    have choose : ∃ f : Nat → Tri, ∀ i, i < m → w.cell? (a.add (i * 3)) = some (.int .i64 (f i).1) ∧ w.cell? (a.add (i * 3 + 1)) = some (.int .i64 (f i).2.1) ∧ w.cell? (a.add (i * 3 + 2)) = some (.int .i64 (f i).2.2) := by
      refine ⟨fun i => if h : i < m then Classical.choose (each i h) else (0, 0, 0), fun i hi => ?_⟩
      have e : (if h : i < m then Classical.choose (each i h) else (0, 0, 0)) = Classical.choose (each i hi) := dif_pos hi
      simp only [e]; exact Classical.choose_spec (each i hi)
    obtain ⟨f, hf2⟩ := choose
    have hlenf : ((List.range len).map f).length = len := by simp
    refine ⟨(List.range len).map f, ⟨some a, cap, by simp, by rw [flatT_length], by simpa using hl, hm, fun i hi => ?_⟩, .inr ⟨_, _, h6.1, by simp⟩⟩
    rw [flatT_length, hlenf] at hi
    have hk : i / 3 < len := by omega
    obtain ⟨k0, k1, k2⟩ := hf2 (i / 3) (by omega)
    have hsp : a.spot = none := by
      have h0 := (hf2 0 (by omega)).1
      rw [Nat.zero_mul, Addr.add, if_pos rfl] at h0
      exact spot_none h0
    have hg := flatT_get ((List.range len).map f) (i / 3) (by simpa using hk)
    refine ⟨a.block, a.off, by rcases a with ⟨b, o, s⟩; simp at hsp; subst hsp; rfl, ?_⟩
    rw [addr_lit hsp] at k0 k1 k2
    have h3 : i % 3 = 0 ∨ i % 3 = 1 ∨ i % 3 = 2 := by omega
    rcases h3 with h3 | h3 | h3
    · have e2 : i / 3 * 3 = i := by omega
      rw [e2] at k0 hg
      rw [k0, ← List.getElem?_eq_getElem, hg.1]; simp
    · have e2 : i / 3 * 3 + 1 = i := by omega
      rw [e2] at k1 hg
      rw [k1, ← List.getElem?_eq_getElem, hg.2.1]; simp
    · have e2 : i / 3 * 3 + 2 = i := by omega
      rw [e2] at k2 hg
      rw [k2, ← List.getElem?_eq_getElem, hg.2.2]; simp
theorem open_LysF {fuel : Nat} {t e q : TypeId} {f0 f1 f2 : Field} {v : Value} {d : DataW H} {p : List MemPlace} (ht : P.underlying t = some (.slice e)) (he : P.underlying e = some (.slice q)) (hq : P.underlying q = some (.struct #[f0, f1, f2])) (ce : P.cellsOf e = 1) (cq : P.cellsOf q = 3)
    (o0 : f0.offset = 0) (o1 : f1.offset = 1) (o2 : f2.offset = 2) (c0 : P.cellsOf f0.type = 1) (c1 : P.cellsOf f1.type = 1) (c2 : P.cellsOf f2.type = 1)
    (u0 : P.underlying f0.type = some (.int .i64)) (u1 : P.underlying f1.type = some (.int .i64)) (u2 : P.underlying f2.type = some (.int .i64))
    (hf : DataW.trod enc P w base spare held fuel t [v] = some (d, p)) : ∃ (L : List (List Tri)) (R : Nat → Value), LysAt w v L R ∧ LysD L d := by
  rcases open_slice1 ht ce hf with ⟨h1, h2⟩ | ⟨a, len, cap, m, n, V, D, Pl, h1, h2, h3, h4, h5, h6, h7⟩
  · simp at h1
    subst h1
    exact ⟨[], fun _ => .bool false, ⟨⟨none, 0, rfl, by simp, Nat.le_refl _, Nat.zero_le _, fun i hi => by simp at hi⟩, fun i hi => by simp at hi⟩, .inl rfl⟩
  · simp at h1 h6
    subst h1
    have hlm : len ≤ m := by rw [h5]; split <;> omega
    have each : ∀ i, i < m → ∃ l : List Tri, Trs w (V i) l ∧ TrD l (D i) := fun i hi => open_TrsF he hq cq o0 o1 o2 c0 c1 c2 u0 u1 u2 (h7 i hi).2
    have choose : ∃ f : Nat → List Tri, ∀ i, i < m → Trs w (V i) (f i) ∧ TrD (f i) (D i) := by
      refine ⟨fun i => if h : i < m then Classical.choose (each i h) else [], fun i hi => ?_⟩
      have e : (if h : i < m then Classical.choose (each i h) else []) = Classical.choose (each i hi) := dif_pos hi
      simp only [e]; exact Classical.choose_spec (each i hi)
    obtain ⟨f, hf2⟩ := choose
    refine ⟨(List.range len).map f, V, ⟨⟨some a, cap, ?_, ?_, ?_, h4, fun i hi => ?_⟩, fun i hi => ?_⟩, .inr ⟨_, _, h6.1, by simp, fun i hi => ?_⟩⟩
    · simp
    · simp
    · simpa using h3
    · simp at hi
      have hsp : a.spot = none := spot_none (by have := (h7 0 (by omega)).1; rw [Addr.add, if_pos rfl] at this; exact this)
      refine ⟨a.block, a.off, by rcases a with ⟨b, o, s⟩; simp at hsp; subst hsp; rfl, ?_⟩
      have := (h7 i (by omega)).1
      rw [addr_lit hsp] at this
      rw [this]; simp
    · simp at hi
      rw [nthY_eq (by simpa using hi)]; simpa using (hf2 i (by omega)).1
    · simp at hi
      rw [nthY_eq (by simpa using hi)]; simpa using (hf2 i (by omega)).2
/-- A struct of a number and a slice. -/
theorem open_pair {t : TypeId} {g0 g1 : Field} {cs : Array Value} {d : DataW H} {p : List MemPlace} (ht : P.underlying t = some (.struct #[g0, g1])) (o0 : g0.offset = 0) (o1 : g1.offset = 1) (c0 : P.cellsOf g0.type = 1) (c1 : P.cellsOf g1.type = 1)
    (u0 : P.underlying g0.type = some (.int .i64)) (hs : cs.size = 2) (hv : (Value.agg cs).cells.toList = cs.toList) (h : DataW.Trod enc P w base spare held t (.agg cs) d p) :
    ∃ (n : Int) (sv : Value) (d0 d1 : DataW H) (p1 : List MemPlace) (fuel : Nat), cs = #[.int .i64 n, sv] ∧ d = .agg [d0, d1] ∧ DataW.trod enc P w base spare held fuel g1.type [sv] = some (d1, p1) := by
  obtain ⟨fuel, hf⟩ := h
  rw [hv] at hf
  obtain ⟨xs, k, hk, hxy, _, hxl, hff⟩ := DataW.trod_struct ht hf
  obtain ⟨a, b, rfl⟩ : ∃ a b, cs = #[a, b] := by
    rcases cs with ⟨l⟩
    match l, hs with
    | [a, b], _ => exact ⟨a, b, rfl⟩
  match xs, hxl with
  | [y0, y1], _ =>
    have e0 := hff 0 g0 rfl
    have e1 := hff 1 g1 rfl
    simp [o0, o1, c0, c1] at e0 e1
    obtain ⟨x, hx0, _⟩ := DataW.trod_int u0 e0
    simp at hx0
    subst hx0
    simp only [Prod.mk.injEq] at hxy
    exact ⟨x, b, y0.1, y1.1, y1.2, k, rfl, by simpa using hxy.1, e1⟩
theorem okWide_agg {t : TypeId} {fs : Array Field} {v : Value} {r : Reach} (ht : P.underlying t = some (.struct fs)) (h : Value.okWide P w r base t v) : ∃ cs, v = .agg cs ∧ cs.size = P.cellsOf t := by
  simp only [Value.okWide, ht] at h
  obtain ⟨cs, rfl, h2, _⟩ := h
  exact ⟨cs, rfl, h2⟩
end
end Go.Att
namespace Go.Proofs.YtcpnidomdkaefaaGreatDoor.bulks
open Go.Att
theorem tr_le {H : Type} {l : List Tri} {d : DataW H} (h : TrD l d) : l.length ≤ Rows.uptoBulk d := by
  rcases h with rfl | ⟨es, sp, rfl, e⟩
  · exact Nat.zero_le _
  · have := slice_le es sp; omega
theorem lys_le {H : Type} {L : List (List Tri)} {d : DataW H} (h : LysD L d) : L.length ≤ Rows.uptoBulk d := by
  rcases h with rfl | ⟨es, sp, rfl, e, _⟩
  · exact Nat.zero_le _
  · have := slice_le es sp; omega
end Go.Proofs.YtcpnidomdkaefaaGreatDoor.bulks
end
section
namespace Go.Proofs.YtcpnidomdkaefaaGreatDoor
open Go.ChangeShapes Go.WideShapes Go.RowKit Go.Att

theorem kOwn : ownKnob Tryz.prog.godebug = none := by kernel_rfl
theorem kEt : Tryz.prog.globalNamed "errors.errorType" = some 0 := by kernel_rfl
theorem kRt : (Tryz.prog.cutTypes.find? (·.1 == "internal/reflectlite.rtype")).map (·.2) = some 212 := by kernel_rfl
theorem kOneRow : ((List.range 262).filter fun t => Tryz.prog.rowNamed t [101, 114, 114, 111, 114]) = [44] := by kernel_rfl
theorem kSize : Tryz.prog.types.size = 262 := by kernel_rfl
theorem kLaidOut : laidOutB Tryz.prog = true := by kernel_rfl

/-- What the condition gives a walk: the variable's one cell. -/
theorem handle_of_laid {W : World} (h : laidMetH Tryz.prog [("errors.errorType", Rows.laid_errors_errorType)] W) : Hnd W := by
  have h' : laidMet Tryz.prog [] W ∧ handlesMet Tryz.prog [("errors.errorType", Rows.laid_errors_errorType)] W := h
  obtain ⟨name, u, ty, e1, e2, e3, e4, e5⟩ := h'.2 _ (List.mem_singleton.2 rfl)
  have en : name = [101, 114, 114, 111, 114] := (Option.some.inj e1).symm
  subst en
  obtain rfl := Option.some.inj (kRt.symm.trans e2)
  have hm : ty ∈ (List.range 262).filter fun t => Tryz.prog.rowNamed t [101, 114, 114, 111, 114] := List.mem_filter.2 ⟨List.mem_range.2 (by rw [← kSize]; exact e3), e4⟩
  rw [kOneRow] at hm
  obtain rfl := List.mem_singleton.1 hm
  have hh : typeHandle Tryz.prog 44 = .pointer (some ⟨1, 44, none⟩) := by kernel_rfl
  rw [hh] at e5
  unfold Hnd
  simpa using World.var?_cell kEt e5 0

/-- A world that meets the condition: the settled one, the variable's cell laid. -/
noncomputable def laidWorld (os : Os) : World :=
  let w0 := World.holding Tryz.prog os ⟨#[], #[], []⟩
  { w0 with heap := w0.heap.modify 0 fun
      | .cells _ t frozen => .cells #[.iface 212 (.agg #[.pointer (some ⟨1, 44, none⟩)])] t frozen
      | o => o }
theorem laidWorld_met (os : Os) (args : Array Value) : laidMetH Tryz.prog [("errors.errorType", Rows.laid_errors_errorType)] ((laidWorld os).forCall (fun _ _ => 0) ⟨#[], args, []⟩).memory :=
  laidMetH_of_parts (laidMet_nil _ _) (by kernel_rfl)
end Go.Proofs.YtcpnidomdkaefaaGreatDoor
end
