/- What is wrong with a circuit, the document's side: contracts. -/
import Derived.Test.YthjemncbphdomaaDoorC1
import Derived.Test.YthjemncbphdomaaDoorF3
namespace Go.Att
open Go.RowKit
/-- The sizes are right. -/
def cirSizes (wd : Int) (Ls : List (List Tri)) : Prop := 0 ≤ wd ∧ wd ≤ 6 ∧ 1 ≤ Ls.length ∧ Ls.length ≤ 8 ∧ ∀ i, i < Ls.length → 0 ≤ wideOf (nthY Ls i).length
/-- How many there are beneath a layer. -/
def below (wd : Int) (Ls : List (List Tri)) (i : Nat) : Int := if i = 0 then 2 ^ wd.toNat else (nthY Ls (i - 1)).length
/-- .. how many variables these have. -/
def beneath (wd : Int) (Ls : List (List Tri)) (i : Nat) : Int := if i = 0 then wd else wideOf (nthY Ls (i - 1)).length
def gateOk (b : Int) (g : Tri) : Prop := 0 ≤ g.1 ∧ g.1 ≤ 1 ∧ 0 ≤ g.2.1 ∧ g.2.1 < b ∧ 0 ≤ g.2.2 ∧ g.2.2 < b
def cirGates (wd : Int) (Ls : List (List Tri)) : Prop := ∀ i, i < Ls.length → ∀ k, k < (nthY Ls i).length → gateOk (below wd Ls i) (nthT (nthY Ls i) k)
open Classical in
noncomputable def cirErr (wd : Int) (Ls : List (List Tri)) : Int := if cirSizes wd Ls then (if cirGates wd Ls then 0 else 3) else 2
theorem cirErr_two {wd : Int} {Ls : List (List Tri)} (h : ¬ cirSizes wd Ls) : cirErr wd Ls = 2 := by unfold cirErr; rw [if_neg h]
theorem cirErr_three {wd : Int} {Ls : List (List Tri)} (h : cirSizes wd Ls) (h2 : ¬ cirGates wd Ls) : cirErr wd Ls = 3 := by unfold cirErr; rw [if_pos h, if_neg h2]
theorem cirErr_zero {wd : Int} {Ls : List (List Tri)} (h : cirSizes wd Ls) (h2 : cirGates wd Ls) : cirErr wd Ls = 0 := by unfold cirErr; rw [if_pos h, if_pos h2]
theorem cirErr_ok {wd : Int} {Ls : List (List Tri)} (h : cirErr wd Ls = 0) : cirSizes wd Ls ∧ cirGates wd Ls := by
  apply Classical.byContradiction
  intro hc
  by_cases h1 : cirSizes wd Ls
  · rw [cirErr_three h1 (fun h2 => hc ⟨h1, h2⟩)] at h; omega
  · rw [cirErr_two h1] at h; omega
theorem beneath_bd {wd : Int} {Ls : List (List Tri)} (h : cirSizes wd Ls) {i : Nat} (hi : i < Ls.length) : 0 ≤ beneath wd Ls i ∧ beneath wd Ls i ≤ 6 := by
  unfold beneath
  split
  · exact ⟨h.1, h.2.1⟩
  · exact ⟨h.2.2.2.2 _ (by omega), (wideOf_bd _).2⟩
theorem below_pow {wd : Int} {Ls : List (List Tri)} (h : cirSizes wd Ls) {i : Nat} (hi : i < Ls.length) : below wd Ls i = 2 ^ (beneath wd Ls i).toNat := by
  unfold below beneath
  split
  · rfl
  · exact wideOf_pow (h.2.2.2.2 _ (by omega))
theorem gates_not {wd : Int} {Ls : List (List Tri)} {i k : Nat} (hi : i < Ls.length) (hk : k < (nthY Ls i).length) (h : ¬ gateOk (below wd Ls i) (nthT (nthY Ls i) k)) : ¬ cirGates wd Ls := fun hc => h (hc i hi k hk)
end Go.Att
namespace Go.Proofs.YthjemncbphdomaaDoor
open Go.RowKit Go.Att

set_option maxRecDepth 100000 in
set_option maxHeartbeats 1000000 in
theorem rbeneath_any (wd : Int) (lv : Value) (Ls : List (List Tri)) (R : Nat → Value) (i : Nat) (w : World) (hv : LysAt w lv Ls R) (hi : i < Ls.length) :
    Calls Tryd.prog 39 #[.agg #[.int .i64 wd, lv], .int .i64 i] w fun e w' => e = .returned (.int .i64 (beneath wd Ls i)) ∧ Ext w w' := by
  obtain ⟨ao, cap, rfl⟩ := hv.shape
  have hlen := hv.len
  have HV := Lib.hid hv
  by_cases h0 : i = 0
  · subst h0
    clear hv
    go_enter Tryd.func39, Tryd.ntmps39
    go_wp2_with fail
    go_ret
    exact ⟨rfl, Ext.alloc _ _⟩
  · have hb : ((i : Int) == 0) = false := by rw [beq_eq_false_iff_ne]; omega
    have hix := hv.run_index (P := Tryd.prog) slLayers (i - 1) (by omega)
    rw [show ((i - 1 : Nat) : Int) = (i : Int) - 1 by omega] at hix
    have hc := hv.cell (i - 1) (by omega)
    have hc' := (Ext.alloc w (Obj.cells #[.int .i64 wd, .slice ao Ls.length cap] 80)).cell hc
    have hrow := hv.row (i - 1) (by omega)
    have hln := hrow.run_len (P := Tryd.prog) slGates
    have hrl := hrow.len
    have E := Lib.hid (show beneath wd Ls i = wideOf (nthY Ls (i - 1)).length by unfold beneath; rw [if_neg h0])
    clear hv hc hrow
    go_enter Tryd.func39, Tryd.ntmps39
    go_wp2_with (go_at_call 35; refine (rwide_any _ _).mono ?_; rintro e w2 ⟨rfl, rfl⟩)
    go_ret
    exact ⟨ret_int E.out.symm, Ext.alloc _ _⟩
end Go.Proofs.YthjemncbphdomaaDoor
