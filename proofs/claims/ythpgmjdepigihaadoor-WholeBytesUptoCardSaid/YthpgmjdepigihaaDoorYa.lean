/- Bytes are read as a voucher: contract. -/
import Derived.Test.YthpgmjdepigihaaDoorY9
import Derived.Defers
import Derived.Recover
namespace Go.Att
open Go.RowKit
/-- Cells of a block of the call's own. -/
structure CellsAt (w : World) (b : Nat) (cs : List Value) : Prop where
  at_ : ∀ i (h : i < cs.length), w.cell? ⟨b, i, none⟩ = some cs[i]
  fr : ∀ i, i < cs.length → w.frozen? ⟨b, i, none⟩ = false
section
variable {w w' : World} {b : Nat} {cs : List Value}
theorem CellsAt.new (w : World) (cs : List Value) (t : TypeId) : CellsAt (w.alloc (Obj.cells cs.toArray t)) w.heap.size cs :=
  ⟨fun i h => by rw [cell_new]; simp [h], fun i h => by simp⟩
theorem CellsAt.grown (h : CellsAt w b cs) {bo : Option Nat} (hg : w.grownBy w' bo) (hne : some b ≠ bo) (hl : 0 < cs.length) : CellsAt w' b cs := by
  have hb := hg.block b (World.block_lt_of_cell? w ⟨b, 0, none⟩ (h.at_ 0 hl)) hne
  exact ⟨fun i hi => by rw [World.cell?_of_block (a := ⟨b, i, none⟩) hb]; exact h.at_ i hi, fun i hi => by rw [World.frozen?_of_block (a := ⟨b, i, none⟩) hb]; exact h.fr i hi⟩
theorem CellsAt.set (h : CellsAt w b cs) (i : Nat) (hi : i < cs.length) (v : Value) : CellsAt (w.setCell ⟨b, i, none⟩ v) b (cs.set i v) :=
  ⟨fun j hj => by
    rw [List.length_set] at hj
    by_cases e : i = j
    · subst e; rw [World.cell?_setCell_same _ _ _ (h.at_ i hi)]; simp
    · rw [World.cell?_setCell_other _ _ _ _ (by simp [e]), h.at_ j hj]; simp [e], fun j hj => by rw [World.frozen?_setCell]; rw [List.length_set] at hj; exact h.fr j hj⟩
end
def zeros12 : List Value := [.slice none 0 0, .slice none 0 0, .int .i64 0, .slice none 0 0, .slice none 0 0, .slice none 0 0, .slice none 0 0, .slice none 0 0, .slice none 0 0, .slice none 0 0, .slice none 0 0, .slice none 0 0]
theorem set12 (cs : List Value) (hl : cs.length = 12) : ((((((((((((cs.set 0 (.slice none 0 0)).set 1 (.slice none 0 0)).set 2 (.int .i64 0)).set 3 (.slice none 0 0)).set 4 (.slice none 0 0)).set 5 (.slice none 0 0)).set 6 (.slice none 0 0)).set 7 (.slice none 0 0)).set 8 (.slice none 0 0)).set 9 (.slice none 0 0)).set 10 (.slice none 0 0)).set 11 (.slice none 0 0)) = zeros12 := by
  match cs, hl with
  | [_, _, _, _, _, _, _, _, _, _, _, _], _ => rfl
/-- What the deferred call leaves of a panic. -/
def Caught (tn te : TypeId) (w : World) (b be : Nat) (older : List PanicEntry) (e : Ending) (u' : FrameMode) (w' : World) : Prop :=
  e = .returned (.tuple #[]) ∧ u' = .panicking ({ v := .iface tn (.agg #[]), recovered := true } :: older) ∧ (∀ i (h : i < zeros12.length), w'.cell? ⟨b, i, none⟩ = some zeros12[i]) ∧ w'.cell? ⟨be, 0, none⟩ = some (.iface te (.int .i64 5)) ∧ ∀ w0, Ext w0 w → w0.heap.size ≤ b → w0.heap.size ≤ be → Ext w0 w'
end Go.Att
namespace Go.Proofs.YthpgmjdepigihaaDoor
open Go.RowKit Go.Att
theorem rep16 : Array.replicate 16 undef = #[undef, undef, undef, undef, undef, undef, undef, undef, undef, undef, undef, undef, undef, undef, undef, undef] := rfl
set_option maxRecDepth 100000 in
set_option maxHeartbeats 1000000 in
theorem catch_idle (p r : Value) (w : World) :
    CallsD Tryd.prog 44 #[p, r] .returning w fun e u' w' => e = .returned (.tuple #[]) ∧ u' = .returning ∧ w = w' := by
  refine callsD_of_wpS Tryd.func44 rfl fun c₀ cs hu => ?_
  apply wpS_seq
  apply wpS_region
  simp [wpOpsS, go_sem, recoverD, hu, Tryd.ntmps44, Exit.thenS, rep16]
  refine wpS_of_wp ?_
  go_wp2_with fail
  cases c₀ with
  | mk a1 a2 a3 a4 a5 a6 a7 =>
  have hu' : a5 = .returning := hu
  subst hu'
  refine ⟨rfl, .returning, rfl, .tuple #[], ?_, rfl, rfl, rfl⟩
  simp [results, Tryd.results44]

set_option maxRecDepth 100000 in
set_option maxHeartbeats 1000000 in
theorem catch_panics (b be : Nat) (older : List PanicEntry) (w : World) (cs : List Value) (hc : CellsAt w b cs) (hl : cs.length = 12) (ev : Value) (h2 : w.cell? ⟨be, 0, none⟩ = some ev) (h3 : w.frozen? ⟨be, 0, none⟩ = false) (hne : b ≠ be) :
    CallsD Tryd.prog 44 #[.pointer (some ⟨b, 0, none⟩), .pointer (some ⟨be, 0, none⟩)] (.panicking ({ v := .iface 98 (.agg #[]), recovered := false } :: older)) w (Caught 98 100 w b be older) := by
  have hta : ∀ w, (Instr.typeAssert (.iface 98 (.agg #[])) 20 98 true).run Tryd.prog w = .ok (.tuple #[.agg #[], .bool true]) w := fun _ => by kernel_rfl
  have HC := hc.grown ((Ext.alloc w (Obj.cells #[] 98)).grownBy none) (by simp) (by omega)
  have hxa := Ext.alloc w (Obj.cells #[] 98)
  have e0 := hxa.cell h2
  have e1 : (w.alloc (Obj.cells #[] 98)).frozen? ⟨be, 0, none⟩ = false := by rw [World.frozen?_of_block (a := ⟨be, 0, none⟩) (hxa.below.block be (World.block_lt_of_cell? w ⟨be, 0, none⟩ h2))]; exact h3
  obtain ⟨v0, k0⟩ : ∃ v, (w.alloc (Obj.cells #[] 98)).cell? ⟨b, 0, none⟩ = some v := ⟨_, HC.at_ 0 (by rw [hl]; decide)⟩
  have f0 := HC.fr 0 (by rw [hl]; decide)
  obtain ⟨v1, k1⟩ : ∃ v, (w.alloc (Obj.cells #[] 98)).cell? ⟨b, 1, none⟩ = some v := ⟨_, HC.at_ 1 (by rw [hl]; decide)⟩
  have f1 := HC.fr 1 (by rw [hl]; decide)
  obtain ⟨v2, k2⟩ : ∃ v, (w.alloc (Obj.cells #[] 98)).cell? ⟨b, 2, none⟩ = some v := ⟨_, HC.at_ 2 (by rw [hl]; decide)⟩
  have f2 := HC.fr 2 (by rw [hl]; decide)
  obtain ⟨v3, k3⟩ : ∃ v, (w.alloc (Obj.cells #[] 98)).cell? ⟨b, 3, none⟩ = some v := ⟨_, HC.at_ 3 (by rw [hl]; decide)⟩
  have f3 := HC.fr 3 (by rw [hl]; decide)
  obtain ⟨v4, k4⟩ : ∃ v, (w.alloc (Obj.cells #[] 98)).cell? ⟨b, 4, none⟩ = some v := ⟨_, HC.at_ 4 (by rw [hl]; decide)⟩
  have f4 := HC.fr 4 (by rw [hl]; decide)
  obtain ⟨v5, k5⟩ : ∃ v, (w.alloc (Obj.cells #[] 98)).cell? ⟨b, 5, none⟩ = some v := ⟨_, HC.at_ 5 (by rw [hl]; decide)⟩
  have f5 := HC.fr 5 (by rw [hl]; decide)
  obtain ⟨v6, k6⟩ : ∃ v, (w.alloc (Obj.cells #[] 98)).cell? ⟨b, 6, none⟩ = some v := ⟨_, HC.at_ 6 (by rw [hl]; decide)⟩
  have f6 := HC.fr 6 (by rw [hl]; decide)
  obtain ⟨v7, k7⟩ : ∃ v, (w.alloc (Obj.cells #[] 98)).cell? ⟨b, 7, none⟩ = some v := ⟨_, HC.at_ 7 (by rw [hl]; decide)⟩
  have f7 := HC.fr 7 (by rw [hl]; decide)
  obtain ⟨v8, k8⟩ : ∃ v, (w.alloc (Obj.cells #[] 98)).cell? ⟨b, 8, none⟩ = some v := ⟨_, HC.at_ 8 (by rw [hl]; decide)⟩
  have f8 := HC.fr 8 (by rw [hl]; decide)
  obtain ⟨v9, k9⟩ : ∃ v, (w.alloc (Obj.cells #[] 98)).cell? ⟨b, 9, none⟩ = some v := ⟨_, HC.at_ 9 (by rw [hl]; decide)⟩
  have f9 := HC.fr 9 (by rw [hl]; decide)
  obtain ⟨v10, k10⟩ : ∃ v, (w.alloc (Obj.cells #[] 98)).cell? ⟨b, 10, none⟩ = some v := ⟨_, HC.at_ 10 (by rw [hl]; decide)⟩
  have f10 := HC.fr 10 (by rw [hl]; decide)
  obtain ⟨v11, k11⟩ : ∃ v, (w.alloc (Obj.cells #[] 98)).cell? ⟨b, 11, none⟩ = some v := ⟨_, HC.at_ 11 (by rw [hl]; decide)⟩
  have f11 := HC.fr 11 (by rw [hl]; decide)
  have HCC := Lib.hid HC; have HL := Lib.hid hl
  clear hc hl HC h2 h3 hxa
  refine callsD_of_wpS Tryd.func44 rfl fun c₀ cs hu => ?_
  apply wpS_seq
  apply wpS_region
  simp [wpOpsS, go_sem, recoverD, hu, Tryd.ntmps44, Exit.thenS, rep16]
  refine wpS_of_wp ?_
  go_wp2_with fail
  have D := (((((((((((((HCC.out.set 0 (by (try simp only [List.length_set]); rw [HL.out]; decide) (.slice none 0 0)).set 1 (by (try simp only [List.length_set]); rw [HL.out]; decide) (.slice none 0 0)).set 2 (by (try simp only [List.length_set]); rw [HL.out]; decide) (.int .i64 0)).set 3 (by (try simp only [List.length_set]); rw [HL.out]; decide) (.slice none 0 0)).set 4 (by (try simp only [List.length_set]); rw [HL.out]; decide) (.slice none 0 0)).set 5 (by (try simp only [List.length_set]); rw [HL.out]; decide) (.slice none 0 0)).set 6 (by (try simp only [List.length_set]); rw [HL.out]; decide) (.slice none 0 0)).set 7 (by (try simp only [List.length_set]); rw [HL.out]; decide) (.slice none 0 0)).set 8 (by (try simp only [List.length_set]); rw [HL.out]; decide) (.slice none 0 0)).set 9 (by (try simp only [List.length_set]); rw [HL.out]; decide) (.slice none 0 0)).set 10 (by (try simp only [List.length_set]); rw [HL.out]; decide) (.slice none 0 0)).set 11 (by (try simp only [List.length_set]); rw [HL.out]; decide) (.slice none 0 0))).grown (setCell_grown _ be 0 (.iface 100 (.int .i64 5))) (by simp [hne]) (by (try simp only [List.length_set]); rw [HL.out]; decide)
  rw [set12 _ HL.out] at D
  refine ⟨rfl, _, rfl, .tuple #[], ?_, rfl, rfl, D.at_, ?_, ?_⟩
  · simp [results, Tryd.results44]
  · refine World.cell?_setCell_same _ _ _ (?_ : _ = some ev)
    repeat (rw [World.cell?_setCell_other _ _ _ _ (by simp [hne])])
    exact e0
  · intro w0 hx h1 h2
    refine Below.setCell ?_ h2 _
    repeat (refine Below.setCell ?_ h1 _)
    exact hx.trans (Ext.alloc _ _)
end Go.Proofs.YthpgmjdepigihaaDoor
