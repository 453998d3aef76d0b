/- The chain, the program's side: what is told: contracts. -/
import Derived.Test.YtfepefbehgbjpaaGreatDoorSx
import Derived.Test.YtfepefbehgbjpaaGreatDoorZx11
import Derived.Test.YtfepefbehgbjpaaGreatDoorZx3
import Derived.Deep.RegionHeld3
import Derived.Deep.DrawnRows
import Derived.Deep.RegionWith
namespace Go.Att
open Go.RowKit
def Spg (w : World) (s : Value) (p : Int) (k : Nat) : Prop := ∃ (b bf : Nat) (rt g : Int) (fs : List Int), s = .pointer (some ⟨b, 0, none⟩) ∧ SpB w b (.pointer (some ⟨bf, 0, none⟩)) k rt (fun r j => finv p ((r : Int) + j + 8)) ∧ Fld w (.pointer (some ⟨bf, 0, none⟩)) p g fs ∧ (k : Int) ≤ 9223372036854775807
theorem Spg.ext {w w' : World} {s : Value} {p : Int} {k : Nat} (h : Spg w s p k) (hx : Ext w w') : Spg w' s p k := by
  obtain ⟨b, bf, rt, g, fs, h1, h2, h3, h4⟩ := h
  exact ⟨b, bf, rt, g, fs, h1, h2.ext hx, h3.ext hx, h4⟩
structure ChP (w : World) (b : Nat) (s : Value) (D : List Int) : Prop where
  c0 : w.cell? ⟨b, 0, none⟩ = some s
  c1 : ∃ v, w.cell? ⟨b, 1, none⟩ = some v ∧ Ints w v D
  f1 : w.frozen? ⟨b, 1, none⟩ = false
theorem ChP.ext {w w' : World} {b : Nat} {s : Value} {D : List Int} (h : ChP w b s D) (hx : Ext w w') : ChP w' b s D := by
  obtain ⟨v, h1, h2⟩ := h.c1
  exact ⟨hx.cell h.c0, ⟨v, hx.cell h1, h2.ext hx⟩, by rw [World.frozen?_of_block (hx.below.block b (World.block_lt_of_cell? w _ h.c0))]; exact h.f1⟩
end Go.Att
namespace Go.Proofs.YtfepefbehgbjpaaGreatDoor
open Go.RowKit Go.Att
theorem hashG_any {w : World} {s : Value} {p : Int} {k : Nat} (hs : Spg w s p k) (v : Value) (l : List Int) (hv : Ints w v l) (hl : l.length ≤ 4294967000) :
    Calls Tryz.prog 71 #[s, v] w (Gives w fun u w' => Ints w' u (hashP p k l) ∧ NewIn w u) := by
  obtain ⟨b, bf, rt, g, fs, rfl, h2, h3, h4⟩ := hs
  exact hash_any h2 h3 h4 v l hv hl
set_option maxRecDepth 100000 in
set_option maxHeartbeats 8000000 in
theorem told_any {w : World} {cb bs : Nat} {p : Int} {k : Nat} (kind : Int) {vd : Value} {v : Value} {L : List (List Int)} {R : Nat → Value} (h0 : w.cell? ⟨cb, 0, none⟩ = some (.pointer (some ⟨bs, 0, none⟩))) (h1 : w.cell? ⟨cb, 1, none⟩ = some vd) (hd4 : ∀ n, vd ≠ Value.int .i64 n) (f1 : w.frozen? ⟨cb, 1, none⟩ = false) (hs : Spg w (.pointer (some ⟨bs, 0, none⟩)) p k) (hr : RwsAt w v L R) (hb : L.flatten.length ≤ 4294960000) (hc : L.length ≤ 4294967000) :
    Calls Tryz.prog 22 #[.pointer (some ⟨cb, 0, none⟩), .int .i64 kind, v] w fun e w' => e = .returned (.tuple #[]) ∧ w.grownBy w' (some cb) ∧ ChP w' cb (.pointer (some ⟨bs, 0, none⟩)) (hashP p k (kind :: L.flatten)) ∧ DigNew w w' cb := by
  have HS := Lib.hid hs; have HR := Lib.hid hr
  clear hs hr
  go_enter Tryz.func22, Tryz.ntmps22
  go_wp2_with fail
  have e0 := fun W (h : Ext w W) => h.cell h0
  refine wp_region_ext 13 [SP.eq (.pointer (some ⟨cb, 0, none⟩)), SP.eq (.pointer (some ⟨cb, 0, none⟩)), SP.eq (.pointer (some ⟨cb, 0, none⟩)), SP.eq (.pointer (some ⟨cb, 0, none⟩)), SP.eq (.pointer (some ⟨bs, 0, none⟩)), SP.eq (.int .i64 kind), SP.lit 3 [.int .i64 kind], SP.eq v, SP.ints L.flatten, SP.ints (kind :: L.flatten), SP.both (SP.ints (hashP p k (kind :: L.flatten))) (SP.is (NewIn w)), SP.eq (.pointer (some ⟨cb, 0, none⟩)), SP.eq (.pointer (some ⟨cb, 1, none⟩))] (by kernel_rfl) (by kernel_rfl) (by kernel_rfl) ?_ ?_
  · refine ⟨?_, ?_, ?_, ?_, ?_, ?_, ?_, ?_, ?_, ?_, ?_, ?_, ?_, trivial⟩
    · refine ExtStep.mk rfl fun vs W hx hd => ?_
      simp only [fillA, fillL, dstL, List.take_succ_cons, List.take_zero, List.filterMap_cons, List.filterMap_nil, List.contains_cons, List.contains_nil, Nat.reduceAdd, Nat.zero_add, Nat.reduceBEq, Bool.or_false, Bool.or_true, Bool.false_eq_true, ↓reduceIte]
      go_wp2_with fail
      exact ⟨by trivial, Ext.refl _, rfl⟩
    · refine ExtStep.mk rfl fun vs W hx hd => ?_
      simp only [fillA, fillL, dstL, List.take_succ_cons, List.take_zero, List.filterMap_cons, List.filterMap_nil, List.contains_cons, List.contains_nil, Nat.reduceAdd, Nat.zero_add, Nat.reduceBEq, Bool.or_false, Bool.or_true, Bool.false_eq_true, ↓reduceIte]
      go_wp2_with fail
      exact ⟨by trivial, Ext.refl _, rfl⟩
    · refine ExtStep.mk rfl fun vs W hx hd => ?_
      simp only [fillA, fillL, dstL, List.take_succ_cons, List.take_zero, List.filterMap_cons, List.filterMap_nil, List.contains_cons, List.contains_nil, Nat.reduceAdd, Nat.zero_add, Nat.reduceBEq, Bool.or_false, Bool.or_true, Bool.false_eq_true, ↓reduceIte]
      have e7 : vs 7 = (.pointer (some ⟨cb, 0, none⟩)) := hd 1 (by kernel_rfl)
      rw [e7]
      go_wp2_with fail
      exact ⟨by trivial, Ext.refl _, rfl⟩
    · refine ExtStep.mk rfl fun vs W hx hd => ?_
      simp only [fillA, fillL, dstL, List.take_succ_cons, List.take_zero, List.filterMap_cons, List.filterMap_nil, List.contains_cons, List.contains_nil, Nat.reduceAdd, Nat.zero_add, Nat.reduceBEq, Bool.or_false, Bool.or_true, Bool.false_eq_true, ↓reduceIte]
      have e8 : vs 8 = (.pointer (some ⟨cb, 0, none⟩)) := hd 2 (by kernel_rfl)
      rw [e8]
      go_wp2_with fail
      exact ⟨by trivial, Ext.refl _, rfl⟩
    · refine ExtStep.mk rfl fun vs W hx hd => ?_
      simp only [fillA, fillL, dstL, List.take_succ_cons, List.take_zero, List.filterMap_cons, List.filterMap_nil, List.contains_cons, List.contains_nil, Nat.reduceAdd, Nat.zero_add, Nat.reduceBEq, Bool.or_false, Bool.or_true, Bool.false_eq_true, ↓reduceIte]
      have e9 : vs 9 = (.pointer (some ⟨cb, 0, none⟩)) := hd 3 (by kernel_rfl)
      rw [e9]
      have hc0 := e0 W hx
      go_wp2_with fail
      exact ⟨by trivial, Ext.refl _, rfl⟩
    · refine ExtStep.mk rfl fun vs W hx hd => ?_
      simp only [fillA, fillL, dstL, List.take_succ_cons, List.take_zero, List.filterMap_cons, List.filterMap_nil, List.contains_cons, List.contains_nil, Nat.reduceAdd, Nat.zero_add, Nat.reduceBEq, Bool.or_false, Bool.or_true, Bool.false_eq_true, ↓reduceIte]
      go_wp2_with fail
      exact ⟨by trivial, Ext.refl _, rfl⟩
    · refine ExtStep.mk rfl fun vs W hx hd => ?_
      simp only [fillA, fillL, dstL, List.take_succ_cons, List.take_zero, List.filterMap_cons, List.filterMap_nil, List.contains_cons, List.contains_nil, Nat.reduceAdd, Nat.zero_add, Nat.reduceBEq, Bool.or_false, Bool.or_true, Bool.false_eq_true, ↓reduceIte]
      have e11 : vs 11 = .int .i64 kind := hd 5 (by kernel_rfl)
      rw [e11]
      go_wp2_with fail
      exact ⟨by trivial, Ext.alloc _ _, ⟨W.heap.size, rfl, heap_alloc_new W _⟩⟩
    · refine ExtStep.mk rfl fun vs W hx hd => ?_
      simp only [fillA, fillL, dstL, List.take_succ_cons, List.take_zero, List.filterMap_cons, List.filterMap_nil, List.contains_cons, List.contains_nil, Nat.reduceAdd, Nat.zero_add, Nat.reduceBEq, Bool.or_false, Bool.or_true, Bool.false_eq_true, ↓reduceIte]
      go_wp2_with fail
      exact ⟨by trivial, Ext.refl _, rfl⟩
    · refine ExtStep.mk rfl fun vs W hx hd => ?_
      simp only [fillA, fillL, dstL, List.take_succ_cons, List.take_zero, List.filterMap_cons, List.filterMap_nil, List.contains_cons, List.contains_nil, Nat.reduceAdd, Nat.zero_add, Nat.reduceBEq, Bool.or_false, Bool.or_true, Bool.false_eq_true, ↓reduceIte]
      have e13 : vs 13 = v := hd 7 (by kernel_rfl)
      rw [e13]
      go_wp2_with (go_at_call 72; refine (concat_any (HR.out.ext hx) (by omega) hc).mono ?_; rintro e w3 ⟨v3, rfl, hx3, ho3⟩)
      exact ⟨by trivial, hx3, Ints.of_own ho3⟩
    · refine ExtStep.mk rfl fun vs W hx hd => ?_
      simp only [fillA, fillL, dstL, List.take_succ_cons, List.take_zero, List.filterMap_cons, List.filterMap_nil, List.contains_cons, List.contains_nil, Nat.reduceAdd, Nat.zero_add, Nat.reduceBEq, Bool.or_false, Bool.or_true, Bool.false_eq_true, ↓reduceIte]
      obtain ⟨g6, e12, hg6⟩ : ∃ g, vs 12 = .slice (some ⟨g, 0, none⟩) 1 1 ∧ W.heap[g]? = some (.cells #[.int .i64 kind] 3 (0, 0)) := hd 6 (by kernel_rfl)
      have h14 : Ints W (vs 14) L.flatten := hd 8 (by kernel_rfl)
      obtain ⟨v', w', hr, hx', hs'⟩ := run_append_lit (P := Tryz.prog) slInts rfl (xs := [.int .i64 kind]) hg6 h14 (by intro u hu; simp only [List.mem_map] at hu; obtain ⟨_, _, rfl⟩ := hu; rfl) (by show 1 + L.flatten.length ≤ _; omega) (by omega) 22
      have HR' := Lib.hid hr
      rw [e12]
      clear hr
      go_wp2_with (at_builtin; refine Lib.wpList_append_run _ rfl _ _ _ _ rfl _ _ rfl rfl _ _ HR'.out ?_)
      exact ⟨by trivial, hx', by have h := hs'; rw [show [Value.int .i64 kind].length + L.flatten.length = (kind :: L.flatten).length from by rw [List.length_cons]; show 1 + _ = _ + 1; omega] at h; exact h⟩
    · refine ExtStep.mk rfl fun vs W hx hd => ?_
      simp only [fillA, fillL, dstL, List.take_succ_cons, List.take_zero, List.filterMap_cons, List.filterMap_nil, List.contains_cons, List.contains_nil, Nat.reduceAdd, Nat.zero_add, Nat.reduceBEq, Bool.or_false, Bool.or_true, Bool.false_eq_true, ↓reduceIte]
      have e10 : vs 10 = .pointer (some ⟨bs, 0, none⟩) := hd 4 (by kernel_rfl)
      have h15 : Ints W (vs 15) (kind :: L.flatten) := hd 9 (by kernel_rfl)
      rw [e10]
      go_wp2_with (go_at_call 71; refine (hashG_any (HS.out.ext hx) _ (kind :: L.flatten) h15 (by rw [List.length_cons]; omega)).mono ?_; rintro e w3 ⟨v3, rfl, hx3, hi3, hn3⟩)
      exact ⟨by trivial, hx3, hi3, hn3.mono hx.size⟩
    · refine ExtStep.mk rfl fun vs W hx hd => ?_
      simp only [fillA, fillL, dstL, List.take_succ_cons, List.take_zero, List.filterMap_cons, List.filterMap_nil, List.contains_cons, List.contains_nil, Nat.reduceAdd, Nat.zero_add, Nat.reduceBEq, Bool.or_false, Bool.or_true, Bool.false_eq_true, ↓reduceIte]
      have e6 : vs 6 = (.pointer (some ⟨cb, 0, none⟩)) := hd 0 (by kernel_rfl)
      rw [e6]
      go_wp2_with fail
      exact ⟨by trivial, Ext.refl _, rfl⟩
    · refine ExtStep.mk rfl fun vs W hx hd => ?_
      simp only [fillA, fillL, dstL, List.take_succ_cons, List.take_zero, List.filterMap_cons, List.filterMap_nil, List.contains_cons, List.contains_nil, Nat.reduceAdd, Nat.zero_add, Nat.reduceBEq, Bool.or_false, Bool.or_true, Bool.false_eq_true, ↓reduceIte]
      have e17 : vs 17 = (.pointer (some ⟨cb, 0, none⟩)) := hd 11 (by kernel_rfl)
      rw [e17]
      go_wp2_with fail
      exact ⟨by trivial, Ext.refl _, rfl⟩
  · intro vs W hx hall
    have e18 : vs 18 = .pointer (some ⟨cb, 1, none⟩) := hall.at 12 (by omega) rfl
    obtain ⟨h16, hnw⟩ : Ints W (vs 16) (hashP p k (kind :: L.flatten)) ∧ NewIn w (vs 16) := hall.at 10 (by omega) rfl
    clear hall
    simp only [fillA, fillL, dstL, List.take_succ_cons, List.take_zero, List.filterMap_cons, List.filterMap_nil, List.contains_cons, List.contains_nil, Nat.reduceAdd, Nat.zero_add, Nat.reduceBEq, Bool.or_false, Bool.or_true, Bool.false_eq_true, ↓reduceIte]
    rw [e18]
    obtain ⟨a3, c3, e16⟩ := h16.shape
    rw [e16] at h16 hnw ⊢
    have d1 := hx.cell h1
    have d0 := hx.cell h0
    have f3 : W.frozen? ⟨cb, 1, none⟩ = false := by rw [World.frozen?_of_block (hx.below.block cb (World.block_lt_of_cell? w _ h1))]; exact f1
    have HI := Lib.hid h16; have HNW := Lib.hid hnw
    clear h16 hnw
    go_wp2_with fail
    have hg : w.grownBy (W.setCell ⟨cb, 1, none⟩ (.slice a3 (hashP p k (kind :: L.flatten)).length c3)) (some cb) := (hx.grownBy _).trans (setCell_grown _ _ _ _)
    refine bodyPost_end (results_none rfl _ _ _) rfl ⟨rfl, hg, ⟨?_, ⟨_, World.cell?_setCell_same _ _ _ d1, ints_setCell HI.out d1 hd4 _⟩, ?_⟩, fun v hv => ?_⟩
    · rw [World.cell?_setCell_other _ _ _ _ (by simp)]; exact d0
    · rw [World.frozen?_setCell]; exact f3
    · rw [World.cell?_setCell_same _ _ _ d1] at hv
      rw [← Option.some.inj hv]; exact HNW.out
end Go.Proofs.YtfepefbehgbjpaaGreatDoor
