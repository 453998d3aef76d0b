/- The chain, the program's side: what is told: contracts. The chain, the program's side: begun, told, drawn from: contracts. The chain of a circuit is begun, on both sides: contracts. -/
import Derived.Test.YtcpnidomdkaefaaGreatDoorSx
import Derived.Test.YtcpnidomdkaefaaGreatDoorZx13
import Derived.Test.YtcpnidomdkaefaaGreatDoorZx20
import Derived.Deep.RegionHeld3
import Derived.Deep.DrawnRows
import Derived.Deep.RegionWith
import Derived.Test.YtcpnidomdkaefaaGreatDoorZx6
section
namespace Go.Att
open Go.RowKit
/-- A sponge with its field. -/
def Spg (w : World) (s : Value) (p : Int) (k : Nat) : Prop := ∃ (b bf : Nat) (rt g : Int) (fs : List Int), s = .pointer (some ⟨b, 0, none⟩) ∧ SpB w b (.pointer (some ⟨bf, 0, none⟩)) k rt (fun r j => finv p ((r : Int) + j + 8)) ∧ Fld w (.pointer (some ⟨bf, 0, none⟩)) p g fs ∧ (k : Int) ≤ 9223372036854775807
theorem Spg.ext {w w' : World} {s : Value} {p : Int} {k : Nat} (h : Spg w s p k) (hx : Ext w w') : Spg w' s p k := by
  obtain ⟨b, bf, rt, g, fs, h1, h2, h3, h4⟩ := h
  exact ⟨b, bf, rt, g, fs, h1, h2.ext hx, h3.ext hx, h4⟩
/-- A chain of the program's, in block b: the sponge, what was said. -/
structure ChP (w : World) (b : Nat) (s : Value) (D : List Int) : Prop where
  c0 : w.cell? ⟨b, 0, none⟩ = some s
  c1 : ∃ v, w.cell? ⟨b, 1, none⟩ = some v ∧ Ints w v D
  f1 : w.frozen? ⟨b, 1, none⟩ = false
theorem ChP.ext {w w' : World} {b : Nat} {s : Value} {D : List Int} (h : ChP w b s D) (hx : Ext w w') : ChP w' b s D := by
  obtain ⟨v, h1, h2⟩ := h.c1
  exact ⟨hx.cell h.c0, ⟨v, hx.cell h1, h2.ext hx⟩, by rw [World.frozen?_of_block (hx.below.block b (World.block_lt_of_cell? w _ h.c0))]; exact h.f1⟩
end Go.Att
namespace Go.Proofs.YtcpnidomdkaefaaGreatDoor
open Go.RowKit Go.Att
theorem hashG_any {w : World} {s : Value} {p : Int} {k : Nat} (hs : Spg w s p k) (v : Value) (l : List Int) (hv : Ints w v l) (hl : l.length ≤ 4294967000) :
    Calls Tryz.prog 16 #[s, v] w (Gives w fun u w' => Ints w' u (hashP p k l) ∧ NewIn w u) := by
  obtain ⟨b, bf, rt, g, fs, rfl, h2, h3, h4⟩ := hs
  exact hash_any h2 h3 h4 v l hv hl
set_option maxRecDepth 100000 in
set_option maxHeartbeats 8000000 in
theorem told_any {w : World} {cb bs : Nat} {p : Int} {k : Nat} (kind : Int) {vd : Value} {v : Value} {L : List (List Int)} {R : Nat → Value} (h0 : w.cell? ⟨cb, 0, none⟩ = some (.pointer (some ⟨bs, 0, none⟩))) (h1 : w.cell? ⟨cb, 1, none⟩ = some vd) (hd4 : ∀ n, vd ≠ Value.int .i64 n) (f1 : w.frozen? ⟨cb, 1, none⟩ = false) (hs : Spg w (.pointer (some ⟨bs, 0, none⟩)) p k) (hr : RwsAt w v L R) (hb : L.flatten.length ≤ 4294960000) (hc : L.length ≤ 4294967000) :
    Calls Tryz.prog 29 #[.pointer (some ⟨cb, 0, none⟩), .int .i64 kind, v] w fun e w' => e = .returned (.tuple #[]) ∧ w.grownBy w' (some cb) ∧ ChP w' cb (.pointer (some ⟨bs, 0, none⟩)) (hashP p k (kind :: L.flatten)) ∧ DigNew w w' cb := by
  have HS := Lib.hid hs; have HR := Lib.hid hr
  clear hs hr
  go_enter Tryz.func29, Tryz.ntmps29
  go_wp2_with fail
  have e0 := fun W (h : Ext w W) => h.cell h0
  refine wp_region_ext 13 [SP.eq (.pointer (some ⟨cb, 0, none⟩)), SP.eq (.pointer (some ⟨cb, 0, none⟩)), SP.eq (.pointer (some ⟨cb, 0, none⟩)), SP.eq (.pointer (some ⟨cb, 0, none⟩)), SP.eq (.pointer (some ⟨bs, 0, none⟩)), SP.eq (.int .i64 kind), SP.lit 3 [.int .i64 kind], SP.eq v, SP.ints L.flatten, SP.ints (kind :: L.flatten), SP.both (SP.ints (hashP p k (kind :: L.flatten))) (SP.is (NewIn w)), SP.eq (.pointer (some ⟨cb, 0, none⟩)), SP.eq (.pointer (some ⟨cb, 1, none⟩))] (by kernel_rfl) (by kernel_rfl) (by kernel_rfl) ?_ ?_
  · refine ⟨?_, ?_, ?_, ?_, ?_, ?_, ?_, ?_, ?_, ?_, ?_, ?_, ?_, trivial⟩
    · refine ExtStep.mk rfl fun vs W hx hd => ?_
      simp only [fillA, fillL, dstL, List.take_succ_cons, List.take_zero, List.filterMap_cons, List.filterMap_nil, List.contains_cons, List.contains_nil, Nat.reduceAdd, Nat.zero_add, Nat.reduceBEq, Bool.or_false, Bool.or_true, Bool.false_eq_true, ↓reduceIte]
      go_wp2_with fail
      exact ⟨by trivial, Ext.refl _, rfl⟩
    · refine ExtStep.mk rfl fun vs W hx hd => ?_
      simp only [fillA, fillL, dstL, List.take_succ_cons, List.take_zero, List.filterMap_cons, List.filterMap_nil, List.contains_cons, List.contains_nil, Nat.reduceAdd, Nat.zero_add, Nat.reduceBEq, Bool.or_false, Bool.or_true, Bool.false_eq_true, ↓reduceIte]
      go_wp2_with fail
      exact ⟨by trivial, Ext.refl _, rfl⟩
    · refine ExtStep.mk rfl fun vs W hx hd => ?_
      simp only [fillA, fillL, dstL, List.take_succ_cons, List.take_zero, List.filterMap_cons, List.filterMap_nil, List.contains_cons, List.contains_nil, Nat.reduceAdd, Nat.zero_add, Nat.reduceBEq, Bool.or_false, Bool.or_true, Bool.false_eq_true, ↓reduceIte]
      have e7 : vs 7 = (.pointer (some ⟨cb, 0, none⟩)) := hd 1 (by kernel_rfl)
      rw [e7]
      go_wp2_with fail
      exact ⟨by trivial, Ext.refl _, rfl⟩
    · refine ExtStep.mk rfl fun vs W hx hd => ?_
      simp only [fillA, fillL, dstL, List.take_succ_cons, List.take_zero, List.filterMap_cons, List.filterMap_nil, List.contains_cons, List.contains_nil, Nat.reduceAdd, Nat.zero_add, Nat.reduceBEq, Bool.or_false, Bool.or_true, Bool.false_eq_true, ↓reduceIte]
      have e8 : vs 8 = (.pointer (some ⟨cb, 0, none⟩)) := hd 2 (by kernel_rfl)
      rw [e8]
      go_wp2_with fail
      exact ⟨by trivial, Ext.refl _, rfl⟩
    · refine ExtStep.mk rfl fun vs W hx hd => ?_
      simp only [fillA, fillL, dstL, List.take_succ_cons, List.take_zero, List.filterMap_cons, List.filterMap_nil, List.contains_cons, List.contains_nil, Nat.reduceAdd, Nat.zero_add, Nat.reduceBEq, Bool.or_false, Bool.or_true, Bool.false_eq_true, ↓reduceIte]
      have e9 : vs 9 = (.pointer (some ⟨cb, 0, none⟩)) := hd 3 (by kernel_rfl)
      rw [e9]
      have hc0 := e0 W hx
      go_wp2_with fail
      exact ⟨by trivial, Ext.refl _, rfl⟩
    · refine ExtStep.mk rfl fun vs W hx hd => ?_
      simp only [fillA, fillL, dstL, List.take_succ_cons, List.take_zero, List.filterMap_cons, List.filterMap_nil, List.contains_cons, List.contains_nil, Nat.reduceAdd, Nat.zero_add, Nat.reduceBEq, Bool.or_false, Bool.or_true, Bool.false_eq_true, ↓reduceIte]
      go_wp2_with fail
      exact ⟨by trivial, Ext.refl _, rfl⟩
    · refine ExtStep.mk rfl fun vs W hx hd => ?_
      simp only [fillA, fillL, dstL, List.take_succ_cons, List.take_zero, List.filterMap_cons, List.filterMap_nil, List.contains_cons, List.contains_nil, Nat.reduceAdd, Nat.zero_add, Nat.reduceBEq, Bool.or_false, Bool.or_true, Bool.false_eq_true, ↓reduceIte]
      have e11 : vs 11 = .int .i64 kind := hd 5 (by kernel_rfl)
      rw [e11]
      go_wp2_with fail
      exact ⟨by trivial, Ext.alloc _ _, ⟨W.heap.size, rfl, heap_alloc_new W _⟩⟩
    · refine ExtStep.mk rfl fun vs W hx hd => ?_
      simp only [fillA, fillL, dstL, List.take_succ_cons, List.take_zero, List.filterMap_cons, List.filterMap_nil, List.contains_cons, List.contains_nil, Nat.reduceAdd, Nat.zero_add, Nat.reduceBEq, Bool.or_false, Bool.or_true, Bool.false_eq_true, ↓reduceIte]
      go_wp2_with fail
      exact ⟨by trivial, Ext.refl _, rfl⟩
    · refine ExtStep.mk rfl fun vs W hx hd => ?_
      simp only [fillA, fillL, dstL, List.take_succ_cons, List.take_zero, List.filterMap_cons, List.filterMap_nil, List.contains_cons, List.contains_nil, Nat.reduceAdd, Nat.zero_add, Nat.reduceBEq, Bool.or_false, Bool.or_true, Bool.false_eq_true, ↓reduceIte]
      have e13 : vs 13 = v := hd 7 (by kernel_rfl)
      rw [e13]
      go_wp2_with (go_at_call 88; refine (concat_any (HR.out.ext hx) (by omega) hc).mono ?_; rintro e w3 ⟨v3, rfl, hx3, ho3⟩)
      exact ⟨by trivial, hx3, Ints.of_own ho3⟩
    · refine ExtStep.mk rfl fun vs W hx hd => ?_
      simp only [fillA, fillL, dstL, List.take_succ_cons, List.take_zero, List.filterMap_cons, List.filterMap_nil, List.contains_cons, List.contains_nil, Nat.reduceAdd, Nat.zero_add, Nat.reduceBEq, Bool.or_false, Bool.or_true, Bool.false_eq_true, ↓reduceIte]
      obtain ⟨g6, e12, hg6⟩ : ∃ g, vs 12 = .slice (some ⟨g, 0, none⟩) 1 1 ∧ W.heap[g]? = some (.cells #[.int .i64 kind] 3 (0, 0)) := hd 6 (by kernel_rfl)
      have h14 : Ints W (vs 14) L.flatten := hd 8 (by kernel_rfl)
      obtain ⟨v', w', hr, hx', hs'⟩ := run_append_lit (P := Tryz.prog) slInts rfl (xs := [.int .i64 kind]) hg6 h14 (by intro u hu; simp only [List.mem_map] at hu; obtain ⟨_, _, rfl⟩ := hu; rfl) (by show 1 + L.flatten.length ≤ _; omega) (by omega) 22
      have HR' := Lib.hid hr
      rw [e12]
      clear hr
      go_wp2_with (at_builtin; refine Lib.wpList_append_run _ rfl _ _ _ _ rfl _ _ rfl rfl _ _ HR'.out ?_)
      exact ⟨by trivial, hx', by have h := hs'; rw [show [Value.int .i64 kind].length + L.flatten.length = (kind :: L.flatten).length from by rw [List.length_cons]; show 1 + _ = _ + 1; omega] at h; exact h⟩
    · refine ExtStep.mk rfl fun vs W hx hd => ?_
      simp only [fillA, fillL, dstL, List.take_succ_cons, List.take_zero, List.filterMap_cons, List.filterMap_nil, List.contains_cons, List.contains_nil, Nat.reduceAdd, Nat.zero_add, Nat.reduceBEq, Bool.or_false, Bool.or_true, Bool.false_eq_true, ↓reduceIte]
      have e10 : vs 10 = .pointer (some ⟨bs, 0, none⟩) := hd 4 (by kernel_rfl)
      have h15 : Ints W (vs 15) (kind :: L.flatten) := hd 9 (by kernel_rfl)
      rw [e10]
      go_wp2_with (go_at_call 16; refine (hashG_any (HS.out.ext hx) _ (kind :: L.flatten) h15 (by rw [List.length_cons]; omega)).mono ?_; rintro e w3 ⟨v3, rfl, hx3, hi3, hn3⟩)
      exact ⟨by trivial, hx3, hi3, hn3.mono hx.size⟩
    · refine ExtStep.mk rfl fun vs W hx hd => ?_
      simp only [fillA, fillL, dstL, List.take_succ_cons, List.take_zero, List.filterMap_cons, List.filterMap_nil, List.contains_cons, List.contains_nil, Nat.reduceAdd, Nat.zero_add, Nat.reduceBEq, Bool.or_false, Bool.or_true, Bool.false_eq_true, ↓reduceIte]
      have e6 : vs 6 = (.pointer (some ⟨cb, 0, none⟩)) := hd 0 (by kernel_rfl)
      rw [e6]
      go_wp2_with fail
      exact ⟨by trivial, Ext.refl _, rfl⟩
    · refine ExtStep.mk rfl fun vs W hx hd => ?_
      simp only [fillA, fillL, dstL, List.take_succ_cons, List.take_zero, List.filterMap_cons, List.filterMap_nil, List.contains_cons, List.contains_nil, Nat.reduceAdd, Nat.zero_add, Nat.reduceBEq, Bool.or_false, Bool.or_true, Bool.false_eq_true, ↓reduceIte]
      have e17 : vs 17 = (.pointer (some ⟨cb, 0, none⟩)) := hd 11 (by kernel_rfl)
      rw [e17]
      go_wp2_with fail
      exact ⟨by trivial, Ext.refl _, rfl⟩
  · intro vs W hx hall
    have e18 : vs 18 = .pointer (some ⟨cb, 1, none⟩) := hall.at 12 (by omega) rfl
    obtain ⟨h16, hnw⟩ : Ints W (vs 16) (hashP p k (kind :: L.flatten)) ∧ NewIn w (vs 16) := hall.at 10 (by omega) rfl
    clear hall
    simp only [fillA, fillL, dstL, List.take_succ_cons, List.take_zero, List.filterMap_cons, List.filterMap_nil, List.contains_cons, List.contains_nil, Nat.reduceAdd, Nat.zero_add, Nat.reduceBEq, Bool.or_false, Bool.or_true, Bool.false_eq_true, ↓reduceIte]
    rw [e18]
    obtain ⟨a3, c3, e16⟩ := h16.shape
    rw [e16] at h16 hnw ⊢
    have d1 := hx.cell h1
    have d0 := hx.cell h0
    have f3 : W.frozen? ⟨cb, 1, none⟩ = false := by rw [World.frozen?_of_block (hx.below.block cb (World.block_lt_of_cell? w _ h1))]; exact f1
    have HI := Lib.hid h16; have HNW := Lib.hid hnw
    clear h16 hnw
    go_wp2_with fail
    have hg : w.grownBy (W.setCell ⟨cb, 1, none⟩ (.slice a3 (hashP p k (kind :: L.flatten)).length c3)) (some cb) := (hx.grownBy _).trans (setCell_grown _ _ _ _)
    refine bodyPost_end (results_none rfl _ _ _) rfl ⟨rfl, hg, ⟨?_, ⟨_, World.cell?_setCell_same _ _ _ d1, ints_setCell HI.out d1 hd4 _⟩, ?_⟩, fun v hv => ?_⟩
    · rw [World.cell?_setCell_other _ _ _ _ (by simp)]; exact d0
    · rw [World.frozen?_setCell]; exact f3
    · rw [World.cell?_setCell_same _ _ _ d1] at hv
      rw [← Option.some.inj hv]; exact HNW.out
end Go.Proofs.YtcpnidomdkaefaaGreatDoor
end
section
namespace Go.Att
open Go.RowKit
theorem ChP.grown {w w' : World} {b : Nat} {q : Option Nat} {s : Value} {D : List Int} (h : ChP w b s D) (hg : w.grownBy w' q) (hb : some b ≠ q) (hn : ∀ v, w.cell? ⟨b, 1, none⟩ = some v → ∀ k, v.ownBlock = some k → some k ≠ q) : ChP w' b s D := by
  obtain ⟨v, h1, h2⟩ := h.c1
  refine ⟨hg.cell h.c0 hb, ⟨v, hg.cell h1 hb, h2.grown hg fun k hk e => hn v h1 k hk e⟩, ?_⟩
  rw [World.frozen?_of_block (hg.block b (World.block_lt_of_cell? w _ h.c0) hb)]; exact h.f1
theorem ChP.lt {w : World} {b : Nat} {s : Value} {D : List Int} (h : ChP w b s D) : b < w.heap.size := World.block_lt_of_cell? w _ h.c0
theorem rows_lit1 {w : World} {v : Value} {l : List Int} (h : Ints w v l) (e : TypeId) : RwsAt (w.alloc (.cells #[v] e)) (.slice (some ⟨w.heap.size, 0, none⟩) 1 1) [l] (fun _ => v) :=
  ⟨⟨some ⟨w.heap.size, 0, none⟩, 1, rfl, rfl, Nat.le_refl _, by unfold maxLen; omega, fun i hi => ⟨w.heap.size, 0, rfl, by
    have : i = 0 := by simpa using hi
    subst this
    rw [cell_new]; rfl⟩⟩, fun i hi => by
    have : i = 0 := by simpa using hi
    subst this
    exact h.ext (Ext.alloc _ _)⟩
theorem rows_lit2 {w : World} {v u : Value} {l m : List Int} (h : Ints w v l) (h' : Ints w u m) (e : TypeId) : RwsAt (w.alloc (.cells #[v, u] e)) (.slice (some ⟨w.heap.size, 0, none⟩) 2 2) [l, m] (fun i => if i = 0 then v else u) :=
  ⟨⟨some ⟨w.heap.size, 0, none⟩, 2, rfl, rfl, Nat.le_refl _, by unfold maxLen; omega, fun i hi => ⟨w.heap.size, 0, rfl, by
    have : i = 0 ∨ i = 1 := by simp at hi; omega
    rcases this with rfl | rfl
    · rw [cell_new]; rfl
    · rw [cell_new]; rfl⟩⟩, fun i hi => by
    have : i = 0 ∨ i = 1 := by simp at hi; omega
    rcases this with rfl | rfl
    · exact h.ext (Ext.alloc _ _)
    · exact h'.ext (Ext.alloc _ _)⟩
/-- The chain behind so many draws. -/
def drwS (p : Int) (k : Nat) (D : List Int) : Nat → List Int
  | 0 => D
  | n + 1 => stepP p k 4 (drwS p k D n) []
theorem drwS_length (p : Int) (k : Nat) {D : List Int} (h : D.length = 4) : ∀ n, (drwS p k D n).length = 4
  | 0 => h
  | _n + 1 => stepP_length _ _ _ _ _
end Go.Att
namespace Go.Proofs.YtcpnidomdkaefaaGreatDoor
open Go.RowKit Go.Att
section
variable {w : World} {cb bs : Nat} {p : Int} {k : Nat} {D : List Int}
set_option maxRecDepth 100000 in
set_option maxHeartbeats 4000000 in
theorem cnew_any (hs : Spg w (.pointer (some ⟨bs, 0, none⟩)) p k) (v : Value) (l : List Int) (hv : Ints w v l) (hl : l.length ≤ 4294960000) :
    Calls Tryz.prog 7 #[.pointer (some ⟨bs, 0, none⟩), v] w (Gives w fun u w' => u = .pointer (some ⟨w.heap.size, 0, none⟩) ∧ ChP w' w.heap.size (.pointer (some ⟨bs, 0, none⟩)) (stepP p k 2 [] l) ∧ DigNew w w' w.heap.size) := by
  have HS := Lib.hid hs; have HV := Lib.hid hv
  obtain ⟨av, cv, rfl⟩ := hv.shape
  have hx1 := Ext.alloc w (Obj.cells #[.pointer (some ⟨bs, 0, none⟩), .slice none 0 0] 75)
  have hr := rows_lit1 (hv.ext hx1) 22
  rw [World.size_alloc] at hr
  have HX1 := Lib.hid hx1
  have hx2 := hx1.trans (Ext.alloc _ (Obj.cells #[.slice av l.length cv] 22))
  have HX2 := Lib.hid hx2; have HR := Lib.hid hr
  have c0 : ((w.alloc (Obj.cells #[.pointer (some ⟨bs, 0, none⟩), .slice none 0 0] 75)).alloc (Obj.cells #[.slice av l.length cv] 22)).cell? ⟨w.heap.size, 0, none⟩ = some (.pointer (some ⟨bs, 0, none⟩)) := (Ext.alloc _ _).cell (cell_new w _ _ 0)
  have c1 : ((w.alloc (Obj.cells #[.pointer (some ⟨bs, 0, none⟩), .slice none 0 0] 75)).alloc (Obj.cells #[.slice av l.length cv] 22)).cell? ⟨w.heap.size, 1, none⟩ = some (.slice none 0 0) := (Ext.alloc _ _).cell (cell_new w _ _ 1)
  have HC0 := Lib.hid c0; have HC1 := Lib.hid c1
  clear hs hv hx1 hx2 hr c0 c1
  go_enter Tryz.func7, Tryz.ntmps7
  go_wp2_with (go_at_call 29; refine (told_any (w := (w.alloc (Obj.cells #[.pointer (some ⟨bs, 0, none⟩), .slice none 0 0] 75)).alloc (Obj.cells #[.slice av l.length cv] 22)) 2 HC0.out HC1.out (by intro n hn; cases hn) (by simp) (HS.out.ext HX2.out) (R := fun _ => .slice av l.length cv) (L := [l]) HR.out (by simpa using hl) (by simp)).mono ?_; rintro e w1 ⟨rfl, hg, hc, hd⟩)
  go_ret
  refine .mk _ rfl (Below.grown HX2.out.below hg HX2.out.size (fun q e => by cases e; exact Nat.le_refl _)) ⟨rfl, ?_, hd.mono HX2.out.size⟩
  simpa [stepP] using hc
set_option maxRecDepth 100000 in
set_option maxHeartbeats 4000000 in
theorem ctake_any (hc : ChP w cb (.pointer (some ⟨bs, 0, none⟩)) D) (hs : Spg w (.pointer (some ⟨bs, 0, none⟩)) p k) (v : Value) (l : List Int) (hv : Ints w v l) (hl : D.length + l.length ≤ 4294960000) :
    Calls Tryz.prog 32 #[.pointer (some ⟨cb, 0, none⟩), v] w fun e w' => e = .returned (.tuple #[]) ∧ w.grownBy w' (some cb) ∧ ChP w' cb (.pointer (some ⟨bs, 0, none⟩)) (stepP p k 3 D l) ∧ DigNew w w' cb := by
  obtain ⟨vd, c1, hd⟩ := hc.c1
  have c0 := hc.c0
  have f1 := hc.f1
  have hlt : cb < w.heap.size := World.block_lt_of_cell? w _ c0
  obtain ⟨ad, cd, rfl⟩ := hd.shape
  obtain ⟨av, cv, rfl⟩ := hv.shape
  have HX := Lib.hid (Ext.alloc w (Obj.cells #[.slice ad D.length cd, .slice av l.length cv] 22))
  have HR := Lib.hid (rows_lit2 hd hv 22)
  have HS := Lib.hid hs; have HC0 := Lib.hid (HX.out.cell c0); have HC1 := Lib.hid (HX.out.cell c1)
  have HF := Lib.hid (show (w.alloc (Obj.cells #[.slice ad D.length cd, .slice av l.length cv] 22)).frozen? ⟨cb, 1, none⟩ = false from by rw [World.frozen?_of_block (HX.out.below.block cb hlt)]; exact f1)
  clear hc hs hv hd
  go_enter Tryz.func32, Tryz.ntmps32
  go_wp2_with (go_at_call 29; refine (told_any (w := w.alloc (Obj.cells #[.slice ad D.length cd, .slice av l.length cv] 22)) 3 HC0.out HC1.out (by intro n hn; cases hn) HF.out (HS.out.ext HX.out) (L := [D, l]) HR.out (by simpa using hl) (by simp)).mono ?_; rintro e w1 ⟨rfl, hg, hc, hd⟩)
  refine bodyPost_end (results_none rfl _ _ _) rfl ⟨rfl, (HX.out.grownBy _).trans hg, ?_, hd.mono HX.out.size⟩
  simpa [stepP] using hc
set_option maxRecDepth 100000 in
set_option maxHeartbeats 4000000 in
theorem cdraw_any (hc : ChP w cb (.pointer (some ⟨bs, 0, none⟩)) D) (hs : Spg w (.pointer (some ⟨bs, 0, none⟩)) p k) (hl : D.length ≤ 4294960000) :
    Calls Tryz.prog 33 #[.pointer (some ⟨cb, 0, none⟩)] w fun e w' => e = .returned (.int .i64 (nth (stepP p k 4 D []) 0)) ∧ w.grownBy w' (some cb) ∧ ChP w' cb (.pointer (some ⟨bs, 0, none⟩)) (stepP p k 4 D []) ∧ DigNew w w' cb := by
  obtain ⟨vd, c1, hd⟩ := hc.c1
  have c0 := hc.c0
  have f1 := hc.f1
  have hlt : cb < w.heap.size := World.block_lt_of_cell? w _ c0
  obtain ⟨ad, cd, rfl⟩ := hd.shape
  have HX := Lib.hid (Ext.alloc w (Obj.cells #[.slice ad D.length cd] 22))
  have HR := Lib.hid (rows_lit1 hd 22)
  have HS := Lib.hid hs; have HC0 := Lib.hid (HX.out.cell c0); have HC1 := Lib.hid (HX.out.cell c1)
  have HF := Lib.hid (show (w.alloc (Obj.cells #[.slice ad D.length cd] 22)).frozen? ⟨cb, 1, none⟩ = false from by rw [World.frozen?_of_block (HX.out.below.block cb hlt)]; exact f1)
  clear hc hs hd
  go_enter Tryz.func33, Tryz.ntmps33
  go_wp2_with (go_at_call 29; refine (told_any (w := w.alloc (Obj.cells #[.slice ad D.length cd] 22)) 4 HC0.out HC1.out (by intro n hn; cases hn) HF.out (HS.out.ext HX.out) (L := [D]) HR.out (by simpa using hl) (by simp)).mono ?_; rintro e w1 ⟨rfl, hg, hc, hdn⟩; have HDN := Lib.hid hdn; have HG := Lib.hid hg; have HC := Lib.hid (show ChP w1 cb (.pointer (some ⟨bs, 0, none⟩)) (stepP p k 4 D []) from by simpa [stepP] using hc); obtain ⟨v1, k1, hd1⟩ := HC.out.c1; have hix := hd1.run_index (P := Tryz.prog) slInts 0 (by rw [stepP_length]; omega); have hcc := hd1.cell 0 (by rw [stepP_length]; omega); rw [show ((0 : Nat) : Int) = 0 from rfl] at hix; clear hc hg hd1 hdn)
  go_ret
  exact ⟨rfl, (HX.out.grownBy _).trans HG.out, HC.out, HDN.out.mono HX.out.size⟩
end
end Go.Proofs.YtcpnidomdkaefaaGreatDoor
end
section
namespace Go.Att
open Go.RowKit
theorem own_litB {W : World} {B : Nat} (xs : List Value) (e : TypeId) (h : xs.length ≤ 65536) (hB : B ≤ W.heap.size) : (W.alloc (.cells xs.toArray e)).ownsRow B e 1 (.slice (some ⟨W.heap.size, 0, none⟩) xs.length xs.length) xs.length xs :=
  ⟨by simp, .inr ⟨W.heap.size, xs.length, xs.toArray, rfl, hB, heap_alloc_new W _, Nat.le_refl _, by unfold maxLen; omega, by simp, by simp⟩⟩
end Go.Att
namespace Go.Proofs.YtcpnidomdkaefaaGreatDoor
open Go.RowKit Go.Att
theorem sfield_q {w : World} {b : Nat} {f : Value} (h : w.cell? ⟨b, 0, none⟩ = some f) (m : Nat) : Calls Tryz.prog 13 #[.pointer (some ⟨b, 0, none⟩)] (w.drewN m) fun e w'' => e = .returned f ∧ ∃ m, w'' = w.drewN m :=
  (sfieldof_any ((Ext.drewN w m).cell h)).mono fun _e _w' ⟨h1, h2⟩ => ⟨h1, m, h2.symm⟩
section
variable {w : World} {p : Int} {k : Nat} {wd : Int} {lv vo : Value} {Ls : List (List Tri)} {R : Nat → Value} {outs : List Int}
end
end Go.Proofs.YtcpnidomdkaefaaGreatDoor
end
