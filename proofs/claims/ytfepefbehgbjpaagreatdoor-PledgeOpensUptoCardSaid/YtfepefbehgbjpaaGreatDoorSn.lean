/- The chain, the program's side: begun, told, drawn from: contracts. -/
import Derived.Test.YtfepefbehgbjpaaGreatDoorSz
namespace Go.Att
open Go.RowKit
theorem ChP.grown {w w' : World} {b : Nat} {q : Option Nat} {s : Value} {D : List Int} (h : ChP w b s D) (hg : w.grownBy w' q) (hb : some b ≠ q) (hn : ∀ v, w.cell? ⟨b, 1, none⟩ = some v → ∀ k, v.ownBlock = some k → some k ≠ q) : ChP w' b s D := by
  obtain ⟨v, h1, h2⟩ := h.c1
  refine ⟨hg.cell h.c0 hb, ⟨v, hg.cell h1 hb, h2.grown hg fun k hk e => hn v h1 k hk e⟩, ?_⟩
  rw [World.frozen?_of_block (hg.block b (World.block_lt_of_cell? w _ h.c0) hb)]; exact h.f1
theorem ChP.lt {w : World} {b : Nat} {s : Value} {D : List Int} (h : ChP w b s D) : b < w.heap.size := World.block_lt_of_cell? w _ h.c0
theorem rows_lit1 {w : World} {v : Value} {l : List Int} (h : Ints w v l) (e : TypeId) : RwsAt (w.alloc (.cells #[v] e)) (.slice (some ⟨w.heap.size, 0, none⟩) 1 1) [l] (fun _ => v) :=
  ⟨⟨some ⟨w.heap.size, 0, none⟩, 1, rfl, rfl, Nat.le_refl _, by unfold maxLen; omega, fun i hi => ⟨w.heap.size, 0, rfl, by
    have : i = 0 := by simpa using hi
    subst this
    rw [cell_new]; rfl⟩⟩, fun i hi => by
    have : i = 0 := by simpa using hi
    subst this
    exact h.ext (Ext.alloc _ _)⟩
theorem rows_lit2 {w : World} {v u : Value} {l m : List Int} (h : Ints w v l) (h' : Ints w u m) (e : TypeId) : RwsAt (w.alloc (.cells #[v, u] e)) (.slice (some ⟨w.heap.size, 0, none⟩) 2 2) [l, m] (fun i => if i = 0 then v else u) :=
  ⟨⟨some ⟨w.heap.size, 0, none⟩, 2, rfl, rfl, Nat.le_refl _, by unfold maxLen; omega, fun i hi => ⟨w.heap.size, 0, rfl, by
    have : i = 0 ∨ i = 1 := by simp at hi; omega
    rcases this with rfl | rfl
    · rw [cell_new]; rfl
    · rw [cell_new]; rfl⟩⟩, fun i hi => by
    have : i = 0 ∨ i = 1 := by simp at hi; omega
    rcases this with rfl | rfl
    · exact h.ext (Ext.alloc _ _)
    · exact h'.ext (Ext.alloc _ _)⟩
def drwS (p : Int) (k : Nat) (D : List Int) : Nat → List Int
  | 0 => D
  | n + 1 => stepP p k 4 (drwS p k D n) []
theorem drwS_length (p : Int) (k : Nat) {D : List Int} (h : D.length = 4) : ∀ n, (drwS p k D n).length = 4
  | 0 => h
  | _n + 1 => stepP_length _ _ _ _ _
end Go.Att
namespace Go.Proofs.YtfepefbehgbjpaaGreatDoor
open Go.RowKit Go.Att
section
variable {w : World} {cb bs : Nat} {p : Int} {k : Nat} {D : List Int}
set_option maxRecDepth 100000 in
set_option maxHeartbeats 4000000 in
theorem cnew_any (hs : Spg w (.pointer (some ⟨bs, 0, none⟩)) p k) (v : Value) (l : List Int) (hv : Ints w v l) (hl : l.length ≤ 4294960000) :
    Calls Tryz.prog 5 #[.pointer (some ⟨bs, 0, none⟩), v] w (Gives w fun u w' => u = .pointer (some ⟨w.heap.size, 0, none⟩) ∧ ChP w' w.heap.size (.pointer (some ⟨bs, 0, none⟩)) (stepP p k 2 [] l) ∧ DigNew w w' w.heap.size) := by
  have HS := Lib.hid hs; have HV := Lib.hid hv
  obtain ⟨av, cv, rfl⟩ := hv.shape
  have hx1 := Ext.alloc w (Obj.cells #[.pointer (some ⟨bs, 0, none⟩), .slice none 0 0] 66)
  have hr := rows_lit1 (hv.ext hx1) 22
  rw [World.size_alloc] at hr
  have HX1 := Lib.hid hx1
  have hx2 := hx1.trans (Ext.alloc _ (Obj.cells #[.slice av l.length cv] 22))
  have HX2 := Lib.hid hx2; have HR := Lib.hid hr
  have c0 : ((w.alloc (Obj.cells #[.pointer (some ⟨bs, 0, none⟩), .slice none 0 0] 66)).alloc (Obj.cells #[.slice av l.length cv] 22)).cell? ⟨w.heap.size, 0, none⟩ = some (.pointer (some ⟨bs, 0, none⟩)) := (Ext.alloc _ _).cell (cell_new w _ _ 0)
  have c1 : ((w.alloc (Obj.cells #[.pointer (some ⟨bs, 0, none⟩), .slice none 0 0] 66)).alloc (Obj.cells #[.slice av l.length cv] 22)).cell? ⟨w.heap.size, 1, none⟩ = some (.slice none 0 0) := (Ext.alloc _ _).cell (cell_new w _ _ 1)
  have HC0 := Lib.hid c0; have HC1 := Lib.hid c1
  clear hs hv hx1 hx2 hr c0 c1
  go_enter Tryz.func5, Tryz.ntmps5
  go_wp2_with (go_at_call 22; refine (told_any (w := (w.alloc (Obj.cells #[.pointer (some ⟨bs, 0, none⟩), .slice none 0 0] 66)).alloc (Obj.cells #[.slice av l.length cv] 22)) 2 HC0.out HC1.out (by intro n hn; cases hn) (by simp) (HS.out.ext HX2.out) (R := fun _ => .slice av l.length cv) (L := [l]) HR.out (by simpa using hl) (by simp)).mono ?_; rintro e w1 ⟨rfl, hg, hc, hd⟩)
  go_ret
  refine .mk _ rfl (Below.grown HX2.out.below hg HX2.out.size (fun q e => by cases e; exact Nat.le_refl _)) ⟨rfl, ?_, hd.mono HX2.out.size⟩
  simpa [stepP] using hc
set_option maxRecDepth 100000 in
set_option maxHeartbeats 4000000 in
theorem ctake_any (hc : ChP w cb (.pointer (some ⟨bs, 0, none⟩)) D) (hs : Spg w (.pointer (some ⟨bs, 0, none⟩)) p k) (v : Value) (l : List Int) (hv : Ints w v l) (hl : D.length + l.length ≤ 4294960000) :
    Calls Tryz.prog 28 #[.pointer (some ⟨cb, 0, none⟩), v] w fun e w' => e = .returned (.tuple #[]) ∧ w.grownBy w' (some cb) ∧ ChP w' cb (.pointer (some ⟨bs, 0, none⟩)) (stepP p k 3 D l) ∧ DigNew w w' cb := by
  obtain ⟨vd, c1, hd⟩ := hc.c1
  have c0 := hc.c0
  have f1 := hc.f1
  have hlt : cb < w.heap.size := World.block_lt_of_cell? w _ c0
  obtain ⟨ad, cd, rfl⟩ := hd.shape
  obtain ⟨av, cv, rfl⟩ := hv.shape
  have HX := Lib.hid (Ext.alloc w (Obj.cells #[.slice ad D.length cd, .slice av l.length cv] 22))
  have HR := Lib.hid (rows_lit2 hd hv 22)
  have HS := Lib.hid hs; have HC0 := Lib.hid (HX.out.cell c0); have HC1 := Lib.hid (HX.out.cell c1)
  have HF := Lib.hid (show (w.alloc (Obj.cells #[.slice ad D.length cd, .slice av l.length cv] 22)).frozen? ⟨cb, 1, none⟩ = false from by rw [World.frozen?_of_block (HX.out.below.block cb hlt)]; exact f1)
  clear hc hs hv hd
  go_enter Tryz.func28, Tryz.ntmps28
  go_wp2_with (go_at_call 22; refine (told_any (w := w.alloc (Obj.cells #[.slice ad D.length cd, .slice av l.length cv] 22)) 3 HC0.out HC1.out (by intro n hn; cases hn) HF.out (HS.out.ext HX.out) (L := [D, l]) HR.out (by simpa using hl) (by simp)).mono ?_; rintro e w1 ⟨rfl, hg, hc, hd⟩)
  refine bodyPost_end (results_none rfl _ _ _) rfl ⟨rfl, (HX.out.grownBy _).trans hg, ?_, hd.mono HX.out.size⟩
  simpa [stepP] using hc
set_option maxRecDepth 100000 in
set_option maxHeartbeats 4000000 in
theorem cdraw_any (hc : ChP w cb (.pointer (some ⟨bs, 0, none⟩)) D) (hs : Spg w (.pointer (some ⟨bs, 0, none⟩)) p k) (hl : D.length ≤ 4294960000) :
    Calls Tryz.prog 29 #[.pointer (some ⟨cb, 0, none⟩)] w fun e w' => e = .returned (.int .i64 (nth (stepP p k 4 D []) 0)) ∧ w.grownBy w' (some cb) ∧ ChP w' cb (.pointer (some ⟨bs, 0, none⟩)) (stepP p k 4 D []) ∧ DigNew w w' cb := by
  obtain ⟨vd, c1, hd⟩ := hc.c1
  have c0 := hc.c0
  have f1 := hc.f1
  have hlt : cb < w.heap.size := World.block_lt_of_cell? w _ c0
  obtain ⟨ad, cd, rfl⟩ := hd.shape
  have HX := Lib.hid (Ext.alloc w (Obj.cells #[.slice ad D.length cd] 22))
  have HR := Lib.hid (rows_lit1 hd 22)
  have HS := Lib.hid hs; have HC0 := Lib.hid (HX.out.cell c0); have HC1 := Lib.hid (HX.out.cell c1)
  have HF := Lib.hid (show (w.alloc (Obj.cells #[.slice ad D.length cd] 22)).frozen? ⟨cb, 1, none⟩ = false from by rw [World.frozen?_of_block (HX.out.below.block cb hlt)]; exact f1)
  clear hc hs hd
  go_enter Tryz.func29, Tryz.ntmps29
  go_wp2_with (go_at_call 22; refine (told_any (w := w.alloc (Obj.cells #[.slice ad D.length cd] 22)) 4 HC0.out HC1.out (by intro n hn; cases hn) HF.out (HS.out.ext HX.out) (L := [D]) HR.out (by simpa using hl) (by simp)).mono ?_; rintro e w1 ⟨rfl, hg, hc, hdn⟩; have HDN := Lib.hid hdn; have HG := Lib.hid hg; have HC := Lib.hid (show ChP w1 cb (.pointer (some ⟨bs, 0, none⟩)) (stepP p k 4 D []) from by simpa [stepP] using hc); obtain ⟨v1, k1, hd1⟩ := HC.out.c1; have hix := hd1.run_index (P := Tryz.prog) slInts 0 (by rw [stepP_length]; omega); have hcc := hd1.cell 0 (by rw [stepP_length]; omega); rw [show ((0 : Nat) : Int) = 0 from rfl] at hix; clear hc hg hd1 hdn)
  go_ret
  exact ⟨rfl, (HX.out.grownBy _).trans HG.out, HC.out, HDN.out.mono HX.out.size⟩
end
end Go.Proofs.YtfepefbehgbjpaaGreatDoor
