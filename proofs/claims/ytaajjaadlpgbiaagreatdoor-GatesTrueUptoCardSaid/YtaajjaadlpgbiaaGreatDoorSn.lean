/- The chain, the program's side: begun, told, drawn from: contracts. -/
import Derived.Test.YtaajjaadlpgbiaaGreatDoorZx14
namespace Go.Att
open Go.RowKit
theorem ChP.grown {w w' : World} {b : Nat} {q : Option Nat} {s : Value} {D : List Int} (h : ChP w b s D) (hg : w.grownBy w' q) (hb : some b ≠ q) (hn : ∀ v, w.cell? ⟨b, 1, none⟩ = some v → ∀ k, v.ownBlock = some k → some k ≠ q) : ChP w' b s D := by
  obtain ⟨v, h1, h2⟩ := h.c1
  refine ⟨hg.cell h.c0 hb, ⟨v, hg.cell h1 hb, h2.grown hg fun k hk e => hn v h1 k hk e⟩, ?_⟩
  rw [World.frozen?_of_block (hg.block b (World.block_lt_of_cell? w _ h.c0) hb)]; exact h.f1
theorem ChP.lt {w : World} {b : Nat} {s : Value} {D : List Int} (h : ChP w b s D) : b < w.heap.size := World.block_lt_of_cell? w _ h.c0
theorem rows_lit1 {w : World} {v : Value} {l : List Int} (h : Ints w v l) (e : TypeId) : RwsAt (w.alloc (.cells #[v] e)) (.slice (some ⟨w.heap.size, 0, none⟩) 1 1) [l] (fun _ => v) :=
  ⟨⟨some ⟨w.heap.size, 0, none⟩, 1, rfl, rfl, Nat.le_refl _, by unfold maxLen; omega, fun i hi => ⟨w.heap.size, 0, rfl, by
    have : i = 0 := by simpa using hi
    subst this
    rw [cell_new]; rfl⟩⟩, fun i hi => by
    have : i = 0 := by simpa using hi
    subst this
    exact h.ext (Ext.alloc _ _)⟩
theorem rows_lit2 {w : World} {v u : Value} {l m : List Int} (h : Ints w v l) (h' : Ints w u m) (e : TypeId) : RwsAt (w.alloc (.cells #[v, u] e)) (.slice (some ⟨w.heap.size, 0, none⟩) 2 2) [l, m] (fun i => if i = 0 then v else u) :=
  ⟨⟨some ⟨w.heap.size, 0, none⟩, 2, rfl, rfl, Nat.le_refl _, by unfold maxLen; omega, fun i hi => ⟨w.heap.size, 0, rfl, by
    have : i = 0 ∨ i = 1 := by simp at hi; omega
    rcases this with rfl | rfl
    · rw [cell_new]; rfl
    · rw [cell_new]; rfl⟩⟩, fun i hi => by
    have : i = 0 ∨ i = 1 := by simp at hi; omega
    rcases this with rfl | rfl
    · exact h.ext (Ext.alloc _ _)
    · exact h'.ext (Ext.alloc _ _)⟩
/-- The chain behind so many draws. -/
def drwS (p : Int) (k : Nat) (D : List Int) : Nat → List Int
  | 0 => D
  | n + 1 => stepP p k 4 (drwS p k D n) []
def drwL (p : Int) (k : Nat) (D : List Int) (n : Nat) : List Int := (List.range n).map fun i => nth (drwS p k D (i + 1)) 0
theorem drwL_snoc (p : Int) (k : Nat) (D : List Int) (n : Nat) : drwL p k D (n + 1) = drwL p k D n ++ [nth (drwS p k D (n + 1)) 0] := by simp [drwL, List.range_succ]
theorem drwL_length (p : Int) (k : Nat) (D : List Int) (n : Nat) : (drwL p k D n).length = n := by simp [drwL]
theorem drwS_length (p : Int) (k : Nat) {D : List Int} (h : D.length = 4) : ∀ n, (drwS p k D n).length = 4
  | 0 => h
  | _n + 1 => stepP_length _ _ _ _ _
end Go.Att
namespace Go.Proofs.YtaajjaadlpgbiaaGreatDoor
open Go.RowKit Go.Att
section
variable {w : World} {cb bs : Nat} {p : Int} {k : Nat} {D : List Int}
set_option maxRecDepth 100000 in
set_option maxHeartbeats 4000000 in
theorem cnew_any (hs : Spg w (.pointer (some ⟨bs, 0, none⟩)) p k) (v : Value) (l : List Int) (hv : Ints w v l) (hl : l.length ≤ 4294960000) :
    Calls Tryz.prog 96 #[.pointer (some ⟨bs, 0, none⟩), v] w (Gives w fun u w' => u = .pointer (some ⟨w.heap.size, 0, none⟩) ∧ ChP w' w.heap.size (.pointer (some ⟨bs, 0, none⟩)) (stepP p k 2 [] l) ∧ DigNew w w' w.heap.size) := by
  have HS := Lib.hid hs; have HV := Lib.hid hv
  obtain ⟨av, cv, rfl⟩ := hv.shape
  have hx1 := Ext.alloc w (Obj.cells #[.pointer (some ⟨bs, 0, none⟩), .slice none 0 0] 187)
  have hr := rows_lit1 (hv.ext hx1) 23
  rw [World.size_alloc] at hr
  have HX1 := Lib.hid hx1
  have hx2 := hx1.trans (Ext.alloc _ (Obj.cells #[.slice av l.length cv] 23))
  have HX2 := Lib.hid hx2; have HR := Lib.hid hr
  have c0 : ((w.alloc (Obj.cells #[.pointer (some ⟨bs, 0, none⟩), .slice none 0 0] 187)).alloc (Obj.cells #[.slice av l.length cv] 23)).cell? ⟨w.heap.size, 0, none⟩ = some (.pointer (some ⟨bs, 0, none⟩)) := (Ext.alloc _ _).cell (cell_new w _ _ 0)
  have c1 : ((w.alloc (Obj.cells #[.pointer (some ⟨bs, 0, none⟩), .slice none 0 0] 187)).alloc (Obj.cells #[.slice av l.length cv] 23)).cell? ⟨w.heap.size, 1, none⟩ = some (.slice none 0 0) := (Ext.alloc _ _).cell (cell_new w _ _ 1)
  have HC0 := Lib.hid c0; have HC1 := Lib.hid c1
  clear hs hv hx1 hx2 hr c0 c1
  go_enter Tryz.func96, Tryz.ntmps96
  go_wp2_with (go_at_call 135; refine (told_any (w := (w.alloc (Obj.cells #[.pointer (some ⟨bs, 0, none⟩), .slice none 0 0] 187)).alloc (Obj.cells #[.slice av l.length cv] 23)) 2 HC0.out HC1.out (by intro n hn; cases hn) (by simp) (HS.out.ext HX2.out) (R := fun _ => .slice av l.length cv) (L := [l]) HR.out (by simpa using hl) (by simp)).mono ?_; rintro e w1 ⟨rfl, hg, hc, hd⟩)
  go_ret
  refine .mk _ rfl (Below.grown HX2.out.below hg HX2.out.size (fun q e => by cases e; exact Nat.le_refl _)) ⟨rfl, ?_, hd.mono HX2.out.size⟩
  simpa [stepP] using hc
set_option maxRecDepth 100000 in
set_option maxHeartbeats 4000000 in
theorem ctake_any (hc : ChP w cb (.pointer (some ⟨bs, 0, none⟩)) D) (hs : Spg w (.pointer (some ⟨bs, 0, none⟩)) p k) (v : Value) (l : List Int) (hv : Ints w v l) (hl : D.length + l.length ≤ 4294960000) :
    Calls Tryz.prog 100 #[.pointer (some ⟨cb, 0, none⟩), v] w fun e w' => e = .returned (.tuple #[]) ∧ w.grownBy w' (some cb) ∧ ChP w' cb (.pointer (some ⟨bs, 0, none⟩)) (stepP p k 3 D l) ∧ DigNew w w' cb := by
  obtain ⟨vd, c1, hd⟩ := hc.c1
  have c0 := hc.c0
  have f1 := hc.f1
  have hlt : cb < w.heap.size := World.block_lt_of_cell? w _ c0
  obtain ⟨ad, cd, rfl⟩ := hd.shape
  obtain ⟨av, cv, rfl⟩ := hv.shape
  have HX := Lib.hid (Ext.alloc w (Obj.cells #[.slice ad D.length cd, .slice av l.length cv] 23))
  have HR := Lib.hid (rows_lit2 hd hv 23)
  have HS := Lib.hid hs; have HC0 := Lib.hid (HX.out.cell c0); have HC1 := Lib.hid (HX.out.cell c1)
  have HF := Lib.hid (show (w.alloc (Obj.cells #[.slice ad D.length cd, .slice av l.length cv] 23)).frozen? ⟨cb, 1, none⟩ = false from by rw [World.frozen?_of_block (HX.out.below.block cb hlt)]; exact f1)
  clear hc hs hv hd
  go_enter Tryz.func100, Tryz.ntmps100
  go_wp2_with (go_at_call 135; refine (told_any (w := w.alloc (Obj.cells #[.slice ad D.length cd, .slice av l.length cv] 23)) 3 HC0.out HC1.out (by intro n hn; cases hn) HF.out (HS.out.ext HX.out) (L := [D, l]) HR.out (by simpa using hl) (by simp)).mono ?_; rintro e w1 ⟨rfl, hg, hc, hd⟩)
  refine bodyPost_end (results_none rfl _ _ _) rfl ⟨rfl, (HX.out.grownBy _).trans hg, ?_, hd.mono HX.out.size⟩
  simpa [stepP] using hc
set_option maxRecDepth 100000 in
set_option maxHeartbeats 4000000 in
theorem cdraw_any (hc : ChP w cb (.pointer (some ⟨bs, 0, none⟩)) D) (hs : Spg w (.pointer (some ⟨bs, 0, none⟩)) p k) (hl : D.length ≤ 4294960000) :
    Calls Tryz.prog 101 #[.pointer (some ⟨cb, 0, none⟩)] w fun e w' => e = .returned (.int .i64 (nth (stepP p k 4 D []) 0)) ∧ w.grownBy w' (some cb) ∧ ChP w' cb (.pointer (some ⟨bs, 0, none⟩)) (stepP p k 4 D []) ∧ DigNew w w' cb := by
  obtain ⟨vd, c1, hd⟩ := hc.c1
  have c0 := hc.c0
  have f1 := hc.f1
  have hlt : cb < w.heap.size := World.block_lt_of_cell? w _ c0
  obtain ⟨ad, cd, rfl⟩ := hd.shape
  have HX := Lib.hid (Ext.alloc w (Obj.cells #[.slice ad D.length cd] 23))
  have HR := Lib.hid (rows_lit1 hd 23)
  have HS := Lib.hid hs; have HC0 := Lib.hid (HX.out.cell c0); have HC1 := Lib.hid (HX.out.cell c1)
  have HF := Lib.hid (show (w.alloc (Obj.cells #[.slice ad D.length cd] 23)).frozen? ⟨cb, 1, none⟩ = false from by rw [World.frozen?_of_block (HX.out.below.block cb hlt)]; exact f1)
  clear hc hs hd
  go_enter Tryz.func101, Tryz.ntmps101
  go_wp2_with (go_at_call 135; refine (told_any (w := w.alloc (Obj.cells #[.slice ad D.length cd] 23)) 4 HC0.out HC1.out (by intro n hn; cases hn) HF.out (HS.out.ext HX.out) (L := [D]) HR.out (by simpa using hl) (by simp)).mono ?_; rintro e w1 ⟨rfl, hg, hc, hdn⟩; have HDN := Lib.hid hdn; have HG := Lib.hid hg; have HC := Lib.hid (show ChP w1 cb (.pointer (some ⟨bs, 0, none⟩)) (stepP p k 4 D []) from by simpa [stepP] using hc); obtain ⟨v1, k1, hd1⟩ := HC.out.c1; have hix := hd1.run_index (P := Tryz.prog) slInts 0 (by rw [stepP_length]; omega); have hcc := hd1.cell 0 (by rw [stepP_length]; omega); rw [show ((0 : Nat) : Int) = 0 from rfl] at hix; clear hc hg hd1 hdn)
  go_ret
  exact ⟨rfl, (HX.out.grownBy _).trans HG.out, HC.out, HDN.out.mono HX.out.size⟩
set_option maxRecDepth 100000 in
set_option maxHeartbeats 4000000 in
theorem cdraws_any (hc : ChP w cb (.pointer (some ⟨bs, 0, none⟩)) D) (_hs : Spg w (.pointer (some ⟨bs, 0, none⟩)) p k) (hbs : ∀ w', w.grownBy w' (some cb) → Spg w' (.pointer (some ⟨bs, 0, none⟩)) p k) (hl : D.length = 4) (w0 : World) (hw0 : w0.heap.size ≤ w.heap.size) (hd0 : DigNew w0 w cb) (n : Nat) (h1 : 1 ≤ n) (hn : n ≤ 65536) :
    Calls Tryz.prog 97 #[.pointer (some ⟨cb, 0, none⟩), .int .i64 n] w fun e w' => ∃ v, e = .returned v ∧ w.grownBy w' (some cb) ∧ ChP w' cb (.pointer (some ⟨bs, 0, none⟩)) (drwS p k D n) ∧ DigNew w0 w' cb ∧ w'.ownsRow w.heap.size 3 1 v n ((drwL p k D n).map (Value.int .i64)) := by
  have hlt : cb < w.heap.size := World.block_lt_of_cell? w _ hc.c0
  have HC := Lib.hid hc; have HS := Lib.hid hbs; have HD0 := Lib.hid hd0
  have h1' : ¬ (n : Int) < 1 := by omega
  have h2' : ¬ (65536 : Int) < n := by omega
  clear hc _hs hbs hd0
  go_enter Tryz.func97, Tryz.ntmps97
  go_wp2_with (refine wpList_mk0 rfl _ _ 23 rfl slInts (Ext.refl w) rfl rfl (by omega) (by omega) (by omega) ?_; intro v1 w1 HO HX _)
  have HC1 := Lib.hid (HC.out.ext HX)
  have HG1 := Lib.hid (HX.grownBy (some cb))
  have HD1 := Lib.hid (show DigNew w0 w1 cb from fun v hv => by rw [World.cell?_of_block (a := ⟨cb, 1, none⟩) (HX.below.block cb hlt)] at hv; exact HD0.out v hv)
  go_loopw [5, 15] (fun x5 x15 wr => ∃ i : Nat, i ≤ n ∧ x15 = .int .i64 i ∧ wr.ownsRow w.heap.size 3 1 x5 i ((drwL p k D i).map (Value.int .i64)) ∧ Hid (w.grownBy wr (some cb)) ∧ Hid (ChP wr cb (.pointer (some ⟨bs, 0, none⟩)) (drwS p k D i)) ∧ Hid (DigNew w0 wr cb)) (fun _ x15 _ => n - (intOf x15).toNat)
  case atStart => exact ⟨0, Nat.zero_le _, rfl, by simpa [drwL] using HO, HG1, HC1, HD1⟩
  case round =>
    clear HO HX HC1 HG1 HD1
    obtain ⟨i, hi, rfl, HO, HG, HCI, HDI⟩ := hrel
    by_cases hin : i < n
    · have HOH := Lib.hid HO
      have HSI := Lib.hid (HS.out _ HG.out)
      have hDl := drwS_length p k hl i
      have hsz := HG.out.size
      clear HO
      go_wp2_with (first | (go_at_call 101; refine (cdraw_any HCI.out HSI.out (by omega)).mono ?_; rintro e w3 ⟨rfl, hg3, hc3, hd3⟩; have HD3 := Lib.hid hd3; have HG3 := Lib.hid (HG.out.trans hg3); have HC3 := Lib.hid hc3; have HO3 := own_low HOH.out hg3 hlt; have hs3 := hg3.size; clear hg3 hc3 hd3) | (at_builtin; refine wpList_appNw rfl _ _ 23 rfl slInts rfl (by omega) HO3 rfl _ rfl (by intro u hu; simp at hu; subst hu; rfl) rfl (by omega) (by omega) ?_; intro v7 w7 HO7 HG7 _))
      have HC7 := Lib.hid (HC3.out.grown HG7 (fun e => by have := (HO3.lt _ e.symm).1; omega) (fun v hv q hq e => by have h5 := HD3.out v hv q hq; have h6 := (HOH.out.lt _ e.symm).2; omega))
      have HD7 := Lib.hid (show DigNew w0 w7 cb from fun v hv => by rw [World.cell?_of_block (a := ⟨cb, 1, none⟩) (HG7.block cb (by omega) (fun e => by have := (HO3.lt _ e.symm).1; omega))] at hv; exact (HD3.out v hv).mono (by omega))
      go_roundw
      case rel => exact ⟨i + 1, by omega, by go_num, by rw [drwL_snoc, List.map_append]; exact HO7, Lib.hid (grown_low HG3.out HG7 (fun q hq => (HO3.lt q hq).1)), HC7, HD7⟩
      case measure => simp [intOf]; omega
    · obtain rfl : i = n := by omega
      go_wp2_with fail
      go_ret
      exact ⟨_, rfl, HG.out, HCI.out, HDI.out, HO⟩
set_option maxRecDepth 100000 in
set_option maxHeartbeats 4000000 in
theorem cdraws0_any (cb : Nat) (w : World) : Calls Tryz.prog 97 #[.pointer (some ⟨cb, 0, none⟩), .int .i64 0] w fun e w' => e = .returned (.slice none 0 0) ∧ w = w' := by
  go_enter Tryz.func97, Tryz.ntmps97
  go_wp2_with fail
  go_ret
  exact ⟨rfl, rfl⟩
/-- As many draws as one likes. -/
theorem cdrawsZ_any (hc : ChP w cb (.pointer (some ⟨bs, 0, none⟩)) D) (hbs : ∀ w', w.grownBy w' (some cb) → Spg w' (.pointer (some ⟨bs, 0, none⟩)) p k) (hl : D.length = 4) (w0 : World) (hw0 : w0.heap.size ≤ w.heap.size) (hd0 : DigNew w0 w cb) (n : Nat) (hn : n ≤ 65536) :
    Calls Tryz.prog 97 #[.pointer (some ⟨cb, 0, none⟩), .int .i64 n] w fun e w' => ∃ v, e = .returned v ∧ w.grownBy w' (some cb) ∧ ChP w' cb (.pointer (some ⟨bs, 0, none⟩)) (drwS p k D n) ∧ DigNew w0 w' cb ∧ w'.ownsRow w.heap.size 3 1 v n ((drwL p k D n).map (Value.int .i64)) := by
  by_cases h0 : n = 0
  · subst h0
    refine (cdraws0_any cb w).mono ?_
    rintro e w' ⟨rfl, rfl⟩
    exact ⟨_, rfl, World.grownBy.refl _ _, hc, hd0, World.ownsRow_nil _ _ _ _⟩
  · exact cdraws_any hc (hbs w (World.grownBy.refl _ _)) hbs hl w0 hw0 hd0 n (by omega) hn
end
end Go.Proofs.YtaajjaadlpgbiaaGreatDoor
