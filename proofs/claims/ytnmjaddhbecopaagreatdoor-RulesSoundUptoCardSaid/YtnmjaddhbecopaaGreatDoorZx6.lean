/- Pairs of the call's own read as pairs. What both sorts of pairs want: shared. The program's machine: Clip of its steps; Walk. The cells of a step, as they lie. Cells are sorted by the library's sort, by their places: contracts; Clip of cells. The one listed variable: errors.errorType: what the condition gives; a world that meets it. -/
import Derived.Test.YtnmjaddhbecopaaGreatDoorVc
import Derived.Test.YtnmjaddhbecopaaGreatDoorQt
import Derived.Test.YtnmjaddhbecopaaGreatDoorProg
import Derived.Shelf.SlSortCmp.NoneTotal
import Derived.BigQuiet
import Derived.Test.YtnmjaddhbecopaaGreatDoorMb
import Derived.Test.YtnmjaddhbecopaaGreatDoorZx16
import Derived.Test.YtnmjaddhbecopaaGreatDoorRows
import Derived.LaidHandle
import Derived.Deep.DeepHandedRow
section
namespace Go.Att
open Go.RowKit
theorem Prs.of_own {w : World} {B e n : Nat} {v : Value} {l : List (Int × Int)} (h : w.ownsRow B e 2 v n (flatP l)) : Prs w v l := by
  have hl : n = l.length := by have := h.1; rw [flatP_length] at this; omega
  subst hl
  exact Sl.of_own h (by omega)
end Go.Att
end
section
namespace Go.Att
open Go.RowKit Go.Sort
def cmpI (a b : Int) : Int := if a < b then -1 else if b < a then 1 else 0
def encP (x : Int × Int) : List Value := [.int .i64 x.1, .int .i64 x.2]
theorem flatK_encP (l : List (Int × Int)) : (flatK encP 2 l.toArray).toList = flatP l := by
  apply List.ext_getElem?
  intro t
  by_cases ht : t < l.length * 2
  · have h1 : t < (flatK encP 2 l.toArray).size := by simp [ht]
    have h2 := get_flatK encP 2 l.toArray t (by simpa using ht)
    rw [getElem!_pos _ t h1] at h2
    rw [Array.getElem?_toList, Array.getElem?_eq_getElem h1, h2]
    have hk : t / 2 < l.length := by omega
    have hg := flatP_get l (t / 2) hk
    have e0 : l.toArray[t / 2]! = l[t / 2] := by simp [hk]
    rw [e0]
    have h3 : t % 2 = 0 ∨ t % 2 = 1 := by omega
    rcases h3 with h3 | h3
    · have e2 : t / 2 * 2 = t := by omega
      rw [e2] at hg
      rw [h3, hg.1]; simp [encP]
    · have e2 : t / 2 * 2 + 1 = t := by omega
      rw [e2] at hg
      rw [h3, hg.2]; simp [encP]
  · rw [List.getElem?_eq_none (by simp; omega), List.getElem?_eq_none (by rw [flatP_length]; omega)]
/-- What the library's sort leaves of the world. -/
theorem sortWorld_grown (w : World) (blk off m : Nat) (dk : Array (Int × Int)) (os : Array Obj) : w.grownBy (Go.Proofs.sortWorldK encP 2 w blk off m dk os) (some blk) := by
  refine ⟨rfl, rfl, rfl, ?_, fun k hk hne => ?_⟩
  · unfold Go.Proofs.sortWorldK; rw [size_grow]; simp [putRowK, putRow, mapBlock, Sort.ahead]
  · unfold Go.Proofs.sortWorldK
    rw [heap_grow_old _ _ (by simp [putRowK, putRow, mapBlock, Sort.ahead]; exact hk)]
    have : blk ≠ k := fun e => hne (by rw [e])
    simp [putRowK, putRow, mapBlock, Sort.ahead, Array.getElem?_modify, this]
theorem holds_own {w : World} {B e n : Nat} {g cap : Nat} {l : List (Int × Int)} (h : w.ownsRow B e 2 (.slice (some ⟨g, 0, none⟩) n cap) n (flatP l)) : HoldsK encP 2 w g 0 l.toArray := by
  have hp := Prs.of_own h
  have hn : n = l.length := by have := h.1; rw [flatP_length] at this; omega
  subst hn
  intro j hj
  have hj' : j < l.length * 2 := by simpa using hj
  have e1 : (flatK encP 2 l.toArray)[j]! = (flatP l)[j]'(by rw [flatP_length]; exact hj') := by
    rw [getElem!_pos _ j hj]
    have := flatK_encP l
    simp only [← this]
    simp
  refine ⟨?_, ?_⟩
  · obtain ⟨ao, cap', he, h2, h3, h4, h5⟩ := hp
    obtain ⟨b, off, e2, hc⟩ := h5 j (by rw [flatP_length]; exact hj')
    have e3 := he
    rw [e2] at e3
    simp only [Value.slice.injEq, Option.some.injEq, Addr.mk.injEq] at e3
    obtain ⟨⟨rfl, rfl, -⟩, -, -⟩ := e3
    rw [hc, e1]; rfl
  · obtain ⟨h1, h2⟩ := h
    rcases h2 with ⟨h2, _⟩ | ⟨g', cap', cur, h2, hb, hg, hr⟩
    · cases h2
    · simp only [Value.slice.injEq, Option.some.injEq, Addr.mk.injEq] at h2
      obtain ⟨⟨rfl, -, -⟩, -, -⟩ := h2
      simp [World.frozen?, hg]
theorem prs_of_holds {w : World} {g cap : Nat} {l : List (Int × Int)} (hc : l.length ≤ cap) (hm : cap ≤ maxLen) (h : HoldsK encP 2 w g 0 l.toArray) : Prs w (.slice (some ⟨g, 0, none⟩) l.length cap) l := by
  refine ⟨some ⟨g, 0, none⟩, cap, rfl, flatP_length l, hc, hm, fun i hi => ⟨g, 0, rfl, ?_⟩⟩
  have hi' : i < l.length * 2 := by rw [flatP_length] at hi; exact hi
  have hs : i < (flatK encP 2 l.toArray).size := by simp [hi']
  rw [(h i hs).1, getElem!_pos _ i hs]
  have := flatK_encP l
  simp only [← this]
  simp
end Go.Att
namespace Go.Proofs.YtnmjaddhbecopaaGreatDoor
open Go.RowKit Go.Att Go.Shelf Go.Sort
theorem isnan_any (x : Int) (w : World) : Calls Tryz.prog 200 #[.int .i64 x] w fun e w' => e = .returned (.bool false) ∧ w = w' := by
  have h : (x != x) = false := by simp
  go_enter Tryz.func200, Tryz.ntmps200
  go_wp2_with fail
  go_ret
  exact ⟨rfl, rfl⟩
theorem cmpc_any (x y : Int) (w : World) : Calls Tryz.prog 117 #[.int .i64 x, .int .i64 y] w fun e w' => e = .returned (.int .i64 (cmpI x y)) ∧ w = w' := by
  obtain ⟨r, hr⟩ : ∃ r, cmpI x y = r := ⟨_, rfl⟩
  rw [hr]
  have HR := Lib.hid hr
  clear hr
  by_cases h1 : x < y
  · have H := Lib.hid (show (-1 : Int) = r by rw [← HR.out]; unfold cmpI; rw [if_pos h1])
    clear HR
    go_enter Tryz.func117, Tryz.ntmps117
    go_wp2_with (go_at_call 200; refine (isnan_any _ _).mono ?_; rintro e w' ⟨rfl, rfl⟩)
    go_ret
    exact ⟨ret_int H.out, rfl⟩
  · by_cases h2 : y < x
    · have H := Lib.hid (show (1 : Int) = r by rw [← HR.out]; unfold cmpI; rw [if_neg h1, if_pos h2])
      clear HR
      go_enter Tryz.func117, Tryz.ntmps117
      go_wp2_with (go_at_call 200; refine (isnan_any _ _).mono ?_; rintro e w' ⟨rfl, rfl⟩)
      go_ret
      exact ⟨ret_int H.out, rfl⟩
    · have H := Lib.hid (show (0 : Int) = r by rw [← HR.out]; unfold cmpI; rw [if_neg h1, if_neg h2])
      clear HR
      go_enter Tryz.func117, Tryz.ntmps117
      go_wp2_with (go_at_call 200; refine (isnan_any _ _).mono ?_; rintro e w' ⟨rfl, rfl⟩)
      go_ret
      exact ⟨ret_int H.out, rfl⟩
end Go.Proofs.YtnmjaddhbecopaaGreatDoor
end
section
namespace Go.Att
open Go.RowKit
/-- All cells of steps are numbers. -/
theorem flatS_int (l : List Stp) (j : Nat) (h : j < l.length * 10) : ∃ x : Int, (flatS l)[j]? = some (.int .i64 x) := by
  have hj : j < (flatS l).length := by rw [flatS_length]; exact h
  have hm := List.getElem_mem hj
  unfold flatS at hm
  rw [List.mem_flatMap] at hm
  obtain ⟨t, _, hm⟩ := hm
  rw [List.mem_map] at hm
  obtain ⟨x, _, hx⟩ := hm
  exact ⟨x, by rw [List.getElem?_eq_getElem hj]; exact congrArg some hx.symm⟩
section
variable {w : World} {v : Value} {l : List Stp} {x : Value}
theorem stp_c0 (h : Sl w 10 v l.length (flatS l)) (i : Nat) (hi : i < l.length) (hx : (flatS l)[i * 10]? = some x) : w.cell? (elt v i 10) = some x := by
  have := Sl.cell h i 0 hi (by omega)
  simp only [Addr.add, if_true, Nat.add_zero] at this
  rw [this, hx]
theorem stp_c (h : Sl w 10 v l.length (flatS l)) (i k : Nat) (hi : i < l.length) (hk : k < 10) (h0 : k ≠ 0) (hx : (flatS l)[i * 10 + k]? = some x) : w.cell? ⟨(elt v i 10).block, (elt v i 10).off + k, none⟩ = some x := by
  have := Sl.cell h i k hi hk
  simp only [Addr.add] at this
  rw [if_neg h0] at this
  rw [this, hx]
end
end Go.Att
namespace Go.Proofs.YtnmjaddhbecopaaGreatDoor
open Go.RowKit Go.Att
attribute [local go_sem ↓] Go.wp_at_zero Go.wp_at_succ
theorem run_clip {P : Program} {t e sz bytes : Nat} {z : Value} (ht : SlT P t e sz bytes z) (ao : Option Addr) (n cap : Nat) (h : n ≤ cap) (w : World) :
    (Instr.sliceAt t (.slice ao n cap) none (some (.int .i64 n)) (some (.int .i64 n))).run P w = .ok (sliced ao 0 n n sz) w := by
  have hu : P.underlying t = some (.slice (P.elem t)) := by rw [ht.und, elem_of ht.und]
  rw [run_sliceAt_slice (h := hu), run_slice_hm (ht := hu) (h0 := by omega) (h2 := by omega) (h3 := by omega), elem_of ht.und, ht.run_size]
  simp [Result.andThen]
theorem clip_sl {w : World} {sz n cap : Nat} {ao : Option Addr} {cs : List Value} (h : Sl w sz (.slice ao n cap) n cs) : Sl w sz (sliced ao 0 n n sz) n cs := by
  obtain ⟨ao', cap', e, h2, h3, h4, h5⟩ := h
  injection e with e1 e2 e3
  subst e1 e3
  refine ⟨ao, n, ?_, h2, Nat.le_refl _, by omega, fun i hi => ?_⟩
  · unfold sliced
    cases ao with
    | none => simp
    | some a => simp [Addr.add]
  · obtain ⟨b, off, q1, q2⟩ := h5 i hi
    exact ⟨b, off, q1, q2⟩
section
variable {w : World} {p g : Int} {fs : List Int} {sz : Int} {lv : Value} {cd : List In4} {lim : Int}
set_option maxRecDepth 100000 in
set_option maxHeartbeats 2000000 in
theorem clip_any {B n : Nat} {v : Value} {xs : List Value} (h : w.ownsRow B 247 10 v n xs) : Calls Tryz.prog 240 #[v] w fun e w' => w = w' ∧ ∃ u, e = .returned u ∧ Sl w 10 u n xs := by
  have hs := Sl.of_own h (by omega)
  obtain ⟨ao, cap, e, _, hcap, _⟩ := hs
  subst e
  have hs' := Sl.of_own h (by omega)
  have hll := fun w' => Sl.run_len (P := Tryz.prog) hs' slStep 3 w'
  have hcl := fun w' => run_clip slStep ao n cap hcap w'
  have HS := Lib.hid (clip_sl hs')
  clear h hs'
  generalize hsl : sliced ao 0 n n 10 = u at hcl HS
  clear hsl
  go_enter Tryz.func240, Tryz.ntmps240
  go_wp2_with fail
  go_ret
  exact ⟨rfl, _, rfl, HS.out⟩
/-- What the program's walk comes to. -/
def PWalk (w : World) (r : Rw) (e : Ending) (w' : World) : Prop :=
  match r with
  | .done l _ _ => ∃ sv, e = .returned (.tuple #[sv, .nilIface]) ∧ Sl w' 10 sv l.length (flatS l) ∧ l.length ≤ 16385 ∧ Ext w w'
  | .no k => e = .returned (.tuple #[.slice none 0 0, .iface 112 (.int .i64 k)]) ∧ Ext w w'
set_option maxRecDepth 100000 in
set_option maxHeartbeats 4000000 in
theorem mwalk_any {f : Value} (hf : Fld w f p g fs) (hc : Inqs w lv cd) : Calls Tryz.prog 180 #[f, .agg #[.int .i64 sz, lv], .int .i64 lim] w (PWalk w (walkM p sz cd lim)) := by
  obtain ⟨ao, cap, rfl⟩ := hc.shape
  have hx := Ext.alloc w (Obj.cells #[.int .i64 sz, .slice ao cd.length cap] 48)
  have HX := Lib.hid hx
  have HF := Lib.hid (hf.ext hx); have HC := Lib.hid (hc.ext hx)
  clear hf hc hx
  go_enter Tryz.func180, Tryz.ntmps180
  go_wp2_with fail
  refine (mbegun_any (sz := sz) (lim := lim) HF.out HC.out).mono ?_
  intro e w1 h1
  cases hR : walkM p sz cd lim with
  | no k =>
    rw [hR] at h1
    obtain ⟨rfl, hx1⟩ := h1
    have HX1 := Lib.hid (HX.out.trans hx1); have HRR := Lib.hid hR
    clear hx1 hR
    go_wp2_with fail
    go_ret2
    rw [HRR.out]
    exact ⟨rfl, HX1.out⟩
  | done l out mem =>
    rw [hR] at h1
    obtain ⟨b, mb, cs, sv, nn, rfl, c3, c15, c16, hb, hm, hmb, hl1, hl2, hb1, hb2, ho, hx1⟩ := h1
    have HX1 := Lib.hid (HX.out.trans hx1); have HRR := Lib.hid hR; have HO := Lib.hid ho; have HL2 := Lib.hid hl2
    clear hx1 hR c3 c16 hb hm hmb hl1 hb1 hb2 ho hl2
    go_wp2_with (go_at_call 240; refine (clip_any HO.out).mono ?_; rintro e w2 ⟨rfl, u, rfl, hu⟩)
    go_ret2
    rw [HRR.out]
    exact ⟨_, rfl, hu, HL2.out, HX1.out⟩
end
end Go.Proofs.YtnmjaddhbecopaaGreatDoor
end
section
namespace Go.Att
open Go.RowKit
theorem flatS_at : ∀ (l : List Stp) (i k : Nat) (h : i < l.length), k < 10 → (flatS l)[i * 10 + k]? = (l[i].nums.map (Value.int .i64))[k]?
  | [], i, k, h, _ => by simp at h
  | t :: l, 0, k, _, hk => by
    have h10 : (t.nums.map (Value.int .i64)).length = 10 := by simp [Stp.nums]
    simp only [flatS, List.flatMap_cons, Nat.zero_mul, Nat.zero_add, List.getElem_cons_zero]
    rw [List.getElem?_append_left (by omega)]
  | t :: l, i + 1, k, h, hk => by
    have h10 : (t.nums.map (Value.int .i64)).length = 10 := by simp [Stp.nums]
    have ih := flatS_at l i k (by simpa using h) hk
    simp only [flatS, List.flatMap_cons, List.getElem_cons_succ] at ih ⊢
    rw [List.getElem?_append_right (by omega), h10, show (i + 1) * 10 + k - 10 = i * 10 + k by omega]
    exact ih
/-- A step's place and what it is, as they lie. -/
theorem stp_at {w : World} {v : Value} {l : List Stp} (h : Sl w 10 v l.length (flatS l)) (i j : Nat) (hi : i < l.length) (hj : j < 3) :
    w.cell? ⟨(elt v i 10).block, (elt v i 10).off + (4 + j), none⟩ = some (.int .i64 (accA l[i].acc j)) ∧ w.cell? ⟨(elt v i 10).block, (elt v i 10).off + (7 + j), none⟩ = some (.int .i64 (accI l[i].acc j)) := by
  have h3 : j = 0 ∨ j = 1 ∨ j = 2 := by omega
  rcases h3 with rfl | rfl | rfl
  · exact ⟨stp_c h i 4 hi (by omega) (by omega) (by rw [flatS_at l i 4 hi (by omega)]; rfl), stp_c h i 7 hi (by omega) (by omega) (by rw [flatS_at l i 7 hi (by omega)]; rfl)⟩
  · exact ⟨stp_c h i 5 hi (by omega) (by omega) (by rw [flatS_at l i 5 hi (by omega)]; rfl), stp_c h i 8 hi (by omega) (by omega) (by rw [flatS_at l i 8 hi (by omega)]; rfl)⟩
  · exact ⟨stp_c h i 6 hi (by omega) (by omega) (by rw [flatS_at l i 6 hi (by omega)]; rfl), stp_c h i 9 hi (by omega) (by omega) (by rw [flatS_at l i 9 hi (by omega)]; rfl)⟩
/-- The last step tells the outcome. -/
theorem flatS_fin {l' : List Stp} {t : Stp} : (flatS (l' ++ [t]))[l'.length * 10 + 7]? = some (.int .i64 (accI t.acc 0)) := by
  rw [flatS_snoc, List.getElem?_append_right (by rw [flatS_length]; omega), flatS_length]
  simp [Stp.nums, accI]
/-- All ten cells of a step. -/
theorem stp_all {w : World} {v : Value} {l : List Stp} (h : Sl w 10 v l.length (flatS l)) (i : Nat) (hi : i < l.length) :
    w.cell? (elt v i 10) = some (.int .i64 l[i].pc) ∧ w.cell? ⟨(elt v i 10).block, (elt v i 10).off + 1, none⟩ = some (.int .i64 l[i].fp) ∧ w.cell? ⟨(elt v i 10).block, (elt v i 10).off + 2, none⟩ = some (.int .i64 l[i].ap) ∧ w.cell? ⟨(elt v i 10).block, (elt v i 10).off + 3, none⟩ = some (.int .i64 l[i].rv) ∧
    w.cell? ⟨(elt v i 10).block, (elt v i 10).off + 4, none⟩ = some (.int .i64 (accA l[i].acc 0)) ∧ w.cell? ⟨(elt v i 10).block, (elt v i 10).off + 5, none⟩ = some (.int .i64 (accA l[i].acc 1)) ∧ w.cell? ⟨(elt v i 10).block, (elt v i 10).off + 6, none⟩ = some (.int .i64 (accA l[i].acc 2)) ∧
    w.cell? ⟨(elt v i 10).block, (elt v i 10).off + 7, none⟩ = some (.int .i64 (accI l[i].acc 0)) ∧ w.cell? ⟨(elt v i 10).block, (elt v i 10).off + 8, none⟩ = some (.int .i64 (accI l[i].acc 1)) ∧ w.cell? ⟨(elt v i 10).block, (elt v i 10).off + 9, none⟩ = some (.int .i64 (accI l[i].acc 2)) := by
  obtain ⟨a0, b0⟩ := stp_at h i 0 hi (by omega)
  obtain ⟨a1, b1⟩ := stp_at h i 1 hi (by omega)
  obtain ⟨a2, b2⟩ := stp_at h i 2 hi (by omega)
  exact ⟨stp_c0 h i hi (by have := flatS_at l i 0 hi (by omega); rw [Nat.add_zero] at this; rw [this]; rfl), stp_c h i 1 hi (by omega) (by omega) (by rw [flatS_at l i 1 hi (by omega)]; rfl), stp_c h i 2 hi (by omega) (by omega) (by rw [flatS_at l i 2 hi (by omega)]; rfl), stp_c h i 3 hi (by omega) (by omega) (by rw [flatS_at l i 3 hi (by omega)]; rfl), a0, a1, a2, b0, b1, b2⟩
end Go.Att
end
section
namespace Go.Att
open Go.RowKit Go.Sort
def cmpC (a b : Int × Int) : Int := cmpI a.1 b.1
theorem cmpC_lt (a b : Int × Int) : decide (cmpC a b < 0) = decide (a.1 < b.1) := by
  rw [decide_eq_decide]
  unfold cmpC cmpI
  by_cases h1 : a.1 < b.1
  · simp [h1]
  · by_cases h2 : b.1 < a.1
    · simp [h1, h2]
    · simp [h1, h2]
theorem swoC : SWO (Go.Proofs.ltOf cmpC) where
  irrefl x := by unfold Go.Proofs.ltOf; rw [cmpC_lt]; simp
  trans x y z h1 h2 := by
    unfold Go.Proofs.ltOf at *
    rw [cmpC_lt] at *
    simp only [decide_eq_true_eq] at *
    omega
  ntrans x y z h1 h2 := by
    unfold Go.Proofs.ltOf at *
    rw [cmpC_lt] at *
    simp only [decide_eq_false_iff_not] at *
    omega
/-- Sorted within the library's words: in order. -/
theorem sorted_cells {d d' : Array (Int × Int)} (hp : PermIn 0 d.size d d') (hs : SortedIn (Go.Proofs.ltOf cmpC) 0 d.size d') : d'.toList.Perm d.toList ∧ d'.toList.Pairwise (fun x y => x.1 ≤ y.1) := by
  obtain ⟨h1, -, h3⟩ := hp
  refine ⟨?_, ?_⟩
  · have e1 : d'.extract 0 d.size = d' := by rw [← h1]; simp
    have e2 : d.extract 0 d.size = d := by simp
    rw [e1, e2] at h3; exact h3
  · rw [List.pairwise_iff_getElem]
    intro i j hi hj hij
    have hj' : j < d'.size := by simpa using hj
    have hi' : i < d'.size := by simpa using hi
    have := hs i j (Nat.zero_le _) hij (by omega)
    unfold Go.Proofs.ltOf at this
    rw [cmpC_lt, decide_eq_false_iff_not, getElem!_pos _ j hj', getElem!_pos _ i hi'] at this
    simp only [Array.getElem_toList]
    omega
end Go.Att
namespace Go.Proofs.YtnmjaddhbecopaaGreatDoor
open Go.RowKit Go.Att Go.Shelf Go.Sort
theorem cell_new2 (W : World) (a b : Obj) (n : Nat) : ((W.alloc a).alloc b).drewN n = grow (W.drewN n) #[a, b] := by
  rw [alloc_eq_grow, alloc_eq_grow]
  show grow (grow (W.drewN n) #[a]) #[b] = _
  rw [grow_grow]; rfl
set_option maxRecDepth 100000 in
theorem compareC_any (x y : Int × Int) (W : World) : Calls Tryz.prog 116 #[.agg #[.int .i64 x.1, .int .i64 x.2], .agg #[.int .i64 y.1, .int .i64 y.2]] W fun e w' => e = .returned (.int .i64 (cmpC x y)) ∧ ∃ q os', w' = grow (W.drewN q) os' := by
  obtain ⟨x1, x2⟩ := x
  obtain ⟨y1, y2⟩ := y
  show Calls _ _ _ _ fun e w' => e = .returned (.int .i64 (cmpI x1 y1)) ∧ _
  go_enter Tryz.func116, Tryz.ntmps116
  go_wp2_with (go_at_call 117; refine (cmpc_any _ _ _).mono ?_; rintro e w' ⟨rfl, rfl⟩)
  go_ret
  exact ⟨rfl, 0, _, cell_new2 _ _ _ 0⟩
def Tryz.sortCell_ren : Go.Shelf.Ren := ⟨fun | 6 => 115 | 15 => 129 | 14 => 199 | 28 => 206 | 29 => 207 | 20 => 255 | 21 => 256 | 22 => 257 | 23 => 258 | 24 => 259 | 25 => 260 | 26 => 261 | 27 => 262 | 46 => 290 | 47 => 281 | 48 => 282 | 49 => 291 | 50 => 292 | 57 => 304 | n => n, fun | 22 => 96 | 24 => 193 | 25 => 195 | 3 => 3 | 39 => 205 | 0 => 0 | 53 => 271 | 55 => 273 | 4 => 4 | 46 => 300 | 45 => 299 | 50 => 304 | 5 => 5 | 9 => 9 | 66 => 336 | 70 => 340 | 76 => 350 | 77 => 280 | n => n, fun | n => n⟩
theorem Tryz.sortCell : Go.Proofs.SlLaysF0.n6 Tryz.prog Tryz.sortCell_ren := {
  mixed := by kernel_rfl,
  f6 := ⟨Tryz.f115.name, by decide, Tryz.func115.trans (congrArg some (by kernel_rfl))⟩,
  f14 := ⟨Tryz.f199.name, by decide, Tryz.func199.trans (congrArg some (by kernel_rfl))⟩,
  f15 := Tryz.func129.trans (congrArg some (by kernel_rfl)),
  f20 := ⟨Tryz.f255.name, by decide, Tryz.func255.trans (congrArg some (by kernel_rfl))⟩,
  f21 := ⟨Tryz.f256.name, by decide, Tryz.func256.trans (congrArg some (by kernel_rfl))⟩,
  f22 := ⟨Tryz.f257.name, by decide, Tryz.func257.trans (congrArg some (by kernel_rfl))⟩,
  f23 := ⟨Tryz.f258.name, by decide, Tryz.func258.trans (congrArg some (by kernel_rfl))⟩,
  f24 := ⟨Tryz.f259.name, by decide, Tryz.func259.trans (congrArg some (by kernel_rfl))⟩,
  f25 := ⟨Tryz.f260.name, by decide, Tryz.func260.trans (congrArg some (by kernel_rfl))⟩,
  f26 := ⟨Tryz.f261.name, by decide, Tryz.func261.trans (congrArg some (by kernel_rfl))⟩,
  f27 := ⟨Tryz.f262.name, by decide, Tryz.func262.trans (congrArg some (by kernel_rfl))⟩,
  f28 := Tryz.func206.trans (congrArg some (by kernel_rfl)),
  f29 := Tryz.func207.trans (congrArg some (by kernel_rfl)),
  f46 := ⟨Tryz.f290.name, by decide, Tryz.func290.trans (congrArg some (by kernel_rfl))⟩,
  f47 := Tryz.func281.trans (congrArg some (by kernel_rfl)),
  f48 := Tryz.func282.trans (congrArg some (by kernel_rfl)),
  f49 := ⟨Tryz.f291.name, by decide, Tryz.func291.trans (congrArg some (by kernel_rfl))⟩,
  f50 := ⟨Tryz.f292.name, by decide, Tryz.func292.trans (congrArg some (by kernel_rfl))⟩,
  f57 := ⟨Tryz.f304.name, by decide, Tryz.func304.trans (congrArg some (by kernel_rfl))⟩,
  t0 := Tryz.underlying0,
  a0 := Tryz.isAgg0,
  z0 := Tryz.sizeOf0,
  v0 := Tryz.zeroValue0,
  t3 := Tryz.underlying3,
  a3 := Tryz.isAgg3,
  z3 := Tryz.sizeOf3,
  v3 := Tryz.zeroValue3,
  t4 := Tryz.underlying4,
  a4 := Tryz.isAgg4,
  z4 := Tryz.sizeOf4,
  v4 := Tryz.zeroValue4,
  t5 := Tryz.underlying5,
  a5 := Tryz.isAgg5,
  z5 := Tryz.sizeOf5,
  v5 := Tryz.zeroValue5,
  t9 := Tryz.underlying9,
  a9 := Tryz.isAgg9,
  z9 := Tryz.sizeOf9,
  v9 := Tryz.zeroValue9,
  t22 := Tryz.underlying96,
  a22 := Tryz.isAgg96,
  z22 := Tryz.sizeOf96,
  v22 := Tryz.zeroValue96,
  t25 := Tryz.underlying195,
  a25 := Tryz.isAgg195,
  z25 := Tryz.sizeOf195,
  v25 := Tryz.zeroValue195,
  t39 := Tryz.underlying205,
  a39 := Tryz.isAgg205,
  z39 := Tryz.sizeOf205,
  v39 := Tryz.zeroValue205,
  t45 := Tryz.underlying299,
  a45 := Tryz.isAgg299,
  z45 := Tryz.sizeOf299,
  v45 := Tryz.zeroValue299,
  t46 := Tryz.underlying300,
  a46 := Tryz.isAgg300,
  z46 := Tryz.sizeOf300,
  v46 := Tryz.zeroValue300,
  t50 := Tryz.underlying304,
  a50 := Tryz.isAgg304,
  z50 := Tryz.sizeOf304,
  v50 := Tryz.zeroValue304,
  t53 := Tryz.underlying271,
  a53 := Tryz.isAgg271,
  z53 := Tryz.sizeOf271,
  v53 := Tryz.zeroValue271,
  t55 := Tryz.underlying273,
  a55 := Tryz.isAgg273,
  z55 := Tryz.sizeOf273,
  v55 := Tryz.zeroValue273,
  t66 := Tryz.underlying336,
  a66 := Tryz.isAgg336,
  z66 := Tryz.sizeOf336,
  v66 := Tryz.zeroValue336,
  t70 := Tryz.underlying340,
  a70 := Tryz.isAgg340,
  z70 := Tryz.sizeOf340,
  v70 := Tryz.zeroValue340,
  t76 := Tryz.underlying350,
  a76 := Tryz.isAgg350,
  z76 := Tryz.sizeOf350,
  v76 := Tryz.zeroValue350,
  t77 := Tryz.underlying280,
  a77 := Tryz.isAgg280,
  z77 := Tryz.sizeOf280,
  v77 := Tryz.zeroValue280 }
theorem cmpLaysC (blk off size : Nat) (w : World) : CmpLays Tryz.prog 116 #[] encP 2 cmpC blk off size w :=
  fun _ _ _ _ x y => compareC_any x y _
theorem Tryz.isAggCell (w : World) : (isAgg 193).run Tryz.prog w = .ok true w := by kernel_rfl
theorem Tryz.sizeOfCell (w : World) : (sizeOf 193).run Tryz.prog w = .ok 2 w := by kernel_rfl
set_option maxHeartbeats 1000000 in
/-- A slice of cells of the call's own is sorted. -/
theorem sortCell_any {w : World} {B e n : Nat} {v : Value} {l : List (Int × Int)} (h : w.ownsRow B e 2 v n (flatP l)) (hs : l.length ≤ 4611686018427387903) :
    Calls Tryz.prog 115 #[v, .func (.func 116) #[] #[]] w fun e w' => e = .returned (.tuple #[]) ∧ w.grownBy w' v.ownBlock ∧ ∃ l', l'.Perm l ∧ l'.Pairwise (fun x y => x.1 ≤ y.1) ∧ Prs w' v l' := by
  have hn : n = l.length := by have := h.1; rw [flatP_length] at this; omega
  subst hn
  have hp := Prs.of_own h
  by_cases h0 : l.length = 0
  · have hl : l = [] := List.eq_nil_of_length_eq_zero h0
    subst hl
    obtain ⟨ao, cap, rfl, -⟩ := hp
    refine (AnyF.slices_SortFunc_none { Tryz.sortCell with } ao cap _ w).mono ?_
    rintro e w' ⟨rfl, rfl⟩
    exact ⟨rfl, World.grownBy.refl _ _, [], .refl _, .nil, Prs.of_own h⟩
  · have hh := h
    obtain ⟨h1, h2⟩ := h
    rcases h2 with ⟨rfl, h2⟩ | ⟨g, cap, cur, rfl, hb, hg, hnc, hcm, hr⟩
    · exact absurd h2 h0
    · have hH := holds_own hh
      have eg : ∀ args w, (callFunc 116 args).run Tryz.prog w = .ok (.enter 116 args) w := enters_of Tryz.func116 (by kernel_rfl) rfl
      have hlt : g < w.heap.size := (Array.getElem?_eq_some_iff.1 hg).1
      have hcon := AnyQ.slices_SortFunc Tryz.sortCell 2 Tryz.isAggCell Tryz.sizeOfCell encP (fun _ => rfl) (fun x v hv => by simp [encP] at hv; rcases hv with rfl | rfl <;> rfl) cmpC swoC 116 #[] g 0 cap l.toArray w eg (cmpLaysC g 0 _ w) hH hlt (by simp; omega)
      refine hcon.mono ?_
      rintro e w' ⟨rfl, d', m, os, hpm, hst, rfl⟩
      obtain ⟨k1, k2⟩ := sorted_cells hpm hst
      have hlen : d'.toList.length = l.length := by simpa using k1.length_eq
      have hsz : d'.size = l.toArray.size := hpm.1
      refine ⟨rfl, sortWorld_grown _ _ _ _ _ _, d'.toList, by simpa using k1, k2, ?_⟩
      have := prs_of_holds (g := g) (cap := cap) (l := d'.toList) (w := sortWorldK encP 2 w g 0 m d'.toList.toArray os) (by rw [hlen]; exact hnc) hcm
        (holdsK_sortWorldK_c encP 2 w g 0 l.toArray d'.toList.toArray m os hH hlt (by simp [hsz]))
      rw [hlen] at this
      simpa using this
theorem slCell : SlT Tryz.prog 96 193 2 16 (.agg #[.int .i64 0, .int .i64 0]) := .mk' Tryz.underlying96 (by kernel_rfl) (by decide)
set_option maxRecDepth 100000 in
set_option maxHeartbeats 2000000 in
theorem clipC_any {w : World} {v : Value} {l : List (Int × Int)} (h : Prs w v l) : Calls Tryz.prog 118 #[v] w fun e w' => w = w' ∧ ∃ u, e = .returned u ∧ Prs w u l ∧ u.ownBlock = v.ownBlock := by
  have hs := h
  obtain ⟨ao, cap, e, _, hcap, _⟩ := hs
  subst e
  have hll := fun w' => Sl.run_len (P := Tryz.prog) h slCell 3 w'
  have hcl := fun w' => run_clip slCell ao l.length cap hcap w'
  have HS := Lib.hid (clip_sl h)
  have HO := Lib.hid (show (sliced ao 0 l.length l.length 2).ownBlock = (Value.slice ao l.length cap).ownBlock by unfold sliced; cases ao <;> simp [Value.ownBlock, Addr.add])
  clear h
  generalize hsl : sliced ao 0 l.length l.length 2 = u at hcl HS HO
  clear hsl
  go_enter Tryz.func118, Tryz.ntmps118
  go_wp2_with fail
  go_ret
  exact ⟨rfl, _, rfl, HS.out, HO.out⟩
end Go.Proofs.YtnmjaddhbecopaaGreatDoor
end
section
namespace Go.Proofs.YtnmjaddhbecopaaGreatDoor
open Go.ChangeShapes Go.WideShapes Go.RowKit Go.Att

theorem kOwn : ownKnob Tryz.prog.godebug = none := by kernel_rfl
theorem kEt : Tryz.prog.globalNamed "errors.errorType" = some 0 := by kernel_rfl
theorem kRt : (Tryz.prog.cutTypes.find? (·.1 == "internal/reflectlite.rtype")).map (·.2) = some 314 := by kernel_rfl
theorem kOneRow : ((List.range 381).filter fun t => Tryz.prog.rowNamed t [101, 114, 114, 111, 114]) = [31] := by kernel_rfl
theorem kSize : Tryz.prog.types.size = 381 := by kernel_rfl
theorem kLaidOut : laidOutB Tryz.prog = true := by kernel_rfl

/-- What the condition gives a walk: the variable's one cell. -/
theorem handle_of_laid {W : World} (h : laidMetH Tryz.prog [("errors.errorType", Rows.laid_errors_errorType)] W) : Hnd W := by
  have h' : laidMet Tryz.prog [] W ∧ handlesMet Tryz.prog [("errors.errorType", Rows.laid_errors_errorType)] W := h
  obtain ⟨name, u, ty, e1, e2, e3, e4, e5⟩ := h'.2 _ (List.mem_singleton.2 rfl)
  have en : name = [101, 114, 114, 111, 114] := (Option.some.inj e1).symm
  subst en
  obtain rfl := Option.some.inj (kRt.symm.trans e2)
  have hm : ty ∈ (List.range 381).filter fun t => Tryz.prog.rowNamed t [101, 114, 114, 111, 114] := List.mem_filter.2 ⟨List.mem_range.2 (by rw [← kSize]; exact e3), e4⟩
  rw [kOneRow] at hm
  obtain rfl := List.mem_singleton.1 hm
  have hh : typeHandle Tryz.prog 31 = .pointer (some ⟨1, 31, none⟩) := by kernel_rfl
  rw [hh] at e5
  unfold Hnd
  simpa using World.var?_cell kEt e5 0

/-- A world that meets the condition: the settled one, the variable's cell laid. -/
noncomputable def laidWorld (os : Os) : World :=
  let w0 := World.holding Tryz.prog os ⟨#[], #[], []⟩
  { w0 with heap := w0.heap.modify 0 fun
      | .cells _ t frozen => .cells #[.iface 314 (.agg #[.pointer (some ⟨1, 31, none⟩)])] t frozen
      | o => o }
theorem laidWorld_met (os : Os) (args : Array Value) : laidMetH Tryz.prog [("errors.errorType", Rows.laid_errors_errorType)] ((laidWorld os).forCall (fun _ _ => 0) ⟨#[], args, []⟩).memory :=
  laidMetH_of_parts (laidMet_nil _ _) (by kernel_rfl)
end Go.Proofs.YtnmjaddhbecopaaGreatDoor
end
