/- Cells are sorted by the library's sort, by their places: contracts; Clip of cells. -/
import Derived.Test.YtaodmkngakikjaaMh
import Derived.Test.YtaodmkngakikjaaVc
import Derived.Shelf.SlSortCmp.NoneTotal
import Derived.Test.YtaodmkngakikjaaQt
import Derived.BigQuiet
namespace Go.Att
open Go.RowKit Go.Sort
def cmpI (a b : Int) : Int := if a < b then -1 else if b < a then 1 else 0
def cmpC (a b : Int × Int) : Int := cmpI a.1 b.1
theorem cmpC_lt (a b : Int × Int) : decide (cmpC a b < 0) = decide (a.1 < b.1) := by
  rw [decide_eq_decide]
  unfold cmpC cmpI
  by_cases h1 : a.1 < b.1
  · simp [h1]
  · by_cases h2 : b.1 < a.1
    · simp [h1, h2]
    · simp [h1, h2]
theorem Prs.of_own {w : World} {B e n : Nat} {v : Value} {l : List (Int × Int)} (h : w.ownsRow B e 2 v n (flatP l)) : Prs w v l := by
  have hl : n = l.length := by have := h.1; rw [flatP_length] at this; omega
  subst hl
  exact Sl.of_own h (by omega)
def encP (x : Int × Int) : List Value := [.int .i64 x.1, .int .i64 x.2]
theorem flatK_encP (l : List (Int × Int)) : (flatK encP 2 l.toArray).toList = flatP l := by
  apply List.ext_getElem?
  intro t
  by_cases ht : t < l.length * 2
  · have h1 : t < (flatK encP 2 l.toArray).size := by simp [ht]
    have h2 := get_flatK encP 2 l.toArray t (by simpa using ht)
    rw [getElem!_pos _ t h1] at h2
    rw [Array.getElem?_toList, Array.getElem?_eq_getElem h1, h2]
    have hk : t / 2 < l.length := by omega
    have hg := flatP_get l (t / 2) hk
    have e0 : l.toArray[t / 2]! = l[t / 2] := by simp [hk]
    rw [e0]
    have h3 : t % 2 = 0 ∨ t % 2 = 1 := by omega
    rcases h3 with h3 | h3
    · have e2 : t / 2 * 2 = t := by omega
      rw [e2] at hg
      rw [h3, hg.1]; simp [encP]
    · have e2 : t / 2 * 2 + 1 = t := by omega
      rw [e2] at hg
      rw [h3, hg.2]; simp [encP]
  · rw [List.getElem?_eq_none (by simp; omega), List.getElem?_eq_none (by rw [flatP_length]; omega)]
theorem swoC : SWO (Go.Proofs.ltOf cmpC) where
  irrefl x := by unfold Go.Proofs.ltOf; rw [cmpC_lt]; simp
  trans x y z h1 h2 := by
    unfold Go.Proofs.ltOf at *
    rw [cmpC_lt] at *
    simp only [decide_eq_true_eq] at *
    omega
  ntrans x y z h1 h2 := by
    unfold Go.Proofs.ltOf at *
    rw [cmpC_lt] at *
    simp only [decide_eq_false_iff_not] at *
    omega
/-- What the library's sort leaves of the world. -/
theorem sortWorld_grown (w : World) (blk off m : Nat) (dk : Array (Int × Int)) (os : Array Obj) : w.grownBy (Go.Proofs.sortWorldK encP 2 w blk off m dk os) (some blk) := by
  refine ⟨rfl, rfl, rfl, ?_, fun k hk hne => ?_⟩
  · unfold Go.Proofs.sortWorldK; rw [size_grow]; simp [putRowK, putRow, mapBlock, Sort.ahead]
  · unfold Go.Proofs.sortWorldK
    rw [heap_grow_old _ _ (by simp [putRowK, putRow, mapBlock, Sort.ahead]; exact hk)]
    have : blk ≠ k := fun e => hne (by rw [e])
    simp [putRowK, putRow, mapBlock, Sort.ahead, Array.getElem?_modify, this]
theorem holds_own {w : World} {B e n : Nat} {g cap : Nat} {l : List (Int × Int)} (h : w.ownsRow B e 2 (.slice (some ⟨g, 0, none⟩) n cap) n (flatP l)) : HoldsK encP 2 w g 0 l.toArray := by
  have hp := Prs.of_own h
  have hn : n = l.length := by have := h.1; rw [flatP_length] at this; omega
  subst hn
  intro j hj
  have hj' : j < l.length * 2 := by simpa using hj
  have e1 : (flatK encP 2 l.toArray)[j]! = (flatP l)[j]'(by rw [flatP_length]; exact hj') := by
    rw [getElem!_pos _ j hj]
    have := flatK_encP l
    simp only [← this]
    simp
  refine ⟨?_, ?_⟩
  · obtain ⟨ao, cap', he, h2, h3, h4, h5⟩ := hp
    obtain ⟨b, off, e2, hc⟩ := h5 j (by rw [flatP_length]; exact hj')
    have e3 := he
    rw [e2] at e3
    simp only [Value.slice.injEq, Option.some.injEq, Addr.mk.injEq] at e3
    obtain ⟨⟨rfl, rfl, -⟩, -, -⟩ := e3
    rw [hc, e1]; rfl
  · obtain ⟨h1, h2⟩ := h
    rcases h2 with ⟨h2, _⟩ | ⟨g', cap', cur, h2, hb, hg, hr⟩
    · cases h2
    · simp only [Value.slice.injEq, Option.some.injEq, Addr.mk.injEq] at h2
      obtain ⟨⟨rfl, -, -⟩, -, -⟩ := h2
      simp [World.frozen?, hg]
theorem prs_of_holds {w : World} {g cap : Nat} {l : List (Int × Int)} (hc : l.length ≤ cap) (hm : cap ≤ maxLen) (h : HoldsK encP 2 w g 0 l.toArray) : Prs w (.slice (some ⟨g, 0, none⟩) l.length cap) l := by
  refine ⟨some ⟨g, 0, none⟩, cap, rfl, flatP_length l, hc, hm, fun i hi => ⟨g, 0, rfl, ?_⟩⟩
  have hi' : i < l.length * 2 := by rw [flatP_length] at hi; exact hi
  have hs : i < (flatK encP 2 l.toArray).size := by simp [hi']
  rw [(h i hs).1, getElem!_pos _ i hs]
  have := flatK_encP l
  simp only [← this]
  simp
/-- Sorted within the library's words: in order. -/
theorem sorted_cells {d d' : Array (Int × Int)} (hp : PermIn 0 d.size d d') (hs : SortedIn (Go.Proofs.ltOf cmpC) 0 d.size d') : d'.toList.Perm d.toList ∧ d'.toList.Pairwise (fun x y => x.1 ≤ y.1) := by
  obtain ⟨h1, -, h3⟩ := hp
  refine ⟨?_, ?_⟩
  · have e1 : d'.extract 0 d.size = d' := by rw [← h1]; simp
    have e2 : d.extract 0 d.size = d := by simp
    rw [e1, e2] at h3; exact h3
  · rw [List.pairwise_iff_getElem]
    intro i j hi hj hij
    have hj' : j < d'.size := by simpa using hj
    have hi' : i < d'.size := by simpa using hi
    have := hs i j (Nat.zero_le _) hij (by omega)
    unfold Go.Proofs.ltOf at this
    rw [cmpC_lt, decide_eq_false_iff_not, getElem!_pos _ j hj', getElem!_pos _ i hi'] at this
    simp only [Array.getElem_toList]
    omega
end Go.Att
namespace Go.Proofs.Ytaodmkngakikjaa
open Go.RowKit Go.Att Go.Shelf Go.Sort
theorem isnan_any (x : Int) (w : World) : Calls Try.prog 35 #[.int .i64 x] w fun e w' => e = .returned (.bool false) ∧ w = w' := by
  have h : (x != x) = false := by simp
  go_enter Try.func35, Try.ntmps35
  go_wp2_with fail
  go_ret
  exact ⟨rfl, rfl⟩
theorem cmpc_any (x y : Int) (w : World) : Calls Try.prog 19 #[.int .i64 x, .int .i64 y] w fun e w' => e = .returned (.int .i64 (cmpI x y)) ∧ w = w' := by
  obtain ⟨r, hr⟩ : ∃ r, cmpI x y = r := ⟨_, rfl⟩
  rw [hr]
  have HR := Lib.hid hr
  clear hr
  by_cases h1 : x < y
  · have H := Lib.hid (show (-1 : Int) = r by rw [← HR.out]; unfold cmpI; rw [if_pos h1])
    clear HR
    go_enter Try.func19, Try.ntmps19
    go_wp2_with (go_at_call 35; refine (isnan_any _ _).mono ?_; rintro e w' ⟨rfl, rfl⟩)
    go_ret
    exact ⟨ret_int H.out, rfl⟩
  · by_cases h2 : y < x
    · have H := Lib.hid (show (1 : Int) = r by rw [← HR.out]; unfold cmpI; rw [if_neg h1, if_pos h2])
      clear HR
      go_enter Try.func19, Try.ntmps19
      go_wp2_with (go_at_call 35; refine (isnan_any _ _).mono ?_; rintro e w' ⟨rfl, rfl⟩)
      go_ret
      exact ⟨ret_int H.out, rfl⟩
    · have H := Lib.hid (show (0 : Int) = r by rw [← HR.out]; unfold cmpI; rw [if_neg h1, if_neg h2])
      clear HR
      go_enter Try.func19, Try.ntmps19
      go_wp2_with (go_at_call 35; refine (isnan_any _ _).mono ?_; rintro e w' ⟨rfl, rfl⟩)
      go_ret
      exact ⟨ret_int H.out, rfl⟩
theorem cell_new2 (W : World) (a b : Obj) (n : Nat) : ((W.alloc a).alloc b).drewN n = grow (W.drewN n) #[a, b] := by
  rw [alloc_eq_grow, alloc_eq_grow]
  show grow (grow (W.drewN n) #[a]) #[b] = _
  rw [grow_grow]; rfl
set_option maxRecDepth 100000 in
theorem compareC_any (x y : Int × Int) (W : World) : Calls Try.prog 18 #[.agg #[.int .i64 x.1, .int .i64 x.2], .agg #[.int .i64 y.1, .int .i64 y.2]] W fun e w' => e = .returned (.int .i64 (cmpC x y)) ∧ ∃ q os', w' = grow (W.drewN q) os' := by
  obtain ⟨x1, x2⟩ := x
  obtain ⟨y1, y2⟩ := y
  show Calls _ _ _ _ fun e w' => e = .returned (.int .i64 (cmpI x1 y1)) ∧ _
  go_enter Try.func18, Try.ntmps18
  go_wp2_with (go_at_call 19; refine (cmpc_any _ _ _).mono ?_; rintro e w' ⟨rfl, rfl⟩)
  go_ret
  exact ⟨rfl, 0, _, cell_new2 _ _ _ 0⟩
def Try.sortCell_ren : Go.Shelf.Ren := ⟨fun | 6 => 17 | 15 => 34 | 14 => 33 | 28 => 54 | 29 => 55 | 20 => 46 | 21 => 47 | 22 => 48 | 23 => 49 | 24 => 50 | 25 => 51 | 26 => 52 | 27 => 53 | 46 => 64 | 47 => 65 | 48 => 66 | 49 => 67 | 50 => 68 | 57 => 78 | n => n, fun | 22 => 28 | 24 => 44 | 25 => 60 | 3 => 3 | 39 => 79 | 0 => 0 | 53 => 100 | 55 => 102 | 4 => 4 | 46 => 93 | 45 => 92 | 50 => 97 | 5 => 5 | 9 => 9 | 66 => 108 | 70 => 112 | 76 => 119 | 77 => 120 | n => n, fun | n => n⟩
theorem Try.sortCell : Go.Proofs.SlLaysF0.n6 Try.prog Try.sortCell_ren := {
  mixed := by kernel_rfl,
  f6 := ⟨Try.f17.name, by decide, Try.func17.trans (congrArg some (by kernel_rfl))⟩,
  f14 := ⟨Try.f33.name, by decide, Try.func33.trans (congrArg some (by kernel_rfl))⟩,
  f15 := Try.func34.trans (congrArg some (by kernel_rfl)),
  f20 := ⟨Try.f46.name, by decide, Try.func46.trans (congrArg some (by kernel_rfl))⟩,
  f21 := ⟨Try.f47.name, by decide, Try.func47.trans (congrArg some (by kernel_rfl))⟩,
  f22 := ⟨Try.f48.name, by decide, Try.func48.trans (congrArg some (by kernel_rfl))⟩,
  f23 := ⟨Try.f49.name, by decide, Try.func49.trans (congrArg some (by kernel_rfl))⟩,
  f24 := ⟨Try.f50.name, by decide, Try.func50.trans (congrArg some (by kernel_rfl))⟩,
  f25 := ⟨Try.f51.name, by decide, Try.func51.trans (congrArg some (by kernel_rfl))⟩,
  f26 := ⟨Try.f52.name, by decide, Try.func52.trans (congrArg some (by kernel_rfl))⟩,
  f27 := ⟨Try.f53.name, by decide, Try.func53.trans (congrArg some (by kernel_rfl))⟩,
  f28 := Try.func54.trans (congrArg some (by kernel_rfl)),
  f29 := Try.func55.trans (congrArg some (by kernel_rfl)),
  f46 := ⟨Try.f64.name, by decide, Try.func64.trans (congrArg some (by kernel_rfl))⟩,
  f47 := Try.func65.trans (congrArg some (by kernel_rfl)),
  f48 := Try.func66.trans (congrArg some (by kernel_rfl)),
  f49 := ⟨Try.f67.name, by decide, Try.func67.trans (congrArg some (by kernel_rfl))⟩,
  f50 := ⟨Try.f68.name, by decide, Try.func68.trans (congrArg some (by kernel_rfl))⟩,
  f57 := ⟨Try.f78.name, by decide, Try.func78.trans (congrArg some (by kernel_rfl))⟩,
  t0 := Try.underlying0,
  a0 := Try.isAgg0,
  z0 := Try.sizeOf0,
  v0 := Try.zeroValue0,
  t3 := Try.underlying3,
  a3 := Try.isAgg3,
  z3 := Try.sizeOf3,
  v3 := Try.zeroValue3,
  t4 := Try.underlying4,
  a4 := Try.isAgg4,
  z4 := Try.sizeOf4,
  v4 := Try.zeroValue4,
  t5 := Try.underlying5,
  a5 := Try.isAgg5,
  z5 := Try.sizeOf5,
  v5 := Try.zeroValue5,
  t9 := Try.underlying9,
  a9 := Try.isAgg9,
  z9 := Try.sizeOf9,
  v9 := Try.zeroValue9,
  t22 := Try.underlying28,
  a22 := Try.isAgg28,
  z22 := Try.sizeOf28,
  v22 := Try.zeroValue28,
  t25 := Try.underlying60,
  a25 := Try.isAgg60,
  z25 := Try.sizeOf60,
  v25 := Try.zeroValue60,
  t39 := Try.underlying79,
  a39 := Try.isAgg79,
  z39 := Try.sizeOf79,
  v39 := Try.zeroValue79,
  t45 := Try.underlying92,
  a45 := Try.isAgg92,
  z45 := Try.sizeOf92,
  v45 := Try.zeroValue92,
  t46 := Try.underlying93,
  a46 := Try.isAgg93,
  z46 := Try.sizeOf93,
  v46 := Try.zeroValue93,
  t50 := Try.underlying97,
  a50 := Try.isAgg97,
  z50 := Try.sizeOf97,
  v50 := Try.zeroValue97,
  t53 := Try.underlying100,
  a53 := Try.isAgg100,
  z53 := Try.sizeOf100,
  v53 := Try.zeroValue100,
  t55 := Try.underlying102,
  a55 := Try.isAgg102,
  z55 := Try.sizeOf102,
  v55 := Try.zeroValue102,
  t66 := Try.underlying108,
  a66 := Try.isAgg108,
  z66 := Try.sizeOf108,
  v66 := Try.zeroValue108,
  t70 := Try.underlying112,
  a70 := Try.isAgg112,
  z70 := Try.sizeOf112,
  v70 := Try.zeroValue112,
  t76 := Try.underlying119,
  a76 := Try.isAgg119,
  z76 := Try.sizeOf119,
  v76 := Try.zeroValue119,
  t77 := Try.underlying120,
  a77 := Try.isAgg120,
  z77 := Try.sizeOf120,
  v77 := Try.zeroValue120 }
theorem cmpLaysC (blk off size : Nat) (w : World) : CmpLays Try.prog 18 #[] encP 2 cmpC blk off size w :=
  fun _ _ _ _ x y => compareC_any x y _
theorem Try.isAggCell (w : World) : (isAgg 44).run Try.prog w = .ok true w := by kernel_rfl
theorem Try.sizeOfCell (w : World) : (sizeOf 44).run Try.prog w = .ok 2 w := by kernel_rfl
set_option maxHeartbeats 1000000 in
/-- A slice of cells of the call's own is sorted. -/
theorem sortCell_any {w : World} {B e n : Nat} {v : Value} {l : List (Int × Int)} (h : w.ownsRow B e 2 v n (flatP l)) (hs : l.length ≤ 4611686018427387903) :
    Calls Try.prog 17 #[v, .func (.func 18) #[] #[]] w fun e w' => e = .returned (.tuple #[]) ∧ w.grownBy w' v.ownBlock ∧ ∃ l', l'.Perm l ∧ l'.Pairwise (fun x y => x.1 ≤ y.1) ∧ Prs w' v l' := by
  have hn : n = l.length := by have := h.1; rw [flatP_length] at this; omega
  subst hn
  have hp := Prs.of_own h
  by_cases h0 : l.length = 0
  · have hl : l = [] := List.eq_nil_of_length_eq_zero h0
    subst hl
    obtain ⟨ao, cap, rfl, -⟩ := hp
    refine (AnyF.slices_SortFunc_none { Try.sortCell with } ao cap _ w).mono ?_
    rintro e w' ⟨rfl, rfl⟩
    exact ⟨rfl, World.grownBy.refl _ _, [], .refl _, .nil, Prs.of_own h⟩
  · have hh := h
    obtain ⟨h1, h2⟩ := h
    rcases h2 with ⟨rfl, h2⟩ | ⟨g, cap, cur, rfl, hb, hg, hnc, hcm, hr⟩
    · exact absurd h2 h0
    · have hH := holds_own hh
      have eg : ∀ args w, (callFunc 18 args).run Try.prog w = .ok (.enter 18 args) w := enters_of Try.func18 (by kernel_rfl) rfl
      have hlt : g < w.heap.size := (Array.getElem?_eq_some_iff.1 hg).1
      have hcon := AnyQ.slices_SortFunc Try.sortCell 2 Try.isAggCell Try.sizeOfCell encP (fun _ => rfl) (fun x v hv => by simp [encP] at hv; rcases hv with rfl | rfl <;> rfl) cmpC swoC 18 #[] g 0 cap l.toArray w eg (cmpLaysC g 0 _ w) hH hlt (by simp; omega)
      refine hcon.mono ?_
      rintro e w' ⟨rfl, d', m, os, hpm, hst, rfl⟩
      obtain ⟨k1, k2⟩ := sorted_cells hpm hst
      have hlen : d'.toList.length = l.length := by simpa using k1.length_eq
      have hsz : d'.size = l.toArray.size := hpm.1
      refine ⟨rfl, sortWorld_grown _ _ _ _ _ _, d'.toList, by simpa using k1, k2, ?_⟩
      have := prs_of_holds (g := g) (cap := cap) (l := d'.toList) (w := sortWorldK encP 2 w g 0 m d'.toList.toArray os) (by rw [hlen]; exact hnc) hcm
        (holdsK_sortWorldK_c encP 2 w g 0 l.toArray d'.toList.toArray m os hH hlt (by simp [hsz]))
      rw [hlen] at this
      simpa using this
theorem slCell : SlT Try.prog 28 44 2 16 (.agg #[.int .i64 0, .int .i64 0]) := .mk' Try.underlying28 (by kernel_rfl) (by decide)
set_option maxRecDepth 100000 in
set_option maxHeartbeats 2000000 in
theorem clipC_any {w : World} {v : Value} {l : List (Int × Int)} (h : Prs w v l) : Calls Try.prog 20 #[v] w fun e w' => w = w' ∧ ∃ u, e = .returned u ∧ Prs w u l ∧ u.ownBlock = v.ownBlock := by
  have hs := h
  obtain ⟨ao, cap, e, _, hcap, _⟩ := hs
  subst e
  have hll := fun w' => Sl.run_len (P := Try.prog) h slCell 3 w'
  have hcl := fun w' => run_clip slCell ao l.length cap hcap w'
  have HS := Lib.hid (clip_sl h)
  have HO := Lib.hid (show (sliced ao 0 l.length l.length 2).ownBlock = (Value.slice ao l.length cap).ownBlock by unfold sliced; cases ao <;> simp [Value.ownBlock, Addr.add])
  clear h
  generalize hsl : sliced ao 0 l.length l.length 2 = u at hcl HS HO
  clear hsl
  go_enter Try.func20, Try.ntmps20
  go_wp2_with fail
  go_ret
  exact ⟨rfl, _, rfl, HS.out, HO.out⟩
end Go.Proofs.Ytaodmkngakikjaa
