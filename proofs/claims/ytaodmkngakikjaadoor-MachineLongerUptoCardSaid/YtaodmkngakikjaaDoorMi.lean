/- Cells are sorted by the library's sort, by their places: contracts; Clip of cells. -/
import Derived.Test.YtaodmkngakikjaaDoorMh
import Derived.Test.YtaodmkngakikjaaDoorVc
import Derived.Shelf.SlSortCmp.NoneTotal
import Derived.Test.YtaodmkngakikjaaDoorQt
import Derived.BigQuiet
namespace Go.Att
open Go.RowKit Go.Sort
def cmpI (a b : Int) : Int := if a < b then -1 else if b < a then 1 else 0
def cmpC (a b : Int × Int) : Int := cmpI a.1 b.1
theorem cmpC_lt (a b : Int × Int) : decide (cmpC a b < 0) = decide (a.1 < b.1) := by
  rw [decide_eq_decide]
  unfold cmpC cmpI
  by_cases h1 : a.1 < b.1
  · simp [h1]
  · by_cases h2 : b.1 < a.1
    · simp [h1, h2]
    · simp [h1, h2]
theorem Prs.of_own {w : World} {B e n : Nat} {v : Value} {l : List (Int × Int)} (h : w.ownsRow B e 2 v n (flatP l)) : Prs w v l := by
  have hl : n = l.length := by have := h.1; rw [flatP_length] at this; omega
  subst hl
  exact Sl.of_own h (by omega)
def encP (x : Int × Int) : List Value := [.int .i64 x.1, .int .i64 x.2]
theorem flatK_encP (l : List (Int × Int)) : (flatK encP 2 l.toArray).toList = flatP l := by
  apply List.ext_getElem?
  intro t
  by_cases ht : t < l.length * 2
  · have h1 : t < (flatK encP 2 l.toArray).size := by simp [ht]
    have h2 := get_flatK encP 2 l.toArray t (by simpa using ht)
    rw [getElem!_pos _ t h1] at h2
    rw [Array.getElem?_toList, Array.getElem?_eq_getElem h1, h2]
    have hk : t / 2 < l.length := by omega
    have hg := flatP_get l (t / 2) hk
    have e0 : l.toArray[t / 2]! = l[t / 2] := by simp [hk]
    rw [e0]
    have h3 : t % 2 = 0 ∨ t % 2 = 1 := by omega
    rcases h3 with h3 | h3
    · have e2 : t / 2 * 2 = t := by omega
      rw [e2] at hg
      rw [h3, hg.1]; simp [encP]
    · have e2 : t / 2 * 2 + 1 = t := by omega
      rw [e2] at hg
      rw [h3, hg.2]; simp [encP]
  · rw [List.getElem?_eq_none (by simp; omega), List.getElem?_eq_none (by rw [flatP_length]; omega)]
theorem swoC : SWO (Go.Proofs.ltOf cmpC) where
  irrefl x := by unfold Go.Proofs.ltOf; rw [cmpC_lt]; simp
  trans x y z h1 h2 := by
    unfold Go.Proofs.ltOf at *
    rw [cmpC_lt] at *
    simp only [decide_eq_true_eq] at *
    omega
  ntrans x y z h1 h2 := by
    unfold Go.Proofs.ltOf at *
    rw [cmpC_lt] at *
    simp only [decide_eq_false_iff_not] at *
    omega
/-- What the library's sort leaves of the world. -/
theorem sortWorld_grown (w : World) (blk off m : Nat) (dk : Array (Int × Int)) (os : Array Obj) : w.grownBy (Go.Proofs.sortWorldK encP 2 w blk off m dk os) (some blk) := by
  refine ⟨rfl, rfl, rfl, ?_, fun k hk hne => ?_⟩
  · unfold Go.Proofs.sortWorldK; rw [size_grow]; simp [putRowK, putRow, mapBlock, Sort.ahead]
  · unfold Go.Proofs.sortWorldK
    rw [heap_grow_old _ _ (by simp [putRowK, putRow, mapBlock, Sort.ahead]; exact hk)]
    have : blk ≠ k := fun e => hne (by rw [e])
    simp [putRowK, putRow, mapBlock, Sort.ahead, Array.getElem?_modify, this]
theorem holds_own {w : World} {B e n : Nat} {g cap : Nat} {l : List (Int × Int)} (h : w.ownsRow B e 2 (.slice (some ⟨g, 0, none⟩) n cap) n (flatP l)) : HoldsK encP 2 w g 0 l.toArray := by
  have hp := Prs.of_own h
  have hn : n = l.length := by have := h.1; rw [flatP_length] at this; omega
  subst hn
  intro j hj
  have hj' : j < l.length * 2 := by simpa using hj
  have e1 : (flatK encP 2 l.toArray)[j]! = (flatP l)[j]'(by rw [flatP_length]; exact hj') := by
    rw [getElem!_pos _ j hj]
    have := flatK_encP l
    simp only [← this]
    simp
  refine ⟨?_, ?_⟩
  · obtain ⟨ao, cap', he, h2, h3, h4, h5⟩ := hp
    obtain ⟨b, off, e2, hc⟩ := h5 j (by rw [flatP_length]; exact hj')
    have e3 := he
    rw [e2] at e3
    simp only [Value.slice.injEq, Option.some.injEq, Addr.mk.injEq] at e3
    obtain ⟨⟨rfl, rfl, -⟩, -, -⟩ := e3
    rw [hc, e1]; rfl
  · obtain ⟨h1, h2⟩ := h
    rcases h2 with ⟨h2, _⟩ | ⟨g', cap', cur, h2, hb, hg, hr⟩
    · cases h2
    · simp only [Value.slice.injEq, Option.some.injEq, Addr.mk.injEq] at h2
      obtain ⟨⟨rfl, -, -⟩, -, -⟩ := h2
      simp [World.frozen?, hg]
theorem prs_of_holds {w : World} {g cap : Nat} {l : List (Int × Int)} (hc : l.length ≤ cap) (hm : cap ≤ maxLen) (h : HoldsK encP 2 w g 0 l.toArray) : Prs w (.slice (some ⟨g, 0, none⟩) l.length cap) l := by
  refine ⟨some ⟨g, 0, none⟩, cap, rfl, flatP_length l, hc, hm, fun i hi => ⟨g, 0, rfl, ?_⟩⟩
  have hi' : i < l.length * 2 := by rw [flatP_length] at hi; exact hi
  have hs : i < (flatK encP 2 l.toArray).size := by simp [hi']
  rw [(h i hs).1, getElem!_pos _ i hs]
  have := flatK_encP l
  simp only [← this]
  simp
/-- Sorted within the library's words: in order. -/
theorem sorted_cells {d d' : Array (Int × Int)} (hp : PermIn 0 d.size d d') (hs : SortedIn (Go.Proofs.ltOf cmpC) 0 d.size d') : d'.toList.Perm d.toList ∧ d'.toList.Pairwise (fun x y => x.1 ≤ y.1) := by
  obtain ⟨h1, -, h3⟩ := hp
  refine ⟨?_, ?_⟩
  · have e1 : d'.extract 0 d.size = d' := by rw [← h1]; simp
    have e2 : d.extract 0 d.size = d := by simp
    rw [e1, e2] at h3; exact h3
  · rw [List.pairwise_iff_getElem]
    intro i j hi hj hij
    have hj' : j < d'.size := by simpa using hj
    have hi' : i < d'.size := by simpa using hi
    have := hs i j (Nat.zero_le _) hij (by omega)
    unfold Go.Proofs.ltOf at this
    rw [cmpC_lt, decide_eq_false_iff_not, getElem!_pos _ j hj', getElem!_pos _ i hi'] at this
    simp only [Array.getElem_toList]
    omega
end Go.Att
namespace Go.Proofs.YtaodmkngakikjaaDoor
open Go.RowKit Go.Att Go.Shelf Go.Sort
theorem isnan_any (x : Int) (w : World) : Calls Tryd.prog 32 #[.int .i64 x] w fun e w' => e = .returned (.bool false) ∧ w = w' := by
  have h : (x != x) = false := by simp
  go_enter Tryd.func32, Tryd.ntmps32
  go_wp2_with fail
  go_ret
  exact ⟨rfl, rfl⟩
theorem cmpc_any (x y : Int) (w : World) : Calls Tryd.prog 19 #[.int .i64 x, .int .i64 y] w fun e w' => e = .returned (.int .i64 (cmpI x y)) ∧ w = w' := by
  obtain ⟨r, hr⟩ : ∃ r, cmpI x y = r := ⟨_, rfl⟩
  rw [hr]
  have HR := Lib.hid hr
  clear hr
  by_cases h1 : x < y
  · have H := Lib.hid (show (-1 : Int) = r by rw [← HR.out]; unfold cmpI; rw [if_pos h1])
    clear HR
    go_enter Tryd.func19, Tryd.ntmps19
    go_wp2_with (go_at_call 32; refine (isnan_any _ _).mono ?_; rintro e w' ⟨rfl, rfl⟩)
    go_ret
    exact ⟨ret_int H.out, rfl⟩
  · by_cases h2 : y < x
    · have H := Lib.hid (show (1 : Int) = r by rw [← HR.out]; unfold cmpI; rw [if_neg h1, if_pos h2])
      clear HR
      go_enter Tryd.func19, Tryd.ntmps19
      go_wp2_with (go_at_call 32; refine (isnan_any _ _).mono ?_; rintro e w' ⟨rfl, rfl⟩)
      go_ret
      exact ⟨ret_int H.out, rfl⟩
    · have H := Lib.hid (show (0 : Int) = r by rw [← HR.out]; unfold cmpI; rw [if_neg h1, if_neg h2])
      clear HR
      go_enter Tryd.func19, Tryd.ntmps19
      go_wp2_with (go_at_call 32; refine (isnan_any _ _).mono ?_; rintro e w' ⟨rfl, rfl⟩)
      go_ret
      exact ⟨ret_int H.out, rfl⟩
theorem cell_new2 (W : World) (a b : Obj) (n : Nat) : ((W.alloc a).alloc b).drewN n = grow (W.drewN n) #[a, b] := by
  rw [alloc_eq_grow, alloc_eq_grow]
  show grow (grow (W.drewN n) #[a]) #[b] = _
  rw [grow_grow]; rfl
set_option maxRecDepth 100000 in
theorem compareC_any (x y : Int × Int) (W : World) : Calls Tryd.prog 18 #[.agg #[.int .i64 x.1, .int .i64 x.2], .agg #[.int .i64 y.1, .int .i64 y.2]] W fun e w' => e = .returned (.int .i64 (cmpC x y)) ∧ ∃ q os', w' = grow (W.drewN q) os' := by
  obtain ⟨x1, x2⟩ := x
  obtain ⟨y1, y2⟩ := y
  show Calls _ _ _ _ fun e w' => e = .returned (.int .i64 (cmpI x1 y1)) ∧ _
  go_enter Tryd.func18, Tryd.ntmps18
  go_wp2_with (go_at_call 19; refine (cmpc_any _ _ _).mono ?_; rintro e w' ⟨rfl, rfl⟩)
  go_ret
  exact ⟨rfl, 0, _, cell_new2 _ _ _ 0⟩
def Tryd.sortCell_ren : Go.Shelf.Ren := ⟨fun | 6 => 17 | 15 => 31 | 14 => 30 | 28 => 50 | 29 => 51 | 20 => 42 | 21 => 43 | 22 => 44 | 23 => 45 | 24 => 46 | 25 => 47 | 26 => 48 | 27 => 49 | 46 => 68 | 47 => 69 | 48 => 70 | 49 => 71 | 50 => 72 | 57 => 83 | n => n, fun | 22 => 29 | 24 => 57 | 25 => 60 | 3 => 3 | 39 => 80 | 0 => 0 | 53 => 99 | 55 => 101 | 4 => 4 | 46 => 92 | 45 => 91 | 50 => 96 | 5 => 5 | 9 => 9 | 66 => 117 | 70 => 121 | 76 => 137 | 77 => 138 | n => n, fun | n => n⟩
theorem Tryd.sortCell : Go.Proofs.SlLaysF0.n6 Tryd.prog Tryd.sortCell_ren := {
  mixed := by kernel_rfl,
  f6 := ⟨Tryd.f17.name, by decide, Tryd.func17.trans (congrArg some (by kernel_rfl))⟩,
  f14 := ⟨Tryd.f30.name, by decide, Tryd.func30.trans (congrArg some (by kernel_rfl))⟩,
  f15 := Tryd.func31.trans (congrArg some (by kernel_rfl)),
  f20 := ⟨Tryd.f42.name, by decide, Tryd.func42.trans (congrArg some (by kernel_rfl))⟩,
  f21 := ⟨Tryd.f43.name, by decide, Tryd.func43.trans (congrArg some (by kernel_rfl))⟩,
  f22 := ⟨Tryd.f44.name, by decide, Tryd.func44.trans (congrArg some (by kernel_rfl))⟩,
  f23 := ⟨Tryd.f45.name, by decide, Tryd.func45.trans (congrArg some (by kernel_rfl))⟩,
  f24 := ⟨Tryd.f46.name, by decide, Tryd.func46.trans (congrArg some (by kernel_rfl))⟩,
  f25 := ⟨Tryd.f47.name, by decide, Tryd.func47.trans (congrArg some (by kernel_rfl))⟩,
  f26 := ⟨Tryd.f48.name, by decide, Tryd.func48.trans (congrArg some (by kernel_rfl))⟩,
  f27 := ⟨Tryd.f49.name, by decide, Tryd.func49.trans (congrArg some (by kernel_rfl))⟩,
  f28 := Tryd.func50.trans (congrArg some (by kernel_rfl)),
  f29 := Tryd.func51.trans (congrArg some (by kernel_rfl)),
  f46 := ⟨Tryd.f68.name, by decide, Tryd.func68.trans (congrArg some (by kernel_rfl))⟩,
  f47 := Tryd.func69.trans (congrArg some (by kernel_rfl)),
  f48 := Tryd.func70.trans (congrArg some (by kernel_rfl)),
  f49 := ⟨Tryd.f71.name, by decide, Tryd.func71.trans (congrArg some (by kernel_rfl))⟩,
  f50 := ⟨Tryd.f72.name, by decide, Tryd.func72.trans (congrArg some (by kernel_rfl))⟩,
  f57 := ⟨Tryd.f83.name, by decide, Tryd.func83.trans (congrArg some (by kernel_rfl))⟩,
  t0 := Tryd.underlying0,
  a0 := Tryd.isAgg0,
  z0 := Tryd.sizeOf0,
  v0 := Tryd.zeroValue0,
  t3 := Tryd.underlying3,
  a3 := Tryd.isAgg3,
  z3 := Tryd.sizeOf3,
  v3 := Tryd.zeroValue3,
  t4 := Tryd.underlying4,
  a4 := Tryd.isAgg4,
  z4 := Tryd.sizeOf4,
  v4 := Tryd.zeroValue4,
  t5 := Tryd.underlying5,
  a5 := Tryd.isAgg5,
  z5 := Tryd.sizeOf5,
  v5 := Tryd.zeroValue5,
  t9 := Tryd.underlying9,
  a9 := Tryd.isAgg9,
  z9 := Tryd.sizeOf9,
  v9 := Tryd.zeroValue9,
  t22 := Tryd.underlying29,
  a22 := Tryd.isAgg29,
  z22 := Tryd.sizeOf29,
  v22 := Tryd.zeroValue29,
  t25 := Tryd.underlying60,
  a25 := Tryd.isAgg60,
  z25 := Tryd.sizeOf60,
  v25 := Tryd.zeroValue60,
  t39 := Tryd.underlying80,
  a39 := Tryd.isAgg80,
  z39 := Tryd.sizeOf80,
  v39 := Tryd.zeroValue80,
  t45 := Tryd.underlying91,
  a45 := Tryd.isAgg91,
  z45 := Tryd.sizeOf91,
  v45 := Tryd.zeroValue91,
  t46 := Tryd.underlying92,
  a46 := Tryd.isAgg92,
  z46 := Tryd.sizeOf92,
  v46 := Tryd.zeroValue92,
  t50 := Tryd.underlying96,
  a50 := Tryd.isAgg96,
  z50 := Tryd.sizeOf96,
  v50 := Tryd.zeroValue96,
  t53 := Tryd.underlying99,
  a53 := Tryd.isAgg99,
  z53 := Tryd.sizeOf99,
  v53 := Tryd.zeroValue99,
  t55 := Tryd.underlying101,
  a55 := Tryd.isAgg101,
  z55 := Tryd.sizeOf101,
  v55 := Tryd.zeroValue101,
  t66 := Tryd.underlying117,
  a66 := Tryd.isAgg117,
  z66 := Tryd.sizeOf117,
  v66 := Tryd.zeroValue117,
  t70 := Tryd.underlying121,
  a70 := Tryd.isAgg121,
  z70 := Tryd.sizeOf121,
  v70 := Tryd.zeroValue121,
  t76 := Tryd.underlying137,
  a76 := Tryd.isAgg137,
  z76 := Tryd.sizeOf137,
  v76 := Tryd.zeroValue137,
  t77 := Tryd.underlying138,
  a77 := Tryd.isAgg138,
  z77 := Tryd.sizeOf138,
  v77 := Tryd.zeroValue138 }
theorem cmpLaysC (blk off size : Nat) (w : World) : CmpLays Tryd.prog 18 #[] encP 2 cmpC blk off size w :=
  fun _ _ _ _ x y => compareC_any x y _
theorem Tryd.isAggCell (w : World) : (isAgg 57).run Tryd.prog w = .ok true w := by kernel_rfl
theorem Tryd.sizeOfCell (w : World) : (sizeOf 57).run Tryd.prog w = .ok 2 w := by kernel_rfl
set_option maxHeartbeats 1000000 in
/-- A slice of cells of the call's own is sorted. -/
theorem sortCell_any {w : World} {B e n : Nat} {v : Value} {l : List (Int × Int)} (h : w.ownsRow B e 2 v n (flatP l)) (hs : l.length ≤ 4611686018427387903) :
    Calls Tryd.prog 17 #[v, .func (.func 18) #[] #[]] w fun e w' => e = .returned (.tuple #[]) ∧ w.grownBy w' v.ownBlock ∧ ∃ l', l'.Perm l ∧ l'.Pairwise (fun x y => x.1 ≤ y.1) ∧ Prs w' v l' := by
  have hn : n = l.length := by have := h.1; rw [flatP_length] at this; omega
  subst hn
  have hp := Prs.of_own h
  by_cases h0 : l.length = 0
  · have hl : l = [] := List.eq_nil_of_length_eq_zero h0
    subst hl
    obtain ⟨ao, cap, rfl, -⟩ := hp
    refine (AnyF.slices_SortFunc_none { Tryd.sortCell with } ao cap _ w).mono ?_
    rintro e w' ⟨rfl, rfl⟩
    exact ⟨rfl, World.grownBy.refl _ _, [], .refl _, .nil, Prs.of_own h⟩
  · have hh := h
    obtain ⟨h1, h2⟩ := h
    rcases h2 with ⟨rfl, h2⟩ | ⟨g, cap, cur, rfl, hb, hg, hnc, hcm, hr⟩
    · exact absurd h2 h0
    · have hH := holds_own hh
      have eg : ∀ args w, (callFunc 18 args).run Tryd.prog w = .ok (.enter 18 args) w := enters_of Tryd.func18 (by kernel_rfl) rfl
      have hlt : g < w.heap.size := (Array.getElem?_eq_some_iff.1 hg).1
      have hcon := AnyQ.slices_SortFunc Tryd.sortCell 2 Tryd.isAggCell Tryd.sizeOfCell encP (fun _ => rfl) (fun x v hv => by simp [encP] at hv; rcases hv with rfl | rfl <;> rfl) cmpC swoC 18 #[] g 0 cap l.toArray w eg (cmpLaysC g 0 _ w) hH hlt (by simp; omega)
      refine hcon.mono ?_
      rintro e w' ⟨rfl, d', m, os, hpm, hst, rfl⟩
      obtain ⟨k1, k2⟩ := sorted_cells hpm hst
      have hlen : d'.toList.length = l.length := by simpa using k1.length_eq
      have hsz : d'.size = l.toArray.size := hpm.1
      refine ⟨rfl, sortWorld_grown _ _ _ _ _ _, d'.toList, by simpa using k1, k2, ?_⟩
      have := prs_of_holds (g := g) (cap := cap) (l := d'.toList) (w := sortWorldK encP 2 w g 0 m d'.toList.toArray os) (by rw [hlen]; exact hnc) hcm
        (holdsK_sortWorldK_c encP 2 w g 0 l.toArray d'.toList.toArray m os hH hlt (by simp [hsz]))
      rw [hlen] at this
      simpa using this
theorem slCell : SlT Tryd.prog 29 57 2 16 (.agg #[.int .i64 0, .int .i64 0]) := .mk' Tryd.underlying29 (by kernel_rfl) (by decide)
set_option maxRecDepth 100000 in
set_option maxHeartbeats 2000000 in
theorem clipC_any {w : World} {v : Value} {l : List (Int × Int)} (h : Prs w v l) : Calls Tryd.prog 20 #[v] w fun e w' => w = w' ∧ ∃ u, e = .returned u ∧ Prs w u l ∧ u.ownBlock = v.ownBlock := by
  have hs := h
  obtain ⟨ao, cap, e, _, hcap, _⟩ := hs
  subst e
  have hll := fun w' => Sl.run_len (P := Tryd.prog) h slCell 3 w'
  have hcl := fun w' => run_clip slCell ao l.length cap hcap w'
  have HS := Lib.hid (clip_sl h)
  have HO := Lib.hid (show (sliced ao 0 l.length l.length 2).ownBlock = (Value.slice ao l.length cap).ownBlock by unfold sliced; cases ao <;> simp [Value.ownBlock, Addr.add])
  clear h
  generalize hsl : sliced ao 0 l.length l.length 2 = u at hcl HS HO
  clear hsl
  go_enter Tryd.func20, Tryd.ntmps20
  go_wp2_with fail
  go_ret
  exact ⟨rfl, _, rfl, HS.out, HO.out⟩
end Go.Proofs.YtaodmkngakikjaaDoor
