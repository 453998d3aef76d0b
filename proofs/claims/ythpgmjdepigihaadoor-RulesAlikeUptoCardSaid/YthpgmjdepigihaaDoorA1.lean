/- Pairs are compared, and sorted by the library's sort: contracts. -/
import Derived.Test.YthpgmjdepigihaaDoorGa
import Derived.Shelf.SlSortCmp.NoneTotal
import Derived.Test.YthpgmjdepigihaaDoorQt
import Derived.BigQuiet
namespace Go.Att
open Go.RowKit Go.Sort
def cmpI (a b : Int) : Int := if a < b then -1 else if b < a then 1 else 0
def cmpP (a b : Int × Int) : Int := if cmpI a.1 b.1 ≠ 0 then cmpI a.1 b.1 else cmpI a.2 b.2
theorem cmpP_lt (a b : Int × Int) : decide (cmpP a b < 0) = decide (ltP a b) := by
  rw [decide_eq_decide]
  unfold cmpP cmpI ltP
  by_cases h1 : a.1 < b.1
  · simp [h1]
  · by_cases h2 : b.1 < a.1
    · simp [h1, h2]; omega
    · by_cases h3 : a.2 < b.2
      · simp [h1, h2, h3]; omega
      · by_cases h4 : b.2 < a.2
        · simp [h1, h2, h3, h4]
        · simp [h1, h2, h3, h4]
/-- The first number that is not 0. -/
def orL : List Int → Int
  | [] => 0
  | x :: t => if x ≠ 0 then x else orL t
theorem orL_drop {l : List Int} {i : Nat} (h : i < l.length) : orL (l.drop i) = if nth l i ≠ 0 then nth l i else orL (l.drop (i + 1)) := by
  rw [List.drop_eq_getElem_cons h, ← nth_eq h, orL]
theorem orL_two (a b : Int × Int) : orL [cmpI a.1 b.1, cmpI a.2 b.2] = cmpP a b := by
  unfold cmpP orL orL orL
  by_cases h1 : cmpI a.1 b.1 = 0 <;> by_cases h2 : cmpI a.2 b.2 = 0 <;> simp [h1, h2]
def encP (x : Int × Int) : List Value := [.int .i64 x.1, .int .i64 x.2]
theorem flatK_encP (l : List (Int × Int)) : (flatK encP 2 l.toArray).toList = flatP l := by
  apply List.ext_getElem?
  intro t
  by_cases ht : t < l.length * 2
  · have h1 : t < (flatK encP 2 l.toArray).size := by simp [ht]
    have h2 := get_flatK encP 2 l.toArray t (by simpa using ht)
    rw [getElem!_pos _ t h1] at h2
    rw [Array.getElem?_toList, Array.getElem?_eq_getElem h1, h2]
    have hk : t / 2 < l.length := by omega
    have hg := flatP_get l (t / 2) hk
    have e0 : l.toArray[t / 2]! = l[t / 2] := by simp [hk]
    rw [e0]
    have h3 : t % 2 = 0 ∨ t % 2 = 1 := by omega
    rcases h3 with h3 | h3
    · have e2 : t / 2 * 2 = t := by omega
      rw [e2] at hg
      rw [h3, hg.1]; simp [encP]
    · have e2 : t / 2 * 2 + 1 = t := by omega
      rw [e2] at hg
      rw [h3, hg.2]; simp [encP]
  · rw [List.getElem?_eq_none (by simp; omega), List.getElem?_eq_none (by rw [flatP_length]; omega)]
theorem swoP : SWO (Go.Proofs.ltOf cmpP) where
  irrefl x := by unfold Go.Proofs.ltOf; rw [cmpP_lt]; simp [ltP]
  trans x y z h1 h2 := by
    unfold Go.Proofs.ltOf at *
    rw [cmpP_lt] at *
    simp only [decide_eq_true_eq] at *
    unfold ltP at *; omega
  ntrans x y z h1 h2 := by
    unfold Go.Proofs.ltOf at *
    rw [cmpP_lt] at *
    simp only [decide_eq_false_iff_not] at *
    unfold ltP at *; omega
/-- The pairs in order. -/
def sortP (l : List (Int × Int)) : List (Int × Int) := l.mergeSort fun x y => !Go.Proofs.ltOf cmpP y x
theorem sortP_perm (l : List (Int × Int)) : (sortP l).Perm l := List.mergeSort_perm _ _
theorem sortP_ord (l : List (Int × Int)) : Ord (sortP l) (sortP l).length := by
  have h := List.pairwise_mergeSort (le := fun x y : Int × Int => !Go.Proofs.ltOf cmpP y x) (fun a b c h1 h2 => by
    simp only [Bool.not_eq_true'] at *
    exact swoP.ntrans _ _ _ h2 h1) (fun a b => by
    simp only [Bool.or_eq_true, Bool.not_eq_true']
    unfold Go.Proofs.ltOf
    rw [cmpP_lt, cmpP_lt]
    simp only [decide_eq_false_iff_not]
    unfold ltP; omega) l
  intro a b hab hb
  have h2 := List.pairwise_iff_getElem.1 h a b (by unfold sortP at hb; omega) (by unfold sortP at hb; omega) hab
  simp only [Bool.not_eq_true'] at h2
  unfold Go.Proofs.ltOf at h2
  rw [cmpP_lt, decide_eq_false_iff_not] at h2
  rw [nthP_eq (show b < (sortP l).length by omega), nthP_eq (show a < (sortP l).length by omega)]
  exact h2
theorem sortP_eq (a b : List (Int × Int)) : sortP a = sortP b ↔ a.Perm b :=
  ⟨fun h => (sortP_perm a).symm.trans (h ▸ sortP_perm b), fun h => ord_perm_eq ((sortP_perm a).trans (h.trans (sortP_perm b).symm)) (sortP_ord a) (sortP_ord b)⟩
/-- What the library's sort leaves of the world. -/
theorem sortWorld_grown (w : World) (blk off m : Nat) (dk : Array (Int × Int)) (os : Array Obj) : w.grownBy (Go.Proofs.sortWorldK encP 2 w blk off m dk os) (some blk) := by
  refine ⟨rfl, rfl, rfl, ?_, fun k hk hne => ?_⟩
  · unfold Go.Proofs.sortWorldK; rw [size_grow]; simp [putRowK, putRow, mapBlock, Sort.ahead]
  · unfold Go.Proofs.sortWorldK
    rw [heap_grow_old _ _ (by simp [putRowK, putRow, mapBlock, Sort.ahead]; exact hk)]
    have : blk ≠ k := fun e => hne (by rw [e])
    simp [putRowK, putRow, mapBlock, Sort.ahead, Array.getElem?_modify, this]
theorem holds_own {w : World} {B e n : Nat} {g cap : Nat} {l : List (Int × Int)} (h : w.ownsRow B e 2 (.slice (some ⟨g, 0, none⟩) n cap) n (flatP l)) : HoldsK encP 2 w g 0 l.toArray := by
  have hp := Prs.of_own h
  have hn : n = l.length := by have := h.1; rw [flatP_length] at this; omega
  subst hn
  intro j hj
  have hj' : j < l.length * 2 := by simpa using hj
  have e1 : (flatK encP 2 l.toArray)[j]! = (flatP l)[j]'(by rw [flatP_length]; exact hj') := by
    rw [getElem!_pos _ j hj]
    have := flatK_encP l
    simp only [← this]
    simp
  refine ⟨?_, ?_⟩
  · obtain ⟨ao, cap', he, h2, h3, h4, h5⟩ := hp
    obtain ⟨b, off, e2, hc⟩ := h5 j (by rw [flatP_length]; exact hj')
    have e3 := he
    rw [e2] at e3
    simp only [Value.slice.injEq, Option.some.injEq, Addr.mk.injEq] at e3
    obtain ⟨⟨rfl, rfl, -⟩, -, -⟩ := e3
    rw [hc, e1]; rfl
  · obtain ⟨h1, h2⟩ := h
    rcases h2 with ⟨h2, _⟩ | ⟨g', cap', cur, h2, hb, hg, hr⟩
    · cases h2
    · simp only [Value.slice.injEq, Option.some.injEq, Addr.mk.injEq] at h2
      obtain ⟨⟨rfl, -, -⟩, -, -⟩ := h2
      simp [World.frozen?, hg]
theorem prs_of_holds {w : World} {g cap : Nat} {l : List (Int × Int)} (hc : l.length ≤ cap) (hm : cap ≤ maxLen) (h : HoldsK encP 2 w g 0 l.toArray) : Prs w (.slice (some ⟨g, 0, none⟩) l.length cap) l := by
  refine ⟨some ⟨g, 0, none⟩, cap, rfl, flatP_length l, hc, hm, fun i hi => ⟨g, 0, rfl, ?_⟩⟩
  have hi' : i < l.length * 2 := by rw [flatP_length] at hi; exact hi
  have hs : i < (flatK encP 2 l.toArray).size := by simp [hi']
  rw [(h i hs).1, getElem!_pos _ i hs]
  have := flatK_encP l
  simp only [← this]
  simp
theorem two_new (W : World) (a b c : Obj) (n : Nat) : (((W.alloc a).alloc b).drewN n).alloc c = grow (W.drewN n) #[a, b, c] := by
  rw [alloc_eq_grow, alloc_eq_grow, alloc_eq_grow]
  show grow (grow (grow (W.drewN n) #[a]) #[b]) #[c] = _
  rw [grow_grow, grow_grow]; rfl
theorem two_ints (w : World) (a b : Int) (t : TypeId) : Ints (w.alloc (Obj.cells #[.int .i64 a, .int .i64 b] t)) (.slice (some ⟨w.heap.size, 0, none⟩) 2 2) [a, b] := by
  refine ⟨_, _, rfl, rfl, Nat.le_refl _, by unfold maxLen; decide, fun i hi => ⟨_, _, rfl, ?_⟩⟩
  have h0 : i = 0 ∨ i = 1 := by simp at hi; omega
  rcases h0 with rfl | rfl
  · exact cell_new w #[.int .i64 a, .int .i64 b] t 0
  · exact cell_new w #[.int .i64 a, .int .i64 b] t 1
end Go.Att
namespace Go.Proofs.YthpgmjdepigihaaDoor
open Go.RowKit Go.Att Go.Shelf Go.Sort
theorem isnan_any (x : Int) (w : World) : Calls Tryd.prog 135 #[.int .i64 x] w fun e w' => e = .returned (.bool false) ∧ w = w' := by
  have h : (x != x) = false := by simp
  go_enter Tryd.func135, Tryd.ntmps135
  go_wp2_with fail
  go_ret
  exact ⟨rfl, rfl⟩
theorem cmpc_any (x y : Int) (w : World) : Calls Tryd.prog 88 #[.int .i64 x, .int .i64 y] w fun e w' => e = .returned (.int .i64 (cmpI x y)) ∧ w = w' := by
  obtain ⟨r, hr⟩ : ∃ r, cmpI x y = r := ⟨_, rfl⟩
  rw [hr]
  have HR := Lib.hid hr
  clear hr
  by_cases h1 : x < y
  · have H := Lib.hid (show (-1 : Int) = r by rw [← HR.out]; unfold cmpI; rw [if_pos h1])
    clear HR
    go_enter Tryd.func88, Tryd.ntmps88
    go_wp2_with (go_at_call 135; refine (isnan_any _ _).mono ?_; rintro e w' ⟨rfl, rfl⟩)
    go_ret
    exact ⟨ret_int H.out, rfl⟩
  · by_cases h2 : y < x
    · have H := Lib.hid (show (1 : Int) = r by rw [← HR.out]; unfold cmpI; rw [if_neg h1, if_pos h2])
      clear HR
      go_enter Tryd.func88, Tryd.ntmps88
      go_wp2_with (go_at_call 135; refine (isnan_any _ _).mono ?_; rintro e w' ⟨rfl, rfl⟩)
      go_ret
      exact ⟨ret_int H.out, rfl⟩
    · have H := Lib.hid (show (0 : Int) = r by rw [← HR.out]; unfold cmpI; rw [if_neg h1, if_neg h2])
      clear HR
      go_enter Tryd.func88, Tryd.ntmps88
      go_wp2_with (go_at_call 135; refine (isnan_any _ _).mono ?_; rintro e w' ⟨rfl, rfl⟩)
      go_ret
      exact ⟨ret_int H.out, rfl⟩
theorem cmpor_any (v : Value) (l : List Int) (w : World) (hv : Ints w v l) : Calls Tryd.prog 129 #[v] w fun e w' => e = .returned (.int .i64 (orL l)) ∧ w = w' := by
  have hll := hv.run_len (P := Tryd.prog) slInts
  have hlb := hv.len
  have HV := Lib.hid hv
  clear hv
  go_enter Tryd.func129, Tryd.ntmps129
  go_wp2_with fail
  go_loopw [8] (fun x8 wr => ∃ i : Nat, i ≤ l.length ∧ x8 = .int .i64 i ∧ Hid (orL l = orL (l.drop i)) ∧ w = wr) (fun x8 _ => l.length - (intOf x8).toNat)
  case atStart => exact ⟨0, Nat.zero_le _, rfl, Lib.hid rfl, rfl⟩
  case round =>
    obtain ⟨i, hi, rfl, H, rfl⟩ := hrel
    by_cases hil : i < l.length
    · have hix := HV.out.run_index (P := Tryd.prog) slInts i hil
      have hc := HV.out.cell i hil
      have HD := Lib.hid (orL_drop hil)
      by_cases hz : nth l i = 0
      · have hb : (nth l i != 0) = false := by rw [bne_eq_false_iff_eq]; exact hz
        have HZ := Lib.hid (show orL l = orL (l.drop (i + 1)) by rw [H.out, HD.out, if_neg (by simpa using hz)])
        clear hz
        go_wp2_with fail
        go_roundw
        case rel => exact ⟨i + 1, by omega, by go_num, HZ, trivial⟩
        case measure => simp [intOf]; omega
      · have hb : (nth l i != 0) = true := by rw [bne_iff_ne]; exact hz
        have HZ := Lib.hid (show nth l i = orL l by rw [H.out, HD.out, if_pos hz])
        clear hz
        go_wp2_with fail
        go_ret
        exact ⟨ret_int HZ.out, rfl⟩
    · obtain rfl : i = l.length := by omega
      have HZ := Lib.hid (show (0 : Int) = orL l by rw [H.out, List.drop_length]; rfl)
      go_wp2_with fail
      go_ret
      exact ⟨ret_int HZ.out, rfl⟩
set_option maxRecDepth 100000 in
set_option maxHeartbeats 2000000 in
theorem compare_any (x y : Int × Int) (W : World) : Calls Tryd.prog 76 #[.agg #[.int .i64 x.1, .int .i64 x.2], .agg #[.int .i64 y.1, .int .i64 y.2]] W fun e w' => e = .returned (.int .i64 (cmpP x y)) ∧ ∃ q os', w' = grow (W.drewN q) os' := by
  obtain ⟨x1, x2⟩ := x
  obtain ⟨y1, y2⟩ := y
  have HO := Lib.hid (orL_two (x1, x2) (y1, y2))
  go_enter Tryd.func76, Tryd.ntmps76
  go_wp2_with fail
  refine wp_region_quiet_tail 10 (by kernel_rfl) (by kernel_rfl) ?_
  simp only [List.take_succ_cons, List.take_zero, List.drop_succ_cons, List.drop_zero]
  repeat (go_big_quiet_step ((go_at_call 88; exact (cmpc_any _ _ _).mono fun _ _ h => ⟨h.1, _, h.2.symm⟩)))
  refine wpQuiet_nil ?_
  rintro _ ⟨nq, rfl⟩
  have HW := Lib.hid (fun c => two_new W (Obj.cells #[.int .i64 x1, .int .i64 x2] 149) (Obj.cells #[.int .i64 y1, .int .i64 y2] 149) c nq)
  generalize ((W.alloc (Obj.cells #[.int .i64 x1, .int .i64 x2] 149)).alloc (Obj.cells #[.int .i64 y1, .int .i64 y2] 149)).drewN nq = Wn at *
  have HOR := cmpor_any _ _ _ (two_ints Wn (cmpI x1 y1) (cmpI x2 y2) 3)
  rw [HO.out] at HOR
  obtain ⟨r, hr⟩ : ∃ r, cmpP (x1, x2) (y1, y2) = r := ⟨_, rfl⟩
  rw [hr] at HOR
  have HR := Lib.hid hr
  clear hr HO
  generalize cmpI x1 y1 = c1 at *
  generalize cmpI x2 y2 = c2 at *
  go_wp2_with (go_at_call 129; refine HOR.mono ?_; rintro e w' ⟨rfl, rfl⟩)
  go_ret
  exact ⟨ret_int HR.out.symm, nq, _, HW.out _⟩
def Tryd.sortPair_ren : Go.Shelf.Ren := ⟨fun | 6 => 75 | 15 => 128 | 14 => 127 | 28 => 158 | 29 => 159 | 20 => 150 | 21 => 151 | 22 => 152 | 23 => 153 | 24 => 154 | 25 => 155 | 26 => 156 | 27 => 157 | 46 => 183 | 47 => 184 | 48 => 185 | 49 => 186 | 50 => 187 | 57 => 191 | n => n, fun | 22 => 147 | 24 => 149 | 25 => 151 | 3 => 3 | 39 => 165 | 0 => 0 | 53 => 210 | 55 => 164 | 4 => 4 | 46 => 203 | 45 => 202 | 50 => 207 | 5 => 5 | 9 => 9 | 66 => 234 | 70 => 238 | 76 => 242 | 77 => 156 | n => n, fun | n => n⟩
theorem Tryd.sortPair : Go.Proofs.SlLaysF0.n6 Tryd.prog Tryd.sortPair_ren := {
  mixed := by kernel_rfl,
  f6 := ⟨Tryd.f75.name, by decide, Tryd.func75.trans (congrArg some (by kernel_rfl))⟩,
  f14 := ⟨Tryd.f127.name, by decide, Tryd.func127.trans (congrArg some (by kernel_rfl))⟩,
  f15 := Tryd.func128.trans (congrArg some (by kernel_rfl)),
  f20 := ⟨Tryd.f150.name, by decide, Tryd.func150.trans (congrArg some (by kernel_rfl))⟩,
  f21 := ⟨Tryd.f151.name, by decide, Tryd.func151.trans (congrArg some (by kernel_rfl))⟩,
  f22 := ⟨Tryd.f152.name, by decide, Tryd.func152.trans (congrArg some (by kernel_rfl))⟩,
  f23 := ⟨Tryd.f153.name, by decide, Tryd.func153.trans (congrArg some (by kernel_rfl))⟩,
  f24 := ⟨Tryd.f154.name, by decide, Tryd.func154.trans (congrArg some (by kernel_rfl))⟩,
  f25 := ⟨Tryd.f155.name, by decide, Tryd.func155.trans (congrArg some (by kernel_rfl))⟩,
  f26 := ⟨Tryd.f156.name, by decide, Tryd.func156.trans (congrArg some (by kernel_rfl))⟩,
  f27 := ⟨Tryd.f157.name, by decide, Tryd.func157.trans (congrArg some (by kernel_rfl))⟩,
  f28 := Tryd.func158.trans (congrArg some (by kernel_rfl)),
  f29 := Tryd.func159.trans (congrArg some (by kernel_rfl)),
  f46 := ⟨Tryd.f183.name, by decide, Tryd.func183.trans (congrArg some (by kernel_rfl))⟩,
  f47 := Tryd.func184.trans (congrArg some (by kernel_rfl)),
  f48 := Tryd.func185.trans (congrArg some (by kernel_rfl)),
  f49 := ⟨Tryd.f186.name, by decide, Tryd.func186.trans (congrArg some (by kernel_rfl))⟩,
  f50 := ⟨Tryd.f187.name, by decide, Tryd.func187.trans (congrArg some (by kernel_rfl))⟩,
  f57 := ⟨Tryd.f191.name, by decide, Tryd.func191.trans (congrArg some (by kernel_rfl))⟩,
  t0 := Tryd.underlying0,
  a0 := Tryd.isAgg0,
  z0 := Tryd.sizeOf0,
  v0 := Tryd.zeroValue0,
  t3 := Tryd.underlying3,
  a3 := Tryd.isAgg3,
  z3 := Tryd.sizeOf3,
  v3 := Tryd.zeroValue3,
  t4 := Tryd.underlying4,
  a4 := Tryd.isAgg4,
  z4 := Tryd.sizeOf4,
  v4 := Tryd.zeroValue4,
  t5 := Tryd.underlying5,
  a5 := Tryd.isAgg5,
  z5 := Tryd.sizeOf5,
  v5 := Tryd.zeroValue5,
  t9 := Tryd.underlying9,
  a9 := Tryd.isAgg9,
  z9 := Tryd.sizeOf9,
  v9 := Tryd.zeroValue9,
  t22 := Tryd.underlying147,
  a22 := Tryd.isAgg147,
  z22 := Tryd.sizeOf147,
  v22 := Tryd.zeroValue147,
  t25 := Tryd.underlying151,
  a25 := Tryd.isAgg151,
  z25 := Tryd.sizeOf151,
  v25 := Tryd.zeroValue151,
  t39 := Tryd.underlying165,
  a39 := Tryd.isAgg165,
  z39 := Tryd.sizeOf165,
  v39 := Tryd.zeroValue165,
  t45 := Tryd.underlying202,
  a45 := Tryd.isAgg202,
  z45 := Tryd.sizeOf202,
  v45 := Tryd.zeroValue202,
  t46 := Tryd.underlying203,
  a46 := Tryd.isAgg203,
  z46 := Tryd.sizeOf203,
  v46 := Tryd.zeroValue203,
  t50 := Tryd.underlying207,
  a50 := Tryd.isAgg207,
  z50 := Tryd.sizeOf207,
  v50 := Tryd.zeroValue207,
  t53 := Tryd.underlying210,
  a53 := Tryd.isAgg210,
  z53 := Tryd.sizeOf210,
  v53 := Tryd.zeroValue210,
  t55 := Tryd.underlying164,
  a55 := Tryd.isAgg164,
  z55 := Tryd.sizeOf164,
  v55 := Tryd.zeroValue164,
  t66 := Tryd.underlying234,
  a66 := Tryd.isAgg234,
  z66 := Tryd.sizeOf234,
  v66 := Tryd.zeroValue234,
  t70 := Tryd.underlying238,
  a70 := Tryd.isAgg238,
  z70 := Tryd.sizeOf238,
  v70 := Tryd.zeroValue238,
  t76 := Tryd.underlying242,
  a76 := Tryd.isAgg242,
  z76 := Tryd.sizeOf242,
  v76 := Tryd.zeroValue242,
  t77 := Tryd.underlying156,
  a77 := Tryd.isAgg156,
  z77 := Tryd.sizeOf156,
  v77 := Tryd.zeroValue156 }
theorem cmpLaysP (blk off size : Nat) (w : World) : CmpLays Tryd.prog 76 #[] encP 2 cmpP blk off size w :=
  fun _ _ _ _ x y => compare_any x y _
theorem Tryd.isAggPair (w : World) : (isAgg 149).run Tryd.prog w = .ok true w := by kernel_rfl
theorem Tryd.sizeOfPair (w : World) : (sizeOf 149).run Tryd.prog w = .ok 2 w := by kernel_rfl
set_option maxHeartbeats 1000000 in
/-- A slice of pairs of the call's own is sorted. -/
theorem sortPair_any {w : World} {B e n : Nat} {v : Value} {l : List (Int × Int)} (h : w.ownsRow B e 2 v n (flatP l)) (hs : l.length ≤ 4611686018427387903) :
    Calls Tryd.prog 75 #[v, .func (.func 76) #[] #[]] w fun e w' => e = .returned (.tuple #[]) ∧ w.grownBy w' v.ownBlock ∧ Prs w' v (sortP l) := by
  have hn : n = l.length := by have := h.1; rw [flatP_length] at this; omega
  subst hn
  have hp := Prs.of_own h
  by_cases h0 : l.length = 0
  · have hl : l = [] := List.eq_nil_of_length_eq_zero h0
    subst hl
    obtain ⟨ao, cap, rfl, -⟩ := hp
    refine (AnyF.slices_SortFunc_none { Tryd.sortPair with } ao cap _ w).mono ?_
    rintro e w' ⟨rfl, rfl⟩
    refine ⟨rfl, World.grownBy.refl _ _, ?_⟩
    rw [show sortP [] = [] by simp [sortP]]
    exact Prs.of_own h
  · have hh := h
    obtain ⟨h1, h2⟩ := h
    rcases h2 with ⟨rfl, h2⟩ | ⟨g, cap, cur, rfl, hb, hg, hnc, hcm, hr⟩
    · exact absurd h2 h0
    · have hH := holds_own hh
      have eg : ∀ args w, (callFunc 76 args).run Tryd.prog w = .ok (.enter 76 args) w := enters_of Tryd.func76 (by kernel_rfl) rfl
      have hlt : g < w.heap.size := (Array.getElem?_eq_some_iff.1 hg).1
      have hcon := AnyQ.slices_SortFunc_total Tryd.sortPair 2 Tryd.isAggPair Tryd.sizeOfPair encP (fun _ => rfl) (fun x v hv => by simp [encP] at hv; rcases hv with rfl | rfl <;> rfl) cmpP swoP 76 #[] g 0 cap l.toArray w eg (cmpLaysP g 0 _ w) hH hlt (by simp; omega) (fun x y h1 h2 => by
        unfold ltOf at h1 h2
        rw [cmpP_lt, decide_eq_false_iff_not] at h1 h2
        exact ltP_antisymm h2 h1)
      refine hcon.mono ?_
      rintro e w' ⟨rfl, m, os, rfl⟩
      refine ⟨rfl, sortWorld_grown _ _ _ _ _ _, ?_⟩
      have hlen : (sortP l).length = l.length := (sortP_perm l).length_eq
      have := prs_of_holds (g := g) (cap := cap) (l := sortP l) (w := sortWorldK encP 2 w g 0 m (sortP l).toArray os) (by rw [hlen]; exact hnc) hcm
        (holdsK_sortWorldK_c encP 2 w g 0 l.toArray (sortP l).toArray m os hH hlt (by simp [hlen]))
      rw [hlen] at this
      exact this
end Go.Proofs.YthpgmjdepigihaaDoor
