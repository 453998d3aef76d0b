/- Pairs are compared, and sorted by the library's sort: contracts. -/
import Derived.Test.YtaodmkngakikjaaGa
import Derived.Test.YtaodmkngakikjaaSp
import Derived.Shelf.SlSortCmp.NoneTotal
import Derived.Test.YtaodmkngakikjaaQt
import Derived.BigQuiet
namespace Go.Att
open Go.RowKit Go.Sort
def cmpP (a b : Int × Int) : Int := if cmpI a.1 b.1 ≠ 0 then cmpI a.1 b.1 else cmpI a.2 b.2
theorem cmpP_lt (a b : Int × Int) : decide (cmpP a b < 0) = decide (ltP a b) := by
  rw [decide_eq_decide]
  unfold cmpP cmpI ltP
  by_cases h1 : a.1 < b.1
  · simp [h1]
  · by_cases h2 : b.1 < a.1
    · simp [h1, h2]; omega
    · by_cases h3 : a.2 < b.2
      · simp [h1, h2, h3]; omega
      · by_cases h4 : b.2 < a.2
        · simp [h1, h2, h3, h4]
        · simp [h1, h2, h3, h4]
/-- The first number that is not 0. -/
def orL : List Int → Int
  | [] => 0
  | x :: t => if x ≠ 0 then x else orL t
theorem orL_drop {l : List Int} {i : Nat} (h : i < l.length) : orL (l.drop i) = if nth l i ≠ 0 then nth l i else orL (l.drop (i + 1)) := by
  rw [List.drop_eq_getElem_cons h, ← nth_eq h, orL]
theorem orL_two (a b : Int × Int) : orL [cmpI a.1 b.1, cmpI a.2 b.2] = cmpP a b := by
  unfold cmpP orL orL orL
  by_cases h1 : cmpI a.1 b.1 = 0 <;> by_cases h2 : cmpI a.2 b.2 = 0 <;> simp [h1, h2]
theorem swoP : SWO (Go.Proofs.ltOf cmpP) where
  irrefl x := by unfold Go.Proofs.ltOf; rw [cmpP_lt]; simp [ltP]
  trans x y z h1 h2 := by
    unfold Go.Proofs.ltOf at *
    rw [cmpP_lt] at *
    simp only [decide_eq_true_eq] at *
    unfold ltP at *; omega
  ntrans x y z h1 h2 := by
    unfold Go.Proofs.ltOf at *
    rw [cmpP_lt] at *
    simp only [decide_eq_false_iff_not] at *
    unfold ltP at *; omega
/-- The pairs in order. -/
def sortP (l : List (Int × Int)) : List (Int × Int) := l.mergeSort fun x y => !Go.Proofs.ltOf cmpP y x
theorem sortP_perm (l : List (Int × Int)) : (sortP l).Perm l := List.mergeSort_perm _ _
theorem sortP_ord (l : List (Int × Int)) : Ord (sortP l) (sortP l).length := by
  have h := List.pairwise_mergeSort (le := fun x y : Int × Int => !Go.Proofs.ltOf cmpP y x) (fun a b c h1 h2 => by
    simp only [Bool.not_eq_true'] at *
    exact swoP.ntrans _ _ _ h2 h1) (fun a b => by
    simp only [Bool.or_eq_true, Bool.not_eq_true']
    unfold Go.Proofs.ltOf
    rw [cmpP_lt, cmpP_lt]
    simp only [decide_eq_false_iff_not]
    unfold ltP; omega) l
  intro a b hab hb
  have h2 := List.pairwise_iff_getElem.1 h a b (by unfold sortP at hb; omega) (by unfold sortP at hb; omega) hab
  simp only [Bool.not_eq_true'] at h2
  unfold Go.Proofs.ltOf at h2
  rw [cmpP_lt, decide_eq_false_iff_not] at h2
  rw [nthP_eq (show b < (sortP l).length by omega), nthP_eq (show a < (sortP l).length by omega)]
  exact h2
theorem sortP_eq (a b : List (Int × Int)) : sortP a = sortP b ↔ a.Perm b :=
  ⟨fun h => (sortP_perm a).symm.trans (h ▸ sortP_perm b), fun h => ord_perm_eq ((sortP_perm a).trans (h.trans (sortP_perm b).symm)) (sortP_ord a) (sortP_ord b)⟩
theorem two_new (W : World) (a b c : Obj) (n : Nat) : (((W.alloc a).alloc b).drewN n).alloc c = grow (W.drewN n) #[a, b, c] := by
  rw [alloc_eq_grow, alloc_eq_grow, alloc_eq_grow]
  show grow (grow (grow (W.drewN n) #[a]) #[b]) #[c] = _
  rw [grow_grow, grow_grow]; rfl
theorem two_ints (w : World) (a b : Int) (t : TypeId) : Ints (w.alloc (Obj.cells #[.int .i64 a, .int .i64 b] t)) (.slice (some ⟨w.heap.size, 0, none⟩) 2 2) [a, b] := by
  refine ⟨_, _, rfl, rfl, Nat.le_refl _, by unfold maxLen; decide, fun i hi => ⟨_, _, rfl, ?_⟩⟩
  have h0 : i = 0 ∨ i = 1 := by simp at hi; omega
  rcases h0 with rfl | rfl
  · exact cell_new w #[.int .i64 a, .int .i64 b] t 0
  · exact cell_new w #[.int .i64 a, .int .i64 b] t 1
end Go.Att
namespace Go.Proofs.Ytaodmkngakikjaa
open Go.RowKit Go.Att Go.Shelf Go.Sort
theorem cmpor_any (v : Value) (l : List Int) (w : World) (hv : Ints w v l) : Calls Try.prog 58 #[v] w fun e w' => e = .returned (.int .i64 (orL l)) ∧ w = w' := by
  have hll := hv.run_len (P := Try.prog) slInts
  have hlb := hv.len
  have HV := Lib.hid hv
  clear hv
  go_enter Try.func58, Try.ntmps58
  go_wp2_with fail
  go_loopw [8] (fun x8 wr => ∃ i : Nat, i ≤ l.length ∧ x8 = .int .i64 i ∧ Hid (orL l = orL (l.drop i)) ∧ w = wr) (fun x8 _ => l.length - (intOf x8).toNat)
  case atStart => exact ⟨0, Nat.zero_le _, rfl, Lib.hid rfl, rfl⟩
  case round =>
    obtain ⟨i, hi, rfl, H, rfl⟩ := hrel
    by_cases hil : i < l.length
    · have hix := HV.out.run_index (P := Try.prog) slInts i hil
      have hc := HV.out.cell i hil
      have HD := Lib.hid (orL_drop hil)
      by_cases hz : nth l i = 0
      · have hb : (nth l i != 0) = false := by rw [bne_eq_false_iff_eq]; exact hz
        have HZ := Lib.hid (show orL l = orL (l.drop (i + 1)) by rw [H.out, HD.out, if_neg (by simpa using hz)])
        clear hz
        go_wp2_with fail
        go_roundw
        case rel => exact ⟨i + 1, by omega, by go_num, HZ, trivial⟩
        case measure => simp [intOf]; omega
      · have hb : (nth l i != 0) = true := by rw [bne_iff_ne]; exact hz
        have HZ := Lib.hid (show nth l i = orL l by rw [H.out, HD.out, if_pos hz])
        clear hz
        go_wp2_with fail
        go_ret
        exact ⟨ret_int HZ.out, rfl⟩
    · obtain rfl : i = l.length := by omega
      have HZ := Lib.hid (show (0 : Int) = orL l by rw [H.out, List.drop_length]; rfl)
      go_wp2_with fail
      go_ret
      exact ⟨ret_int HZ.out, rfl⟩
set_option maxRecDepth 100000 in
set_option maxHeartbeats 2000000 in
theorem compare_any (x y : Int × Int) (W : World) : Calls Try.prog 40 #[.agg #[.int .i64 x.1, .int .i64 x.2], .agg #[.int .i64 y.1, .int .i64 y.2]] W fun e w' => e = .returned (.int .i64 (cmpP x y)) ∧ ∃ q os', w' = grow (W.drewN q) os' := by
  obtain ⟨x1, x2⟩ := x
  obtain ⟨y1, y2⟩ := y
  have HO := Lib.hid (orL_two (x1, x2) (y1, y2))
  go_enter Try.func40, Try.ntmps40
  go_wp2_with fail
  refine wp_region_quiet_tail 10 (by kernel_rfl) (by kernel_rfl) ?_
  simp only [List.take_succ_cons, List.take_zero, List.drop_succ_cons, List.drop_zero]
  repeat (go_big_quiet_step ((go_at_call 19; exact (cmpc_any _ _ _).mono fun _ _ h => ⟨h.1, _, h.2.symm⟩)))
  refine wpQuiet_nil ?_
  rintro _ ⟨nq, rfl⟩
  have HW := Lib.hid (fun c => two_new W (Obj.cells #[.int .i64 x1, .int .i64 x2] 85) (Obj.cells #[.int .i64 y1, .int .i64 y2] 85) c nq)
  generalize ((W.alloc (Obj.cells #[.int .i64 x1, .int .i64 x2] 85)).alloc (Obj.cells #[.int .i64 y1, .int .i64 y2] 85)).drewN nq = Wn at *
  have HOR := cmpor_any _ _ _ (two_ints Wn (cmpI x1 y1) (cmpI x2 y2) 3)
  rw [HO.out] at HOR
  obtain ⟨r, hr⟩ : ∃ r, cmpP (x1, x2) (y1, y2) = r := ⟨_, rfl⟩
  rw [hr] at HOR
  have HR := Lib.hid hr
  clear hr HO
  generalize cmpI x1 y1 = c1 at *
  generalize cmpI x2 y2 = c2 at *
  go_wp2_with (go_at_call 58; refine HOR.mono ?_; rintro e w' ⟨rfl, rfl⟩)
  go_ret
  exact ⟨ret_int HR.out.symm, nq, _, HW.out _⟩
def Try.sortPair_ren : Go.Shelf.Ren := ⟨fun | 6 => 39 | 15 => 34 | 14 => 57 | 28 => 54 | 29 => 55 | 20 => 69 | 21 => 70 | 22 => 71 | 23 => 72 | 24 => 73 | 25 => 74 | 26 => 75 | 27 => 76 | 46 => 79 | 47 => 65 | 48 => 66 | 49 => 80 | 50 => 81 | 57 => 82 | n => n, fun | 22 => 81 | 24 => 85 | 25 => 87 | 3 => 3 | 39 => 79 | 0 => 0 | 53 => 100 | 55 => 102 | 4 => 4 | 46 => 93 | 45 => 92 | 50 => 97 | 5 => 5 | 9 => 9 | 66 => 108 | 70 => 112 | 76 => 119 | 77 => 120 | n => n, fun | n => n⟩
theorem Try.sortPair : Go.Proofs.SlLaysF0.n6 Try.prog Try.sortPair_ren := {
  mixed := by kernel_rfl,
  f6 := ⟨Try.f39.name, by decide, Try.func39.trans (congrArg some (by kernel_rfl))⟩,
  f14 := ⟨Try.f57.name, by decide, Try.func57.trans (congrArg some (by kernel_rfl))⟩,
  f15 := Try.func34.trans (congrArg some (by kernel_rfl)),
  f20 := ⟨Try.f69.name, by decide, Try.func69.trans (congrArg some (by kernel_rfl))⟩,
  f21 := ⟨Try.f70.name, by decide, Try.func70.trans (congrArg some (by kernel_rfl))⟩,
  f22 := ⟨Try.f71.name, by decide, Try.func71.trans (congrArg some (by kernel_rfl))⟩,
  f23 := ⟨Try.f72.name, by decide, Try.func72.trans (congrArg some (by kernel_rfl))⟩,
  f24 := ⟨Try.f73.name, by decide, Try.func73.trans (congrArg some (by kernel_rfl))⟩,
  f25 := ⟨Try.f74.name, by decide, Try.func74.trans (congrArg some (by kernel_rfl))⟩,
  f26 := ⟨Try.f75.name, by decide, Try.func75.trans (congrArg some (by kernel_rfl))⟩,
  f27 := ⟨Try.f76.name, by decide, Try.func76.trans (congrArg some (by kernel_rfl))⟩,
  f28 := Try.func54.trans (congrArg some (by kernel_rfl)),
  f29 := Try.func55.trans (congrArg some (by kernel_rfl)),
  f46 := ⟨Try.f79.name, by decide, Try.func79.trans (congrArg some (by kernel_rfl))⟩,
  f47 := Try.func65.trans (congrArg some (by kernel_rfl)),
  f48 := Try.func66.trans (congrArg some (by kernel_rfl)),
  f49 := ⟨Try.f80.name, by decide, Try.func80.trans (congrArg some (by kernel_rfl))⟩,
  f50 := ⟨Try.f81.name, by decide, Try.func81.trans (congrArg some (by kernel_rfl))⟩,
  f57 := ⟨Try.f82.name, by decide, Try.func82.trans (congrArg some (by kernel_rfl))⟩,
  t0 := Try.underlying0,
  a0 := Try.isAgg0,
  z0 := Try.sizeOf0,
  v0 := Try.zeroValue0,
  t3 := Try.underlying3,
  a3 := Try.isAgg3,
  z3 := Try.sizeOf3,
  v3 := Try.zeroValue3,
  t4 := Try.underlying4,
  a4 := Try.isAgg4,
  z4 := Try.sizeOf4,
  v4 := Try.zeroValue4,
  t5 := Try.underlying5,
  a5 := Try.isAgg5,
  z5 := Try.sizeOf5,
  v5 := Try.zeroValue5,
  t9 := Try.underlying9,
  a9 := Try.isAgg9,
  z9 := Try.sizeOf9,
  v9 := Try.zeroValue9,
  t22 := Try.underlying81,
  a22 := Try.isAgg81,
  z22 := Try.sizeOf81,
  v22 := Try.zeroValue81,
  t25 := Try.underlying87,
  a25 := Try.isAgg87,
  z25 := Try.sizeOf87,
  v25 := Try.zeroValue87,
  t39 := Try.underlying79,
  a39 := Try.isAgg79,
  z39 := Try.sizeOf79,
  v39 := Try.zeroValue79,
  t45 := Try.underlying92,
  a45 := Try.isAgg92,
  z45 := Try.sizeOf92,
  v45 := Try.zeroValue92,
  t46 := Try.underlying93,
  a46 := Try.isAgg93,
  z46 := Try.sizeOf93,
  v46 := Try.zeroValue93,
  t50 := Try.underlying97,
  a50 := Try.isAgg97,
  z50 := Try.sizeOf97,
  v50 := Try.zeroValue97,
  t53 := Try.underlying100,
  a53 := Try.isAgg100,
  z53 := Try.sizeOf100,
  v53 := Try.zeroValue100,
  t55 := Try.underlying102,
  a55 := Try.isAgg102,
  z55 := Try.sizeOf102,
  v55 := Try.zeroValue102,
  t66 := Try.underlying108,
  a66 := Try.isAgg108,
  z66 := Try.sizeOf108,
  v66 := Try.zeroValue108,
  t70 := Try.underlying112,
  a70 := Try.isAgg112,
  z70 := Try.sizeOf112,
  v70 := Try.zeroValue112,
  t76 := Try.underlying119,
  a76 := Try.isAgg119,
  z76 := Try.sizeOf119,
  v76 := Try.zeroValue119,
  t77 := Try.underlying120,
  a77 := Try.isAgg120,
  z77 := Try.sizeOf120,
  v77 := Try.zeroValue120 }
theorem cmpLaysP (blk off size : Nat) (w : World) : CmpLays Try.prog 40 #[] encP 2 cmpP blk off size w :=
  fun _ _ _ _ x y => compare_any x y _
theorem Try.isAggPair (w : World) : (isAgg 85).run Try.prog w = .ok true w := by kernel_rfl
theorem Try.sizeOfPair (w : World) : (sizeOf 85).run Try.prog w = .ok 2 w := by kernel_rfl
set_option maxHeartbeats 1000000 in
/-- A slice of pairs of the call's own is sorted. -/
theorem sortPair_any {w : World} {B e n : Nat} {v : Value} {l : List (Int × Int)} (h : w.ownsRow B e 2 v n (flatP l)) (hs : l.length ≤ 4611686018427387903) :
    Calls Try.prog 39 #[v, .func (.func 40) #[] #[]] w fun e w' => e = .returned (.tuple #[]) ∧ w.grownBy w' v.ownBlock ∧ Prs w' v (sortP l) := by
  have hn : n = l.length := by have := h.1; rw [flatP_length] at this; omega
  subst hn
  have hp := Prs.of_own h
  by_cases h0 : l.length = 0
  · have hl : l = [] := List.eq_nil_of_length_eq_zero h0
    subst hl
    obtain ⟨ao, cap, rfl, -⟩ := hp
    refine (AnyF.slices_SortFunc_none { Try.sortPair with } ao cap _ w).mono ?_
    rintro e w' ⟨rfl, rfl⟩
    refine ⟨rfl, World.grownBy.refl _ _, ?_⟩
    rw [show sortP [] = [] by simp [sortP]]
    exact Prs.of_own h
  · have hh := h
    obtain ⟨h1, h2⟩ := h
    rcases h2 with ⟨rfl, h2⟩ | ⟨g, cap, cur, rfl, hb, hg, hnc, hcm, hr⟩
    · exact absurd h2 h0
    · have hH := holds_own hh
      have eg : ∀ args w, (callFunc 40 args).run Try.prog w = .ok (.enter 40 args) w := enters_of Try.func40 (by kernel_rfl) rfl
      have hlt : g < w.heap.size := (Array.getElem?_eq_some_iff.1 hg).1
      have hcon := AnyQ.slices_SortFunc_total Try.sortPair 2 Try.isAggPair Try.sizeOfPair encP (fun _ => rfl) (fun x v hv => by simp [encP] at hv; rcases hv with rfl | rfl <;> rfl) cmpP swoP 40 #[] g 0 cap l.toArray w eg (cmpLaysP g 0 _ w) hH hlt (by simp; omega) (fun x y h1 h2 => by
        unfold ltOf at h1 h2
        rw [cmpP_lt, decide_eq_false_iff_not] at h1 h2
        exact ltP_antisymm h2 h1)
      refine hcon.mono ?_
      rintro e w' ⟨rfl, m, os, rfl⟩
      refine ⟨rfl, sortWorld_grown _ _ _ _ _ _, ?_⟩
      have hlen : (sortP l).length = l.length := (sortP_perm l).length_eq
      have := prs_of_holds (g := g) (cap := cap) (l := sortP l) (w := sortWorldK encP 2 w g 0 m (sortP l).toArray os) (by rw [hlen]; exact hnc) hcm
        (holdsK_sortWorldK_c encP 2 w g 0 l.toArray (sortP l).toArray m os hH hlt (by simp [hlen]))
      rw [hlen] at this
      exact this
end Go.Proofs.Ytaodmkngakikjaa
