/- Pairs are compared, and sorted by the library's sort: contracts. -/
import Derived.Test.YtainhfnanamobaaGreatDoorGa
import Derived.Test.YtainhfnanamobaaGreatDoorSp
import Derived.Shelf.SlSortCmp.NoneTotal
import Derived.Test.YtainhfnanamobaaGreatDoorQt
import Derived.BigQuiet
namespace Go.Att
open Go.RowKit Go.Sort
def cmpP (a b : Int × Int) : Int := if cmpI a.1 b.1 ≠ 0 then cmpI a.1 b.1 else cmpI a.2 b.2
theorem cmpP_lt (a b : Int × Int) : decide (cmpP a b < 0) = decide (ltP a b) := by
  rw [decide_eq_decide]
  unfold cmpP cmpI ltP
  by_cases h1 : a.1 < b.1
  · simp [h1]
  · by_cases h2 : b.1 < a.1
    · simp [h1, h2]; omega
    · by_cases h3 : a.2 < b.2
      · simp [h1, h2, h3]; omega
      · by_cases h4 : b.2 < a.2
        · simp [h1, h2, h3, h4]
        · simp [h1, h2, h3, h4]
/-- The first number that is not 0. -/
def orL : List Int → Int
  | [] => 0
  | x :: t => if x ≠ 0 then x else orL t
theorem orL_drop {l : List Int} {i : Nat} (h : i < l.length) : orL (l.drop i) = if nth l i ≠ 0 then nth l i else orL (l.drop (i + 1)) := by
  rw [List.drop_eq_getElem_cons h, ← nth_eq h, orL]
theorem orL_two (a b : Int × Int) : orL [cmpI a.1 b.1, cmpI a.2 b.2] = cmpP a b := by
  unfold cmpP orL orL orL
  by_cases h1 : cmpI a.1 b.1 = 0 <;> by_cases h2 : cmpI a.2 b.2 = 0 <;> simp [h1, h2]
theorem swoP : SWO (Go.Proofs.ltOf cmpP) where
  irrefl x := by unfold Go.Proofs.ltOf; rw [cmpP_lt]; simp [ltP]
  trans x y z h1 h2 := by
    unfold Go.Proofs.ltOf at *
    rw [cmpP_lt] at *
    simp only [decide_eq_true_eq] at *
    unfold ltP at *; omega
  ntrans x y z h1 h2 := by
    unfold Go.Proofs.ltOf at *
    rw [cmpP_lt] at *
    simp only [decide_eq_false_iff_not] at *
    unfold ltP at *; omega
/-- The pairs in order. -/
def sortP (l : List (Int × Int)) : List (Int × Int) := l.mergeSort fun x y => !Go.Proofs.ltOf cmpP y x
theorem sortP_perm (l : List (Int × Int)) : (sortP l).Perm l := List.mergeSort_perm _ _
theorem sortP_ord (l : List (Int × Int)) : Ord (sortP l) (sortP l).length := by
  have h := List.pairwise_mergeSort (le := fun x y : Int × Int => !Go.Proofs.ltOf cmpP y x) (fun a b c h1 h2 => by
    simp only [Bool.not_eq_true'] at *
    exact swoP.ntrans _ _ _ h2 h1) (fun a b => by
    simp only [Bool.or_eq_true, Bool.not_eq_true']
    unfold Go.Proofs.ltOf
    rw [cmpP_lt, cmpP_lt]
    simp only [decide_eq_false_iff_not]
    unfold ltP; omega) l
  intro a b hab hb
  have h2 := List.pairwise_iff_getElem.1 h a b (by unfold sortP at hb; omega) (by unfold sortP at hb; omega) hab
  simp only [Bool.not_eq_true'] at h2
  unfold Go.Proofs.ltOf at h2
  rw [cmpP_lt, decide_eq_false_iff_not] at h2
  rw [nthP_eq (show b < (sortP l).length by omega), nthP_eq (show a < (sortP l).length by omega)]
  exact h2
theorem sortP_eq (a b : List (Int × Int)) : sortP a = sortP b ↔ a.Perm b :=
  ⟨fun h => (sortP_perm a).symm.trans (h ▸ sortP_perm b), fun h => ord_perm_eq ((sortP_perm a).trans (h.trans (sortP_perm b).symm)) (sortP_ord a) (sortP_ord b)⟩
theorem two_new (W : World) (a b c : Obj) (n : Nat) : (((W.alloc a).alloc b).drewN n).alloc c = grow (W.drewN n) #[a, b, c] := by
  rw [alloc_eq_grow, alloc_eq_grow, alloc_eq_grow]
  show grow (grow (grow (W.drewN n) #[a]) #[b]) #[c] = _
  rw [grow_grow, grow_grow]; rfl
theorem two_ints (w : World) (a b : Int) (t : TypeId) : Ints (w.alloc (Obj.cells #[.int .i64 a, .int .i64 b] t)) (.slice (some ⟨w.heap.size, 0, none⟩) 2 2) [a, b] := by
  refine ⟨_, _, rfl, rfl, Nat.le_refl _, by unfold maxLen; decide, fun i hi => ⟨_, _, rfl, ?_⟩⟩
  have h0 : i = 0 ∨ i = 1 := by simp at hi; omega
  rcases h0 with rfl | rfl
  · exact cell_new w #[.int .i64 a, .int .i64 b] t 0
  · exact cell_new w #[.int .i64 a, .int .i64 b] t 1
end Go.Att
namespace Go.Proofs.YtainhfnanamobaaGreatDoor
open Go.RowKit Go.Att Go.Shelf Go.Sort
theorem cmpor_any (v : Value) (l : List Int) (w : World) (hv : Ints w v l) : Calls Tryz.prog 96 #[v] w fun e w' => e = .returned (.int .i64 (orL l)) ∧ w = w' := by
  have hll := hv.run_len (P := Tryz.prog) slInts
  have hlb := hv.len
  have HV := Lib.hid hv
  clear hv
  go_enter Tryz.func96, Tryz.ntmps96
  go_wp2_with fail
  go_loopw [8] (fun x8 wr => ∃ i : Nat, i ≤ l.length ∧ x8 = .int .i64 i ∧ Hid (orL l = orL (l.drop i)) ∧ w = wr) (fun x8 _ => l.length - (intOf x8).toNat)
  case atStart => exact ⟨0, Nat.zero_le _, rfl, Lib.hid rfl, rfl⟩
  case round =>
    obtain ⟨i, hi, rfl, H, rfl⟩ := hrel
    by_cases hil : i < l.length
    · have hix := HV.out.run_index (P := Tryz.prog) slInts i hil
      have hc := HV.out.cell i hil
      have HD := Lib.hid (orL_drop hil)
      by_cases hz : nth l i = 0
      · have hb : (nth l i != 0) = false := by rw [bne_eq_false_iff_eq]; exact hz
        have HZ := Lib.hid (show orL l = orL (l.drop (i + 1)) by rw [H.out, HD.out, if_neg (by simpa using hz)])
        clear hz
        go_wp2_with fail
        go_roundw
        case rel => exact ⟨i + 1, by omega, by go_num, HZ, trivial⟩
        case measure => simp [intOf]; omega
      · have hb : (nth l i != 0) = true := by rw [bne_iff_ne]; exact hz
        have HZ := Lib.hid (show nth l i = orL l by rw [H.out, HD.out, if_pos hz])
        clear hz
        go_wp2_with fail
        go_ret
        exact ⟨ret_int HZ.out, rfl⟩
    · obtain rfl : i = l.length := by omega
      have HZ := Lib.hid (show (0 : Int) = orL l by rw [H.out, List.drop_length]; rfl)
      go_wp2_with fail
      go_ret
      exact ⟨ret_int HZ.out, rfl⟩
set_option maxRecDepth 100000 in
set_option maxHeartbeats 2000000 in
theorem compare_any (x y : Int × Int) (W : World) : Calls Tryz.prog 48 #[.agg #[.int .i64 x.1, .int .i64 x.2], .agg #[.int .i64 y.1, .int .i64 y.2]] W fun e w' => e = .returned (.int .i64 (cmpP x y)) ∧ ∃ q os', w' = grow (W.drewN q) os' := by
  obtain ⟨x1, x2⟩ := x
  obtain ⟨y1, y2⟩ := y
  have HO := Lib.hid (orL_two (x1, x2) (y1, y2))
  go_enter Tryz.func48, Tryz.ntmps48
  go_wp2_with fail
  refine wp_region_quiet_tail 10 (by kernel_rfl) (by kernel_rfl) ?_
  simp only [List.take_succ_cons, List.take_zero, List.drop_succ_cons, List.drop_zero]
  repeat (go_big_quiet_step ((go_at_call 64; exact (cmpc_any _ _ _).mono fun _ _ h => ⟨h.1, _, h.2.symm⟩)))
  refine wpQuiet_nil ?_
  rintro _ ⟨nq, rfl⟩
  have HW := Lib.hid (fun c => two_new W (Obj.cells #[.int .i64 x1, .int .i64 x2] 99) (Obj.cells #[.int .i64 y1, .int .i64 y2] 99) c nq)
  generalize ((W.alloc (Obj.cells #[.int .i64 x1, .int .i64 x2] 99)).alloc (Obj.cells #[.int .i64 y1, .int .i64 y2] 99)).drewN nq = Wn at *
  have HOR := cmpor_any _ _ _ (two_ints Wn (cmpI x1 y1) (cmpI x2 y2) 3)
  rw [HO.out] at HOR
  obtain ⟨r, hr⟩ : ∃ r, cmpP (x1, x2) (y1, y2) = r := ⟨_, rfl⟩
  rw [hr] at HOR
  have HR := Lib.hid hr
  clear hr HO
  generalize cmpI x1 y1 = c1 at *
  generalize cmpI x2 y2 = c2 at *
  go_wp2_with (go_at_call 96; refine HOR.mono ?_; rintro e w' ⟨rfl, rfl⟩)
  go_ret
  exact ⟨ret_int HR.out.symm, nq, _, HW.out _⟩
def Tryz.sortPair_ren : Go.Shelf.Ren := ⟨fun | 6 => 47 | 15 => 95 | 14 => 94 | 28 => 152 | 29 => 153 | 20 => 144 | 21 => 145 | 22 => 146 | 23 => 147 | 24 => 148 | 25 => 149 | 26 => 150 | 27 => 151 | 46 => 178 | 47 => 179 | 48 => 180 | 49 => 181 | 50 => 182 | 57 => 198 | n => n, fun | 22 => 91 | 24 => 99 | 25 => 101 | 3 => 3 | 39 => 152 | 0 => 0 | 53 => 199 | 55 => 201 | 4 => 4 | 46 => 192 | 45 => 191 | 50 => 196 | 5 => 5 | 9 => 9 | 66 => 225 | 70 => 229 | 76 => 236 | 77 => 170 | n => n, fun | n => n⟩
theorem Tryz.sortPair : Go.Proofs.SlLaysF0.n6 Tryz.prog Tryz.sortPair_ren := {
  mixed := by kernel_rfl,
  f6 := ⟨Tryz.f47.name, by decide, Tryz.func47.trans (congrArg some (by kernel_rfl))⟩,
  f14 := ⟨Tryz.f94.name, by decide, Tryz.func94.trans (congrArg some (by kernel_rfl))⟩,
  f15 := Tryz.func95.trans (congrArg some (by kernel_rfl)),
  f20 := ⟨Tryz.f144.name, by decide, Tryz.func144.trans (congrArg some (by kernel_rfl))⟩,
  f21 := ⟨Tryz.f145.name, by decide, Tryz.func145.trans (congrArg some (by kernel_rfl))⟩,
  f22 := ⟨Tryz.f146.name, by decide, Tryz.func146.trans (congrArg some (by kernel_rfl))⟩,
  f23 := ⟨Tryz.f147.name, by decide, Tryz.func147.trans (congrArg some (by kernel_rfl))⟩,
  f24 := ⟨Tryz.f148.name, by decide, Tryz.func148.trans (congrArg some (by kernel_rfl))⟩,
  f25 := ⟨Tryz.f149.name, by decide, Tryz.func149.trans (congrArg some (by kernel_rfl))⟩,
  f26 := ⟨Tryz.f150.name, by decide, Tryz.func150.trans (congrArg some (by kernel_rfl))⟩,
  f27 := ⟨Tryz.f151.name, by decide, Tryz.func151.trans (congrArg some (by kernel_rfl))⟩,
  f28 := Tryz.func152.trans (congrArg some (by kernel_rfl)),
  f29 := Tryz.func153.trans (congrArg some (by kernel_rfl)),
  f46 := ⟨Tryz.f178.name, by decide, Tryz.func178.trans (congrArg some (by kernel_rfl))⟩,
  f47 := Tryz.func179.trans (congrArg some (by kernel_rfl)),
  f48 := Tryz.func180.trans (congrArg some (by kernel_rfl)),
  f49 := ⟨Tryz.f181.name, by decide, Tryz.func181.trans (congrArg some (by kernel_rfl))⟩,
  f50 := ⟨Tryz.f182.name, by decide, Tryz.func182.trans (congrArg some (by kernel_rfl))⟩,
  f57 := ⟨Tryz.f198.name, by decide, Tryz.func198.trans (congrArg some (by kernel_rfl))⟩,
  t0 := Tryz.underlying0,
  a0 := Tryz.isAgg0,
  z0 := Tryz.sizeOf0,
  v0 := Tryz.zeroValue0,
  t3 := Tryz.underlying3,
  a3 := Tryz.isAgg3,
  z3 := Tryz.sizeOf3,
  v3 := Tryz.zeroValue3,
  t4 := Tryz.underlying4,
  a4 := Tryz.isAgg4,
  z4 := Tryz.sizeOf4,
  v4 := Tryz.zeroValue4,
  t5 := Tryz.underlying5,
  a5 := Tryz.isAgg5,
  z5 := Tryz.sizeOf5,
  v5 := Tryz.zeroValue5,
  t9 := Tryz.underlying9,
  a9 := Tryz.isAgg9,
  z9 := Tryz.sizeOf9,
  v9 := Tryz.zeroValue9,
  t22 := Tryz.underlying91,
  a22 := Tryz.isAgg91,
  z22 := Tryz.sizeOf91,
  v22 := Tryz.zeroValue91,
  t25 := Tryz.underlying101,
  a25 := Tryz.isAgg101,
  z25 := Tryz.sizeOf101,
  v25 := Tryz.zeroValue101,
  t39 := Tryz.underlying152,
  a39 := Tryz.isAgg152,
  z39 := Tryz.sizeOf152,
  v39 := Tryz.zeroValue152,
  t45 := Tryz.underlying191,
  a45 := Tryz.isAgg191,
  z45 := Tryz.sizeOf191,
  v45 := Tryz.zeroValue191,
  t46 := Tryz.underlying192,
  a46 := Tryz.isAgg192,
  z46 := Tryz.sizeOf192,
  v46 := Tryz.zeroValue192,
  t50 := Tryz.underlying196,
  a50 := Tryz.isAgg196,
  z50 := Tryz.sizeOf196,
  v50 := Tryz.zeroValue196,
  t53 := Tryz.underlying199,
  a53 := Tryz.isAgg199,
  z53 := Tryz.sizeOf199,
  v53 := Tryz.zeroValue199,
  t55 := Tryz.underlying201,
  a55 := Tryz.isAgg201,
  z55 := Tryz.sizeOf201,
  v55 := Tryz.zeroValue201,
  t66 := Tryz.underlying225,
  a66 := Tryz.isAgg225,
  z66 := Tryz.sizeOf225,
  v66 := Tryz.zeroValue225,
  t70 := Tryz.underlying229,
  a70 := Tryz.isAgg229,
  z70 := Tryz.sizeOf229,
  v70 := Tryz.zeroValue229,
  t76 := Tryz.underlying236,
  a76 := Tryz.isAgg236,
  z76 := Tryz.sizeOf236,
  v76 := Tryz.zeroValue236,
  t77 := Tryz.underlying170,
  a77 := Tryz.isAgg170,
  z77 := Tryz.sizeOf170,
  v77 := Tryz.zeroValue170 }
theorem cmpLaysP (blk off size : Nat) (w : World) : CmpLays Tryz.prog 48 #[] encP 2 cmpP blk off size w :=
  fun _ _ _ _ x y => compare_any x y _
theorem Tryz.isAggPair (w : World) : (isAgg 99).run Tryz.prog w = .ok true w := by kernel_rfl
theorem Tryz.sizeOfPair (w : World) : (sizeOf 99).run Tryz.prog w = .ok 2 w := by kernel_rfl
set_option maxHeartbeats 1000000 in
/-- A slice of pairs of the call's own is sorted. -/
theorem sortPair_any {w : World} {B e n : Nat} {v : Value} {l : List (Int × Int)} (h : w.ownsRow B e 2 v n (flatP l)) (hs : l.length ≤ 4611686018427387903) :
    Calls Tryz.prog 47 #[v, .func (.func 48) #[] #[]] w fun e w' => e = .returned (.tuple #[]) ∧ w.grownBy w' v.ownBlock ∧ Prs w' v (sortP l) := by
  have hn : n = l.length := by have := h.1; rw [flatP_length] at this; omega
  subst hn
  have hp := Prs.of_own h
  by_cases h0 : l.length = 0
  · have hl : l = [] := List.eq_nil_of_length_eq_zero h0
    subst hl
    obtain ⟨ao, cap, rfl, -⟩ := hp
    refine (AnyF.slices_SortFunc_none { Tryz.sortPair with } ao cap _ w).mono ?_
    rintro e w' ⟨rfl, rfl⟩
    refine ⟨rfl, World.grownBy.refl _ _, ?_⟩
    rw [show sortP [] = [] by simp [sortP]]
    exact Prs.of_own h
  · have hh := h
    obtain ⟨h1, h2⟩ := h
    rcases h2 with ⟨rfl, h2⟩ | ⟨g, cap, cur, rfl, hb, hg, hnc, hcm, hr⟩
    · exact absurd h2 h0
    · have hH := holds_own hh
      have eg : ∀ args w, (callFunc 48 args).run Tryz.prog w = .ok (.enter 48 args) w := enters_of Tryz.func48 (by kernel_rfl) rfl
      have hlt : g < w.heap.size := (Array.getElem?_eq_some_iff.1 hg).1
      have hcon := AnyQ.slices_SortFunc_total Tryz.sortPair 2 Tryz.isAggPair Tryz.sizeOfPair encP (fun _ => rfl) (fun x v hv => by simp [encP] at hv; rcases hv with rfl | rfl <;> rfl) cmpP swoP 48 #[] g 0 cap l.toArray w eg (cmpLaysP g 0 _ w) hH hlt (by simp; omega) (fun x y h1 h2 => by
        unfold ltOf at h1 h2
        rw [cmpP_lt, decide_eq_false_iff_not] at h1 h2
        exact ltP_antisymm h2 h1)
      refine hcon.mono ?_
      rintro e w' ⟨rfl, m, os, rfl⟩
      refine ⟨rfl, sortWorld_grown _ _ _ _ _ _, ?_⟩
      have hlen : (sortP l).length = l.length := (sortP_perm l).length_eq
      have := prs_of_holds (g := g) (cap := cap) (l := sortP l) (w := sortWorldK encP 2 w g 0 m (sortP l).toArray os) (by rw [hlen]; exact hnc) hcm
        (holdsK_sortWorldK_c encP 2 w g 0 l.toArray (sortP l).toArray m os hH hlt (by simp [hlen]))
      rw [hlen] at this
      exact this
end Go.Proofs.YtainhfnanamobaaGreatDoor
