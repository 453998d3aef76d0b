/- Pairs are compared, and sorted by the library's sort: contracts. Pairs of rows in both orders; their products: the program's side: contracts. The last column: the program's side: contracts. -/
import Derived.Test.YtnmjaddhbecopaaGreatDoorGa
import Derived.Test.YtnmjaddhbecopaaGreatDoorZx10
import Derived.Shelf.SlSortCmp.NoneTotal
import Derived.Test.YtnmjaddhbecopaaGreatDoorQt
import Derived.BigQuiet
import Derived.Test.YtnmjaddhbecopaaGreatDoorZx11
section
namespace Go.Att
open Go.RowKit Go.Sort
def cmpP (a b : Int × Int) : Int := if cmpI a.1 b.1 ≠ 0 then cmpI a.1 b.1 else cmpI a.2 b.2
theorem cmpP_lt (a b : Int × Int) : decide (cmpP a b < 0) = decide (ltP a b) := by
  rw [decide_eq_decide]
  unfold cmpP cmpI ltP
  by_cases h1 : a.1 < b.1
  · simp [h1]
  · by_cases h2 : b.1 < a.1
    · simp [h1, h2]; omega
    · by_cases h3 : a.2 < b.2
      · simp [h1, h2, h3]; omega
      · by_cases h4 : b.2 < a.2
        · simp [h1, h2, h3, h4]
        · simp [h1, h2, h3, h4]
/-- The first number that is not 0. -/
def orL : List Int → Int
  | [] => 0
  | x :: t => if x ≠ 0 then x else orL t
theorem orL_drop {l : List Int} {i : Nat} (h : i < l.length) : orL (l.drop i) = if nth l i ≠ 0 then nth l i else orL (l.drop (i + 1)) := by
  rw [List.drop_eq_getElem_cons h, ← nth_eq h, orL]
theorem orL_two (a b : Int × Int) : orL [cmpI a.1 b.1, cmpI a.2 b.2] = cmpP a b := by
  unfold cmpP orL orL orL
  by_cases h1 : cmpI a.1 b.1 = 0 <;> by_cases h2 : cmpI a.2 b.2 = 0 <;> simp [h1, h2]
theorem swoP : SWO (Go.Proofs.ltOf cmpP) where
  irrefl x := by unfold Go.Proofs.ltOf; rw [cmpP_lt]; simp [ltP]
  trans x y z h1 h2 := by
    unfold Go.Proofs.ltOf at *
    rw [cmpP_lt] at *
    simp only [decide_eq_true_eq] at *
    unfold ltP at *; omega
  ntrans x y z h1 h2 := by
    unfold Go.Proofs.ltOf at *
    rw [cmpP_lt] at *
    simp only [decide_eq_false_iff_not] at *
    unfold ltP at *; omega
/-- The pairs in order. -/
def sortP (l : List (Int × Int)) : List (Int × Int) := l.mergeSort fun x y => !Go.Proofs.ltOf cmpP y x
theorem sortP_perm (l : List (Int × Int)) : (sortP l).Perm l := List.mergeSort_perm _ _
theorem sortP_ord (l : List (Int × Int)) : Ord (sortP l) (sortP l).length := by
  have h := List.pairwise_mergeSort (le := fun x y : Int × Int => !Go.Proofs.ltOf cmpP y x) (fun a b c h1 h2 => by
    simp only [Bool.not_eq_true'] at *
    exact swoP.ntrans _ _ _ h2 h1) (fun a b => by
    simp only [Bool.or_eq_true, Bool.not_eq_true']
    unfold Go.Proofs.ltOf
    rw [cmpP_lt, cmpP_lt]
    simp only [decide_eq_false_iff_not]
    unfold ltP; omega) l
  intro a b hab hb
  have h2 := List.pairwise_iff_getElem.1 h a b (by unfold sortP at hb; omega) (by unfold sortP at hb; omega) hab
  simp only [Bool.not_eq_true'] at h2
  unfold Go.Proofs.ltOf at h2
  rw [cmpP_lt, decide_eq_false_iff_not] at h2
  rw [nthP_eq (show b < (sortP l).length by omega), nthP_eq (show a < (sortP l).length by omega)]
  exact h2
theorem sortP_eq (a b : List (Int × Int)) : sortP a = sortP b ↔ a.Perm b :=
  ⟨fun h => (sortP_perm a).symm.trans (h ▸ sortP_perm b), fun h => ord_perm_eq ((sortP_perm a).trans (h.trans (sortP_perm b).symm)) (sortP_ord a) (sortP_ord b)⟩
theorem two_new (W : World) (a b c : Obj) (n : Nat) : (((W.alloc a).alloc b).drewN n).alloc c = grow (W.drewN n) #[a, b, c] := by
  rw [alloc_eq_grow, alloc_eq_grow, alloc_eq_grow]
  show grow (grow (grow (W.drewN n) #[a]) #[b]) #[c] = _
  rw [grow_grow, grow_grow]; rfl
theorem two_ints (w : World) (a b : Int) (t : TypeId) : Ints (w.alloc (Obj.cells #[.int .i64 a, .int .i64 b] t)) (.slice (some ⟨w.heap.size, 0, none⟩) 2 2) [a, b] := by
  refine ⟨_, _, rfl, rfl, Nat.le_refl _, by unfold maxLen; decide, fun i hi => ⟨_, _, rfl, ?_⟩⟩
  have h0 : i = 0 ∨ i = 1 := by simp at hi; omega
  rcases h0 with rfl | rfl
  · exact cell_new w #[.int .i64 a, .int .i64 b] t 0
  · exact cell_new w #[.int .i64 a, .int .i64 b] t 1
end Go.Att
namespace Go.Proofs.YtnmjaddhbecopaaGreatDoor
open Go.RowKit Go.Att Go.Shelf Go.Sort
theorem cmpor_any (v : Value) (l : List Int) (w : World) (hv : Ints w v l) : Calls Tryz.prog 196 #[v] w fun e w' => e = .returned (.int .i64 (orL l)) ∧ w = w' := by
  have hll := hv.run_len (P := Tryz.prog) slInts
  have hlb := hv.len
  have HV := Lib.hid hv
  clear hv
  go_enter Tryz.func196, Tryz.ntmps196
  go_wp2_with fail
  go_loopw [8] (fun x8 wr => ∃ i : Nat, i ≤ l.length ∧ x8 = .int .i64 i ∧ Hid (orL l = orL (l.drop i)) ∧ w = wr) (fun x8 _ => l.length - (intOf x8).toNat)
  case atStart => exact ⟨0, Nat.zero_le _, rfl, Lib.hid rfl, rfl⟩
  case round =>
    obtain ⟨i, hi, rfl, H, rfl⟩ := hrel
    by_cases hil : i < l.length
    · have hix := HV.out.run_index (P := Tryz.prog) slInts i hil
      have hc := HV.out.cell i hil
      have HD := Lib.hid (orL_drop hil)
      by_cases hz : nth l i = 0
      · have hb : (nth l i != 0) = false := by rw [bne_eq_false_iff_eq]; exact hz
        have HZ := Lib.hid (show orL l = orL (l.drop (i + 1)) by rw [H.out, HD.out, if_neg (by simpa using hz)])
        clear hz
        go_wp2_with fail
        go_roundw
        case rel => exact ⟨i + 1, by omega, by go_num, HZ, trivial⟩
        case measure => simp [intOf]; omega
      · have hb : (nth l i != 0) = true := by rw [bne_iff_ne]; exact hz
        have HZ := Lib.hid (show nth l i = orL l by rw [H.out, HD.out, if_pos hz])
        clear hz
        go_wp2_with fail
        go_ret
        exact ⟨ret_int HZ.out, rfl⟩
    · obtain rfl : i = l.length := by omega
      have HZ := Lib.hid (show (0 : Int) = orL l by rw [H.out, List.drop_length]; rfl)
      go_wp2_with fail
      go_ret
      exact ⟨ret_int HZ.out, rfl⟩
set_option maxRecDepth 100000 in
set_option maxHeartbeats 2000000 in
theorem compare_any (x y : Int × Int) (W : World) : Calls Tryz.prog 112 #[.agg #[.int .i64 x.1, .int .i64 x.2], .agg #[.int .i64 y.1, .int .i64 y.2]] W fun e w' => e = .returned (.int .i64 (cmpP x y)) ∧ ∃ q os', w' = grow (W.drewN q) os' := by
  obtain ⟨x1, x2⟩ := x
  obtain ⟨y1, y2⟩ := y
  have HO := Lib.hid (orL_two (x1, x2) (y1, y2))
  go_enter Tryz.func112, Tryz.ntmps112
  go_wp2_with fail
  refine wp_region_quiet_tail 10 (by kernel_rfl) (by kernel_rfl) ?_
  simp only [List.take_succ_cons, List.take_zero, List.drop_succ_cons, List.drop_zero]
  repeat (go_big_quiet_step ((go_at_call 117; exact (cmpc_any _ _ _).mono fun _ _ h => ⟨h.1, _, h.2.symm⟩)))
  refine wpQuiet_nil ?_
  rintro _ ⟨nq, rfl⟩
  have HW := Lib.hid (fun c => two_new W (Obj.cells #[.int .i64 x1, .int .i64 x2] 179) (Obj.cells #[.int .i64 y1, .int .i64 y2] 179) c nq)
  generalize ((W.alloc (Obj.cells #[.int .i64 x1, .int .i64 x2] 179)).alloc (Obj.cells #[.int .i64 y1, .int .i64 y2] 179)).drewN nq = Wn at *
  have HOR := cmpor_any _ _ _ (two_ints Wn (cmpI x1 y1) (cmpI x2 y2) 3)
  rw [HO.out] at HOR
  obtain ⟨r, hr⟩ : ∃ r, cmpP (x1, x2) (y1, y2) = r := ⟨_, rfl⟩
  rw [hr] at HOR
  have HR := Lib.hid hr
  clear hr HO
  generalize cmpI x1 y1 = c1 at *
  generalize cmpI x2 y2 = c2 at *
  go_wp2_with (go_at_call 196; refine HOR.mono ?_; rintro e w' ⟨rfl, rfl⟩)
  go_ret
  exact ⟨ret_int HR.out.symm, nq, _, HW.out _⟩
def Tryz.sortPair_ren : Go.Shelf.Ren := ⟨fun | 6 => 111 | 15 => 129 | 14 => 195 | 28 => 206 | 29 => 207 | 20 => 243 | 21 => 244 | 22 => 245 | 23 => 246 | 24 => 247 | 25 => 248 | 26 => 249 | 27 => 250 | 46 => 280 | 47 => 281 | 48 => 282 | 49 => 283 | 50 => 284 | 57 => 303 | n => n, fun | 22 => 177 | 24 => 179 | 25 => 181 | 3 => 3 | 39 => 205 | 0 => 0 | 53 => 271 | 55 => 273 | 4 => 4 | 46 => 300 | 45 => 299 | 50 => 304 | 5 => 5 | 9 => 9 | 66 => 336 | 70 => 340 | 76 => 350 | 77 => 280 | n => n, fun | n => n⟩
theorem Tryz.sortPair : Go.Proofs.SlLaysF0.n6 Tryz.prog Tryz.sortPair_ren := {
  mixed := by kernel_rfl,
  f6 := ⟨Tryz.f111.name, by decide, Tryz.func111.trans (congrArg some (by kernel_rfl))⟩,
  f14 := ⟨Tryz.f195.name, by decide, Tryz.func195.trans (congrArg some (by kernel_rfl))⟩,
  f15 := Tryz.func129.trans (congrArg some (by kernel_rfl)),
  f20 := ⟨Tryz.f243.name, by decide, Tryz.func243.trans (congrArg some (by kernel_rfl))⟩,
  f21 := ⟨Tryz.f244.name, by decide, Tryz.func244.trans (congrArg some (by kernel_rfl))⟩,
  f22 := ⟨Tryz.f245.name, by decide, Tryz.func245.trans (congrArg some (by kernel_rfl))⟩,
  f23 := ⟨Tryz.f246.name, by decide, Tryz.func246.trans (congrArg some (by kernel_rfl))⟩,
  f24 := ⟨Tryz.f247.name, by decide, Tryz.func247.trans (congrArg some (by kernel_rfl))⟩,
  f25 := ⟨Tryz.f248.name, by decide, Tryz.func248.trans (congrArg some (by kernel_rfl))⟩,
  f26 := ⟨Tryz.f249.name, by decide, Tryz.func249.trans (congrArg some (by kernel_rfl))⟩,
  f27 := ⟨Tryz.f250.name, by decide, Tryz.func250.trans (congrArg some (by kernel_rfl))⟩,
  f28 := Tryz.func206.trans (congrArg some (by kernel_rfl)),
  f29 := Tryz.func207.trans (congrArg some (by kernel_rfl)),
  f46 := ⟨Tryz.f280.name, by decide, Tryz.func280.trans (congrArg some (by kernel_rfl))⟩,
  f47 := Tryz.func281.trans (congrArg some (by kernel_rfl)),
  f48 := Tryz.func282.trans (congrArg some (by kernel_rfl)),
  f49 := ⟨Tryz.f283.name, by decide, Tryz.func283.trans (congrArg some (by kernel_rfl))⟩,
  f50 := ⟨Tryz.f284.name, by decide, Tryz.func284.trans (congrArg some (by kernel_rfl))⟩,
  f57 := ⟨Tryz.f303.name, by decide, Tryz.func303.trans (congrArg some (by kernel_rfl))⟩,
  t0 := Tryz.underlying0,
  a0 := Tryz.isAgg0,
  z0 := Tryz.sizeOf0,
  v0 := Tryz.zeroValue0,
  t3 := Tryz.underlying3,
  a3 := Tryz.isAgg3,
  z3 := Tryz.sizeOf3,
  v3 := Tryz.zeroValue3,
  t4 := Tryz.underlying4,
  a4 := Tryz.isAgg4,
  z4 := Tryz.sizeOf4,
  v4 := Tryz.zeroValue4,
  t5 := Tryz.underlying5,
  a5 := Tryz.isAgg5,
  z5 := Tryz.sizeOf5,
  v5 := Tryz.zeroValue5,
  t9 := Tryz.underlying9,
  a9 := Tryz.isAgg9,
  z9 := Tryz.sizeOf9,
  v9 := Tryz.zeroValue9,
  t22 := Tryz.underlying177,
  a22 := Tryz.isAgg177,
  z22 := Tryz.sizeOf177,
  v22 := Tryz.zeroValue177,
  t25 := Tryz.underlying181,
  a25 := Tryz.isAgg181,
  z25 := Tryz.sizeOf181,
  v25 := Tryz.zeroValue181,
  t39 := Tryz.underlying205,
  a39 := Tryz.isAgg205,
  z39 := Tryz.sizeOf205,
  v39 := Tryz.zeroValue205,
  t45 := Tryz.underlying299,
  a45 := Tryz.isAgg299,
  z45 := Tryz.sizeOf299,
  v45 := Tryz.zeroValue299,
  t46 := Tryz.underlying300,
  a46 := Tryz.isAgg300,
  z46 := Tryz.sizeOf300,
  v46 := Tryz.zeroValue300,
  t50 := Tryz.underlying304,
  a50 := Tryz.isAgg304,
  z50 := Tryz.sizeOf304,
  v50 := Tryz.zeroValue304,
  t53 := Tryz.underlying271,
  a53 := Tryz.isAgg271,
  z53 := Tryz.sizeOf271,
  v53 := Tryz.zeroValue271,
  t55 := Tryz.underlying273,
  a55 := Tryz.isAgg273,
  z55 := Tryz.sizeOf273,
  v55 := Tryz.zeroValue273,
  t66 := Tryz.underlying336,
  a66 := Tryz.isAgg336,
  z66 := Tryz.sizeOf336,
  v66 := Tryz.zeroValue336,
  t70 := Tryz.underlying340,
  a70 := Tryz.isAgg340,
  z70 := Tryz.sizeOf340,
  v70 := Tryz.zeroValue340,
  t76 := Tryz.underlying350,
  a76 := Tryz.isAgg350,
  z76 := Tryz.sizeOf350,
  v76 := Tryz.zeroValue350,
  t77 := Tryz.underlying280,
  a77 := Tryz.isAgg280,
  z77 := Tryz.sizeOf280,
  v77 := Tryz.zeroValue280 }
theorem cmpLaysP (blk off size : Nat) (w : World) : CmpLays Tryz.prog 112 #[] encP 2 cmpP blk off size w :=
  fun _ _ _ _ x y => compare_any x y _
theorem Tryz.isAggPair (w : World) : (isAgg 179).run Tryz.prog w = .ok true w := by kernel_rfl
theorem Tryz.sizeOfPair (w : World) : (sizeOf 179).run Tryz.prog w = .ok 2 w := by kernel_rfl
set_option maxHeartbeats 1000000 in
/-- A slice of pairs of the call's own is sorted. -/
theorem sortPair_any {w : World} {B e n : Nat} {v : Value} {l : List (Int × Int)} (h : w.ownsRow B e 2 v n (flatP l)) (hs : l.length ≤ 4611686018427387903) :
    Calls Tryz.prog 111 #[v, .func (.func 112) #[] #[]] w fun e w' => e = .returned (.tuple #[]) ∧ w.grownBy w' v.ownBlock ∧ Prs w' v (sortP l) := by
  have hn : n = l.length := by have := h.1; rw [flatP_length] at this; omega
  subst hn
  have hp := Prs.of_own h
  by_cases h0 : l.length = 0
  · have hl : l = [] := List.eq_nil_of_length_eq_zero h0
    subst hl
    obtain ⟨ao, cap, rfl, -⟩ := hp
    refine (AnyF.slices_SortFunc_none { Tryz.sortPair with } ao cap _ w).mono ?_
    rintro e w' ⟨rfl, rfl⟩
    refine ⟨rfl, World.grownBy.refl _ _, ?_⟩
    rw [show sortP [] = [] by simp [sortP]]
    exact Prs.of_own h
  · have hh := h
    obtain ⟨h1, h2⟩ := h
    rcases h2 with ⟨rfl, h2⟩ | ⟨g, cap, cur, rfl, hb, hg, hnc, hcm, hr⟩
    · exact absurd h2 h0
    · have hH := holds_own hh
      have eg : ∀ args w, (callFunc 112 args).run Tryz.prog w = .ok (.enter 112 args) w := enters_of Tryz.func112 (by kernel_rfl) rfl
      have hlt : g < w.heap.size := (Array.getElem?_eq_some_iff.1 hg).1
      have hcon := AnyQ.slices_SortFunc_total Tryz.sortPair 2 Tryz.isAggPair Tryz.sizeOfPair encP (fun _ => rfl) (fun x v hv => by simp [encP] at hv; rcases hv with rfl | rfl <;> rfl) cmpP swoP 112 #[] g 0 cap l.toArray w eg (cmpLaysP g 0 _ w) hH hlt (by simp; omega) (fun x y h1 h2 => by
        unfold ltOf at h1 h2
        rw [cmpP_lt, decide_eq_false_iff_not] at h1 h2
        exact ltP_antisymm h2 h1)
      refine hcon.mono ?_
      rintro e w' ⟨rfl, m, os, rfl⟩
      refine ⟨rfl, sortWorld_grown _ _ _ _ _ _, ?_⟩
      have hlen : (sortP l).length = l.length := (sortP_perm l).length_eq
      have := prs_of_holds (g := g) (cap := cap) (l := sortP l) (w := sortWorldK encP 2 w g 0 m (sortP l).toArray os) (by rw [hlen]; exact hnc) hcm
        (holdsK_sortWorldK_c encP 2 w g 0 l.toArray (sortP l).toArray m os hH hlt (by simp [hlen]))
      rw [hlen] at this
      exact this
end Go.Proofs.YtnmjaddhbecopaaGreatDoor
end
section
namespace Go.Att
open Go.RowKit
theorem facA_step {p x y : Int} {r : List Int} {k a v : Nat} (hk : k < 4) : fmul p (fprod p y x ((prsR p r a v).take k)) (fsub p x (fadd p (nth r (a + k)) (fmul p y (nth r (v + k))))) = fprod p y x ((prsR p r a v).take (k + 1)) := by
  rw [← fprod_step' (by rw [prsR_length]; exact hk)]
  have e : nthP (prsR p r a v) k = (fof p (nth r (a + k)), fof p (nth r (v + k))) := by
    rw [nthP_eq (by rw [prsR_length]; exact hk)]
    simp [prsR]
  rw [e]
  have e2 : fadd p (nth r (a + k)) (fmul p y (nth r (v + k))) = fadd p (fof p (nth r (a + k))) (fmul p y (fof p (nth r (v + k)))) := by
    unfold fadd fmul fof
    rw [em_r, Int.emod_add_emod]
  rw [e2]
theorem drew_more {w wr : World} (h : ∃ m, wr = w.drewN m) (n : Nat) : ∃ m, wr.drewN n = w.drewN m := by
  obtain ⟨m, rfl⟩ := h
  exact ⟨m + n, by simp [World.drewN, Nat.add_assoc]⟩
theorem drew_ext {w wr : World} (h : ∃ m, wr = w.drewN m) : Ext w wr := by
  obtain ⟨m, rfl⟩ := h
  exact Ext.drewN _ _
end Go.Att
namespace Go.Proofs.YtnmjaddhbecopaaGreatDoor
open Go.RowKit Go.Att Go.Shelf Go.Sort
theorem slPairs : SlT Tryz.prog 177 179 2 16 (.agg #[.int .i64 0, .int .i64 0]) := SlT.mk' Tryz.underlying177 (by kernel_rfl) (by decide)
theorem short_any (v : Value) (l : List Int) (w : World) (hv : Ints w v l) : Calls Tryz.prog 110 #[v] w fun e w' => e = .returned (.bool (decide (l.length < 20))) ∧ w = w' := by
  have hll := hv.run_len (P := Tryz.prog) slIntY
  have hlb := hv.len
  clear hv
  by_cases h : l.length < 20
  · have h' : (l.length : Int) < 20 := by omega
    go_enter Tryz.func110, Tryz.ntmps110
    go_wp2_with fail
    go_ret
    exact ⟨ret_bool (by first | rfl | (simp; omega) | simp [h]), rfl⟩
  · have h' : ¬ (l.length : Int) < 20 := by omega
    go_enter Tryz.func110, Tryz.ntmps110
    go_wp2_with fail
    go_ret
    exact ⟨ret_bool (by first | rfl | (simp; omega) | simp [h]), rfl⟩
theorem shorts_any (v : Value) (L : List (List Int)) (w : World) (hv : Rws w v L) : Calls Tryz.prog 50 #[v, .func (.func 110) #[] #[]] w fun e w' => e = .returned (.bool (shortB L)) ∧ w = w' := by
  obtain ⟨R, hv⟩ := hv
  have hll := hv.run_len (P := Tryz.prog) slRowsA
  have hlb := hv.len
  have HV := Lib.hid hv
  clear hv
  have C : Calls Tryz.prog 121 #[v, .func (.func 110) #[] #[]] w fun e w' => (∃ i : Int, e = .returned (.int .i64 i) ∧ decide (0 ≤ i) = shortB L ∧ (0 ≤ i ∨ i = -1)) ∧ w = w' := by
    go_enter Tryz.func121, Tryz.ntmps121
    go_wp2_with fail
    go_loopw [8] (fun x8 wr => ∃ i : Nat, i ≤ L.length ∧ x8 = .int .i64 i ∧ Hid (∀ k, k < i → 20 ≤ (nthL L k).length) ∧ w = wr) (fun x8 _ => L.length - (intOf x8).toNat)
    case atStart => exact ⟨0, Nat.zero_le _, rfl, Lib.hid (fun k hk => by omega), rfl⟩
    case round =>
      obtain ⟨i, hi, rfl, H, rfl⟩ := hrel
      by_cases hil : i < L.length
      · have hix := HV.out.run_index (P := Tryz.prog) slRowsA i hil
        have hc := HV.out.cell i hil
        have C2 := short_any (R i) (nthL L i) w (HV.out.row i hil)
        by_cases h20 : (nthL L i).length < 20
        · have HS := Lib.hid (short_yes hil h20)
          rw [decide_eq_true h20] at C2
          clear h20
          go_wp2_with fail
          refine C2.mono ?_
          rintro e w' ⟨rfl, rfl⟩
          clear C2
          go_wp2_with fail
          refine bodyPost_ret (v := .int .i64 i) (by simp [results, Tryz.results121, go_sem]) rfl ⟨⟨i, rfl, by rw [HS.out]; simp, .inl (by omega)⟩, rfl⟩
        · have HN := Lib.hid h20
          rw [decide_eq_false h20] at C2
          clear h20
          go_wp2_with fail
          refine C2.mono ?_
          rintro e w' ⟨rfl, rfl⟩
          clear C2
          go_wp2_with fail
          go_roundw
          case rel => exact ⟨i + 1, by omega, by go_num, Lib.hid (fun k hk => by
            rcases Nat.lt_or_eq_of_le (show k ≤ i by omega) with h | rfl
            · exact H.out k h
            · have := HN.out; omega), trivial⟩
          case measure => simp [intOf]; omega
      · obtain rfl : i = L.length := by omega
        have HS := Lib.hid (short_all H.out)
        go_wp2_with fail
        refine bodyPost_ret (v := .int .i64 (-1)) (by simp [results, Tryz.results121, go_sem]) rfl ⟨⟨-1, rfl, by rw [HS.out]; rfl, .inr rfl⟩, rfl⟩
  go_enter Tryz.func50, Tryz.ntmps50
  go_wp2_with fail
  refine C.mono ?_
  rintro e w' ⟨⟨i, rfl, hb, hi⟩, rfl⟩
  have HB := Lib.hid hb
  clear C hb
  rcases hi with hi | rfl
  · go_wp2_with fail
    go_ret
    exact ⟨ret_bool (by rw [← HB.out]; simp; omega), rfl⟩
  · go_wp2_with fail
    go_ret
    exact ⟨ret_bool (by rw [← HB.out]; rfl), rfl⟩
section
variable {w : World} {f : Value} {p g : Int} {fs : List Int}
set_option maxRecDepth 100000 in
set_option maxHeartbeats 2000000 in
theorem factors_any (hf : Fld w f p g fs) (v : Value) (r : List Int) (x y : Int) (hv : Ints w v r) (h20 : 20 ≤ r.length) :
    Calls Tryz.prog 216 #[f, v, .int .i64 x, .int .i64 y] w (Rd w (.tuple #[.int .i64 (facA p x y r), .int .i64 (facB p x y r)])) := by
  have HF := Lib.hid hf; have HV := Lib.hid hv
  have hp := hf.two
  have H4 := Lib.hid (show (prsR p r 3 7).take 4 = prsR p r 3 7 from List.take_of_length_le (by rw [prsR_length]; exact Nat.le_refl _))
  have H5 := Lib.hid (show (prsR p r 12 16).take 4 = prsR p r 12 16 from List.take_of_length_le (by rw [prsR_length]; exact Nat.le_refl _))
  clear hf hv
  go_enter Tryz.func216, Tryz.ntmps216
  go_wp2_with fail
  go_loopw [8, 9, 11] (fun x8 x9 x11 wr => ∃ k : Nat, k ≤ 4 ∧ x8 = .int .i64 (fprod p y x ((prsR p r 3 7).take k)) ∧ x9 = .int .i64 (fprod p y x ((prsR p r 12 16).take k)) ∧ x11 = .int .i64 k ∧ Hid (∃ m, wr = w.drewN m)) (fun _ _ x11 _ => 4 - (intOf x11).toNat)
  case atStart => exact ⟨0, by omega, by rw [List.take_zero, fprod_nil hp], by rw [List.take_zero, fprod_nil hp], rfl, Lib.hid ⟨0, rfl⟩⟩
  case round =>
    obtain ⟨k, hk, rfl, rfl, rfl, HD⟩ := hrel
    by_cases hk4 : k < 4
    · have i1 := HV.out.run_index (P := Tryz.prog) slIntY (3 + k) (by omega)
      have i2 := HV.out.run_index (P := Tryz.prog) slIntY (7 + k) (by omega)
      have i3 := HV.out.run_index (P := Tryz.prog) slIntY (12 + k) (by omega)
      have i4 := HV.out.run_index (P := Tryz.prog) slIntY (16 + k) (by omega)
      have hx := drew_ext HD.out
      have HF1 := Lib.hid (HF.out.ext hx)
      have HV1 := Lib.hid (HV.out.ext hx)
      clear hx
      have d1 := HV1.out.cell (3 + k) (by omega)
      have d2 := HV1.out.cell (7 + k) (by omega)
      have d3 := HV1.out.cell (12 + k) (by omega)
      have d4 := HV1.out.cell (16 + k) (by omega)
      rw [show ((3 + k : Nat) : Int) = 3 + (k : Int) by omega] at i1
      rw [show ((7 + k : Nat) : Int) = 7 + (k : Int) by omega] at i2
      rw [show ((12 + k : Nat) : Int) = 12 + (k : Int) by omega] at i3
      rw [show ((16 + k : Nat) : Int) = 16 + (k : Int) by omega] at i4
      have S1 := Lib.hid (facA_step (p := p) (x := x) (y := y) (r := r) (a := 3) (v := 7) hk4)
      have S2 := Lib.hid (facA_step (p := p) (x := x) (y := y) (r := r) (a := 12) (v := 16) hk4)
      generalize nth r (3 + k) = n1 at *
      generalize nth r (7 + k) = n2 at *
      generalize nth r (12 + k) = n3 at *
      generalize nth r (16 + k) = n4 at *
      generalize fprod p y x ((prsR p r 3 7).take k) = q1 at *
      generalize fprod p y x ((prsR p r 12 16).take k) = q2 at *
      generalize elt v (3 + k) 1 = e1 at *
      generalize elt v (7 + k) 1 = e2 at *
      generalize elt v (12 + k) 1 = e3 at *
      generalize elt v (16 + k) 1 = e4 at *
      go_wp2_with fail
      have w1 : IntKind.i64.wrap (3 + (k : Int)) = 3 + (k : Int) := IntWalk.i64_in _ (by omega)
      have w2 : IntKind.i64.wrap (7 + (k : Int)) = 7 + (k : Int) := IntWalk.i64_in _ (by omega)
      have w3 : IntKind.i64.wrap (12 + (k : Int)) = 12 + (k : Int) := IntWalk.i64_in _ (by omega)
      have w4 : IntKind.i64.wrap (16 + (k : Int)) = 16 + (k : Int) := IntWalk.i64_in _ (by omega)
      refine wp_region_quiet_lit (by kernel_rfl) (by kernel_rfl) ?_
      repeat (go_big_quiet_step (first | (go_at_call 123; exact mul_q HF1.out _ _ _) | (go_at_call 122; exact add_q HF1.out _ _ _) | (go_at_call 179; exact sub_q HF1.out _ _ _)))
      refine wpQuiet_nil ?_
      rintro _ ⟨nq, rfl⟩
      have hx := Ext.drewN wr nq
      have HF2 := Lib.hid (HF1.out.ext hx)
      have HD2 := Lib.hid (drew_more HD.out nq)
      replace d3 := hx.cell d3
      replace d4 := hx.cell d4
      clear hx d1 d2
      generalize wr.drewN nq = wd at *
      go_wp2_with fail
      refine wp_region_quiet_lit (by kernel_rfl) (by kernel_rfl) ?_
      repeat (go_big_quiet_step (first | (go_at_call 123; exact mul_q HF2.out _ _ _) | (go_at_call 122; exact add_q HF2.out _ _ _) | (go_at_call 179; exact sub_q HF2.out _ _ _)))
      refine wpQuiet_nil ?_
      rintro _ ⟨nq, rfl⟩
      clear w1 w2 w3 w4
      go_wp2_with fail
      go_roundw
      case rel => exact ⟨k + 1, by omega, by rw [S1.out], by rw [S2.out], by go_num, Lib.hid (drew_more HD2.out _)⟩
      case measure => simp [intOf]; omega
    · obtain rfl : k = 4 := by omega
      go_wp2_with fail
      go_ret2
      exact ⟨by rw [H4.out, H5.out]; rfl, HD.out⟩
end
end Go.Proofs.YtnmjaddhbecopaaGreatDoor
end
section
namespace Go.Proofs.YtnmjaddhbecopaaGreatDoor
open Go.RowKit Go.Att
section
variable {w : World} {f : Value} {p g : Int} {fs : List Int}
set_option maxHeartbeats 1000000 in
theorem divA_any (hf : Fld w f p g fs) (a b : Int) : Calls Tryz.prog 214 #[f, .int .i64 a, .int .i64 b] w (Rd w (.int .i64 (fdiv p a b))) := by
  have C1 := inv_any hf b
  have HF := Lib.hid hf
  clear hf
  go_enter Tryz.func214, Tryz.ntmps214
  go_wp2_with fail
  refine C1.mono ?_
  rintro e w1 ⟨rfl, m, rfl⟩
  have C2 := mul_any (HF.out.drewN m) a (finv p b)
  clear C1
  go_wp2_with fail
  refine C2.mono ?_
  rintro e w2 ⟨rfl, m2, rfl⟩
  go_wp2_with fail
  go_ret
  exact ⟨ret_int (by unfold fmul fdiv; rfl), m + m2, by first | (simp [World.drewN]; done) | simp [World.drewN, Nat.add_assoc]⟩
end
end Go.Proofs.YtnmjaddhbecopaaGreatDoor
end
