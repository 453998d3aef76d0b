/- The document's digest: powers, constants, stirring, what stands behind a list: contracts. The document's digest: a state is stirred; what stands behind a list; the digest: contracts. The document's digest: what stands behind a list: contract. The sponge, the program's side: what stands behind a list; parts of a slice: contracts. The document's digest: a state is stirred; what stands behind a list; the digest: contracts. Lists made one, the library's: slices.Grow at the nil slice, slices.Concat: contracts. -/
import Derived.Test.YtaajjaadlpgbiaaGreatDoorZx8
import Derived.Test.YtaajjaadlpgbiaaGreatDoorWw
import Derived.Test.YtaajjaadlpgbiaaGreatDoorZx1
import Derived.Lib.AppendZeros
section
namespace Go.Att
open Go.RowKit
/-- Has n a divisor but 1 in common with m, below i? -/
def comB (n m : Nat) (i : Nat) : Bool := (List.range i).any fun d => decide (2 ≤ d) && (n % d == 0) && (m % d == 0)
theorem com_gcd {n m : Nat} (hn : 1 ≤ n) (h : ∀ d, 2 ≤ d → d ≤ n → ¬ (n % d = 0 ∧ m % d = 0)) : Nat.gcd n m = 1 := by
  apply Classical.byContradiction
  intro hc
  have h0 : 0 < Nat.gcd n m := Nat.gcd_pos_of_pos_left _ hn
  have h1 : Nat.gcd n m ∣ n := Nat.gcd_dvd_left _ _
  have h2 : Nat.gcd n m ∣ m := Nat.gcd_dvd_right _ _
  exact h _ (by omega) (Nat.le_of_dvd hn h1) ⟨Nat.mod_eq_zero_of_dvd h1, Nat.mod_eq_zero_of_dvd h2⟩
theorem gcd_com {n m d : Nat} (h2 : 2 ≤ d) (h : n % d = 0 ∧ m % d = 0) : Nat.gcd n m ≠ 1 := by
  intro hc
  have := Nat.dvd_gcd (Nat.dvd_of_mod_eq_zero h.1) (Nat.dvd_of_mod_eq_zero h.2)
  rw [hc] at this
  have := Nat.le_of_dvd (by omega) this
  omega
theorem modN_cast (n i : Nat) : ((n : Int) % (i : Int) == 0) = (n % i == 0) := by
  rw [Bool.eq_iff_iff, beq_iff_eq, beq_iff_eq]; omega
theorem mixT_snoc (p : Int) (x : List Int) (i : Nat) (hi : i < 8) : ((mixT p x).take (i + 1)).map (Value.int .i64) = ((mixT p x).take i).map (Value.int .i64) ++ [.int .i64 (dotP p (fun j => fmul p (finv p ((i : Int) + j + 8)) (nth x j)) 8)] := by
  rw [List.take_succ_eq_append_getElem (by rw [mixT_length]; exact hi), List.map_append, ← nth_eq, mixT_nth p x hi]; rfl
theorem dot_step (p s _a x : Int) (c : Int) (_h : 0 ≤ s ∧ s < p) : (s + fdiv p x c) % p = fadd p s (fmul p (finv p c) x) := by
  unfold fadd fdiv fmul
  rw [Int.mul_comm x]
/-- The powers so far. -/
def powU (p : Int) (k r : Nat) (x : List Int) (i : Nat) : List Int := (List.range 8).map fun j => if j < i then fpow p (fadd p (nth x j) (cstP p r j)) k else nth x j
theorem powU_length (p : Int) (k r : Nat) (x : List Int) (i : Nat) : (powU p k r x i).length = 8 := by simp [powU]
theorem powU_nth (p : Int) (k r : Nat) (x : List Int) (i : Nat) {j : Nat} (h : j < 8) : nth (powU p k r x i) j = if j < i then fpow p (fadd p (nth x j) (cstP p r j)) k else nth x j := by
  rw [nth_eq (by rw [powU_length]; exact h)]; simp [powU]
theorem powU_zero (p : Int) (k r : Nat) (x : List Int) (hl : x.length = 8) : powU p k r x 0 = x := by
  apply List.ext_getElem (by rw [powU_length, hl])
  intro i h1 h2
  simp [powU, nth_eq h2]
theorem powU_all (p : Int) (k r : Nat) (x : List Int) : powU p k r x 8 = powP p k r x := by
  unfold powU powP
  exact List.map_congr_left fun i hi => by rw [if_pos (List.mem_range.1 hi)]
theorem powU_set (p : Int) (k r : Nat) (x : List Int) (i : Nat) (_hi : i < 8) (v : Int) (hv : v = fpow p (fadd p (nth x i) (cstP p r i)) k) : (powU p k r x i).set i v = powU p k r x (i + 1) := by
  subst hv
  apply List.ext_getElem (by simp [powU])
  intro j h1 h2
  rw [List.getElem_set]
  simp only [powU, List.getElem_map, List.getElem_range]
  by_cases e : i = j
  · subst e; rw [if_pos rfl, if_pos (by omega)]
  · rw [if_neg e]
    by_cases h : j < i
    · rw [if_pos h, if_pos (by omega)]
    · rw [if_neg h, if_neg (by omega)]
theorem fpow_add (p a c : Int) (k : Nat) : fpow p (a + c) k = fpow p (fadd p a c) k := by unfold fpow fadd; rw [pow_mod]
end Go.Att
namespace Go.Proofs.YtaajjaadlpgbiaaGreatDoor
open Go.RowKit Go.Att
set_option maxRecDepth 100000 in
set_option maxHeartbeats 4000000 in
theorem rcommon_any (n m : Nat) (w : World) (h1 : 2 ≤ n) (hn : n ≤ 2147483647) (hm : m ≤ 2147483647) :
    Calls Tryz.prog 169 #[.int .i64 n, .int .i64 m] w fun e w' => e = .returned (.bool (decide (Nat.gcd n m ≠ 1))) ∧ w = w' := by
  go_enter Tryz.func169, Tryz.ntmps169
  go_wp2_with fail
  go_loopw [5] (fun x5 wr => ∃ i : Nat, 2 ≤ i ∧ i ≤ n + 1 ∧ x5 = .int .i64 i ∧ Hid (∀ d, 2 ≤ d → d < i → ¬ (n % d = 0 ∧ m % d = 0)) ∧ wr = w) (fun x5 _ => n + 1 - (intOf x5).toNat)
  case atStart => exact ⟨2, by omega, by omega, rfl, Lib.hid (fun d h1 h2 => by omega), rfl⟩
  case round =>
    obtain ⟨i, hi2, hi, rfl, HD, rfl⟩ := hrel
    by_cases hin : i ≤ n
    · have e1 := modN_cast n i
      have e2 := modN_cast m i
      by_cases ha : n % i = 0
      · have ha' : ((n : Int) % (i : Int) == 0) = true := by rw [e1]; simpa using ha
        by_cases hb : m % i = 0
        · have hb' : ((m : Int) % (i : Int) == 0) = true := by rw [e2]; simpa using hb
          have HG := Lib.hid (gcd_com hi2 ⟨ha, hb⟩)
          clear e1 e2 ha hb
          go_wp2_with fail
          go_ret
          exact ⟨ret_bool (by simpa using HG.out), rfl⟩
        · have hb' : ((m : Int) % (i : Int) == 0) = false := by rw [e2]; simpa using hb
          have HD2 := Lib.hid (show ∀ d, 2 ≤ d → d < i + 1 → ¬ (n % d = 0 ∧ m % d = 0) from fun d h1 h2 hc => by
            by_cases e : d = i
            · subst e; exact hb hc.2
            · exact HD.out d h1 (by omega) hc)
          clear e1 e2 ha hb
          go_wp2_with fail
          go_roundw
          case rel => exact ⟨i + 1, by omega, by omega, by go_num, HD2, trivial⟩
          case measure => simp [intOf]; omega
      · have ha' : ((n : Int) % (i : Int) == 0) = false := by rw [e1]; simpa using ha
        have HD2 := Lib.hid (show ∀ d, 2 ≤ d → d < i + 1 → ¬ (n % d = 0 ∧ m % d = 0) from fun d h1 h2 hc => by
            by_cases e : d = i
            · subst e; exact ha hc.1
            · exact HD.out d h1 (by omega) hc)
        clear e1 e2 ha
        go_wp2_with fail
        go_roundw
        case rel => exact ⟨i + 1, by omega, by omega, by go_num, HD2, trivial⟩
        case measure => simp [intOf]; omega
    · have HG := Lib.hid (com_gcd (n := n) (m := m) (by omega) (fun d h1 h2 => HD.out d h1 (by omega)))
      go_wp2_with fail
      go_ret
      exact ⟨ret_bool (by simpa using HG.out), rfl⟩
set_option maxRecDepth 100000 in
set_option maxHeartbeats 4000000 in
theorem rpower_any (p : Int) (k : Nat) (w : World) (h23 : 23 ≤ p) (hp2 : p ≤ 2147483647) (hk : IsPw p k) :
    Calls Tryz.prog 157 #[.int .i64 p] w fun e w' => e = .returned (.int .i64 k) ∧ w = w' := by
  obtain ⟨hk2, hkg, hkl⟩ := hk
  have hkp : (k : Int) < p := by
    apply Classical.byContradiction
    intro hc
    exact hkl (p - 2).toNat (by omega) (by omega) (gcd_last h23)
  have HKG := Lib.hid hkg; have HKL := Lib.hid hkl
  obtain ⟨m, hm⟩ : ∃ m : Nat, (p - 1) = m ∧ (p - 1).toNat = m := ⟨(p - 1).toNat, by omega, rfl⟩
  have hm1 := hm.1
  have HM := Lib.hid hm
  clear hkg hkl hm
  go_enter Tryz.func157, Tryz.ntmps157
  go_wp2_with fail
  go_loopw [3, 4] (fun x3 _ wr => ∃ n : Nat, 2 ≤ n ∧ n ≤ k ∧ x3 = .int .i64 n ∧ wr = w) (fun x3 _ _ => k - (intOf x3).toNat)
  case atStart => exact ⟨2, by omega, by omega, rfl, rfl⟩
  case round =>
    obtain ⟨n, hn2, hnk, rfl, rfl⟩ := hrel
    by_cases hlt : n < k
    · have HC := Lib.hid (show decide (Nat.gcd n m ≠ 1) = true from by rw [decide_eq_true_iff, ← HM.out.2]; exact HKL.out n hn2 hlt)
      go_wp2_with (go_at_call 169; refine (rcommon_any n m _ hn2 (by omega) (by omega)).mono ?_; rw [HC.out]; rintro e w' ⟨rfl, rfl⟩)
      go_roundw
      case rel => exact ⟨n + 1, by omega, by omega, by go_num, trivial⟩
      case measure => simp [intOf]; omega
    · obtain rfl : n = k := by omega
      have HC := Lib.hid (show decide (Nat.gcd n m ≠ 1) = false from by rw [decide_eq_false_iff_not, ← HM.out.2]; simpa using HKG.out)
      go_wp2_with (go_at_call 169; refine (rcommon_any n m _ hn2 (by omega) (by omega)).mono ?_; rw [HC.out]; rintro e w' ⟨rfl, rfl⟩)
      go_ret
      exact ⟨rfl, rfl⟩
set_option maxRecDepth 100000 in
set_option maxHeartbeats 4000000 in
theorem rconst_any (p : Int) (r i : Nat) (w : World) (hp : 2 ≤ p) (hp2 : p ≤ 2147483647) (hr : r < 8) (hi : i < 8) :
    Calls Tryz.prog 158 #[.int .i64 p, .int .i64 r, .int .i64 i] w fun e w' => e = .returned (.int .i64 (cstP p r i)) ∧ w = w' := by
  have hr2 : ¬ (7 : Int) < r := by omega
  have hi2 : ¬ (7 : Int) < i := by omega
  have hr3 : (r : Int) ≤ 7 := by omega
  have hi3 : (i : Int) ≤ 7 := by omega
  go_enter Tryz.func158, Tryz.ntmps158
  go_wp2_with (first | (go_at_call 32; refine (rpow_any p _ 5 _ hp hp2 (by omega)).mono ?_; rintro e w' ⟨rfl, rfl⟩) | (go_at_call 34; refine (radd_any _ _ _ _ hp hp2).mono ?_; rintro e w' ⟨rfl, rfl⟩))
  go_ret
  exact ⟨rfl, rfl⟩
end Go.Proofs.YtaajjaadlpgbiaaGreatDoor
end
section
namespace Go.Att
open Go.RowKit
/-- All are elements. -/
def Els (p : Int) (x : List Int) : Prop := ∀ i, i < x.length → 0 ≤ nth x i ∧ nth x i < p
theorem dot_bd {p : Int} (hp : 2 ≤ p) (f : Nat → Int) (j : Nat) : 0 ≤ dotP p f j ∧ dotP p f j < p := by
  cases j with
  | zero => simp [dotP]; omega
  | succ j => exact fadd_bd hp _ _
theorem els_mix {p : Int} (hp : 2 ≤ p) (x : List Int) : Els p (mixT p x) := fun i hi => by
  rw [mixT_length] at hi
  rw [mixT_nth p x hi]; exact dot_bd hp _ _
theorem els_perm {p : Int} (hp : 2 ≤ p) (k : Nat) {x : List Int} (h : Els p x) (r : Nat) : Els p (permP p k x r) := by
  cases r with
  | zero => exact h
  | succ r => exact els_mix hp _
theorem els_map {p : Int} (hp : 2 ≤ p) (x : List Int) : Els p (x.map (fof p)) := fun i hi => by
  rw [nth_eq hi, List.getElem_map]; exact fof_bd hp _
theorem els_fof {p : Int} {x : List Int} (h : Els p x) : x.map (fof p) = x := by
  apply List.ext_getElem (by simp)
  intro i h1 h2
  have := h i h2
  rw [nth_eq h2] at this
  rw [List.getElem_map]
  exact Int.emod_eq_of_lt this.1 this.2
theorem take_map_snoc (l : List Int) (i : Nat) (h : i < l.length) : (l.take (i + 1)).map (Value.int .i64) = (l.take i).map (Value.int .i64) ++ [.int .i64 (nth l i)] := by
  rw [List.take_succ_eq_append_getElem h, List.map_append, ← nth_eq]; rfl
theorem set_map (l : List Int) (i : Nat) (h : i < l.length) (x : Int) : (l.map (Value.int .i64)).take (i * 1) ++ (Value.cells (.int .i64 x)).toList ++ (l.map (Value.int .i64)).drop (i * 1 + 1) = (l.set i x).map (Value.int .i64) := by
  rw [set_mid h]
end Go.Att
namespace Go.Proofs.YtaajjaadlpgbiaaGreatDoor
open Go.RowKit Go.Att
set_option maxHeartbeats 1000000 in
theorem rallO_any (p : Int) (v : Value) (l : List Int) (w : World) (hv : Ints w v l) (hp : 2 ≤ p) (hp2 : p ≤ 2147483647) (hs : l.length ≤ 4294967295) :
    Calls Tryz.prog 156 #[.int .i64 p, v] w (Gives w fun v' w' => w'.ownsRow w.heap.size 3 1 v' l.length ((l.map (fof p)).map (Value.int .i64))) := by
  have hl := hv.run_len (P := Tryz.prog) slInts
  have HV := Lib.hid hv; clear hv
  go_enter Tryz.func156, Tryz.ntmps156
  go_wp2
  go_loopw [5, 6] (fun x5 x6 wr => ∃ i : Nat, x6 = .int .i64 i ∧ i ≤ l.length ∧ wr.ownsRow w.heap.size 3 1 x5 i (((l.take i).map (fof p)).map (Value.int .i64)) ∧ Ext w wr) (fun _ x6 _ => l.length - (intOf x6).toNat)
  case atStart => exact ⟨0, rfl, Nat.zero_le _, World.ownsRow_nil _ _ _ _, Ext.refl _⟩
  case round =>
    obtain ⟨i, rfl, hi1, HO, HX⟩ := hrel
    by_cases hlt : i < l.length
    · have hix := HV.out.run_index (P := Tryz.prog) slInts i hlt
      have hcell := (HV.out.ext HX).cell i hlt
      go_wp2_with (first | (go_at_call 36; refine (rof_any _ _ _ hp hp2).mono ?_; rintro e w' ⟨rfl, rfl⟩) | (at_builtin; refine wpList_app1 rfl _ _ 23 rfl slInts rfl HX HO rfl _ rfl rfl (by omega) (by omega) ?_; intro v' w1 HO' HX' _))
      go_roundw
      case rel => exact ⟨i + 1, by go_num, by omega, by rw [take_snoc_map _ hlt]; simpa using HO', HX'⟩
      case measure => simp [intOf]; omega
    · obtain rfl : i = l.length := by omega
      go_wp2_with fail
      go_ret
      exact .mk _ rfl HX (by rw [List.take_length] at HO; exact HO)
set_option maxRecDepth 100000 in
set_option maxHeartbeats 4000000 in
theorem rmix_any (p : Int) (v : Value) (x : List Int) (w : World) (hp : 2 ≤ p) (hp2 : p ≤ 2147483647) (hv : Ints w v x) (hl : x.length = 8) :
    Calls Tryz.prog 159 #[.int .i64 p, v] w (Gives w fun u w' => w'.ownsRow w.heap.size 3 1 u 8 ((mixT p x).map (Value.int .i64))) := by
  have HV := Lib.hid hv; have HL := Lib.hid hl
  clear hv hl
  go_enter Tryz.func159, Tryz.ntmps159
  go_wp2_with fail
  go_loopw [5, 6, 7, 8, 9] (fun x5 x6 _ _ _ wr => ∃ i : Nat, i ≤ 8 ∧ x6 = .int .i64 i ∧ wr.ownsRow w.heap.size 3 1 x5 i (((mixT p x).take i).map (Value.int .i64)) ∧ Ext w wr) (fun _ x6 _ _ _ _ => 8 - (intOf x6).toNat)
  case atStart => exact ⟨0, by omega, rfl, World.ownsRow_nil _ _ _ _, Ext.refl _⟩
  case round =>
    obtain ⟨i, hi, rfl, HO, HX⟩ := hrel
    by_cases hi8 : i < 8
    · have HOH := Lib.hid HO; have HXH := Lib.hid HX
      have ST := Lib.hid (mixT_snoc p x i hi8)
      have hi88 : (i : Int) < 8 := by omega
      clear HO HX
      go_wp2_with fail
      generalize wr = w9 at *
      go_loopw [7, 8, 9] (fun x7 x8 _ wq => ∃ j : Nat, j ≤ 8 ∧ x8 = .int .i64 j ∧ x7 = .int .i64 (dotP p (fun j => fmul p (finv p ((i : Int) + j + 8)) (nth x j)) j) ∧ wq = w9) (fun _ x8 _ _ => 8 - (intOf x8).toNat)
      case atStart => exact ⟨0, by omega, rfl, rfl, rfl⟩
      case round =>
        obtain ⟨j, hj, rfl, rfl, rfl⟩ := hrel
        by_cases hj8 : j < 8
        · have hix := HV.out.run_index (P := Tryz.prog) slInts j (by rw [HL.out]; exact hj8)
          have hc := (HV.out.ext HXH.out).cell j (by rw [HL.out]; exact hj8)
          have hj88 : (j : Int) < 8 := by omega
          have hb := dot_bd hp (fun j => fmul p (finv p ((i : Int) + j + 8)) (nth x j)) j
          have HS := Lib.hid (show dotP p (fun j => fmul p (finv p ((i : Int) + j + 8)) (nth x j)) (j + 1) = fadd p (dotP p (fun j => fmul p (finv p ((i : Int) + j + 8)) (nth x j)) j) (fmul p (finv p ((i : Int) + j + 8)) (nth x j)) from rfl)
          generalize dotP p (fun j => fmul p (finv p ((i : Int) + j + 8)) (nth x j)) j = S at *
          generalize nth x j = xj at *
          have HD := Lib.hid (dot_step p S 0 xj ((i : Int) + j + 8) hb)
          have hY := fdiv_bd hp xj ((i : Int) + j + 8)
          have hw1 : IntKind.i64.wrap (S + fdiv p xj ((i : Int) + j + 8)) = S + fdiv p xj ((i : Int) + j + 8) := IntWalk.i64_in _ (by omega)
          have hq : (S + fdiv p xj ((i : Int) + j + 8)).tmod p = (S + fdiv p xj ((i : Int) + j + 8)) % p := Int.tmod_eq_emod_of_nonneg (by omega)
          go_wp2_with (go_at_call 142; refine (rdiv_any _ _ _ _ hp hp2).mono ?_; rintro e w' ⟨rfl, rfl⟩)
          go_roundw
          case rel => exact ⟨j + 1, by omega, by go_num, by rw [HS.out, ← HD.out], trivial⟩
          case measure => simp [intOf]; omega
        · obtain rfl : j = 8 := by omega
          generalize dotP p (fun j => fmul p (finv p ((i : Int) + j + 8)) (nth x j)) 8 = S at *
          have HXo := HXH.out
          have HOo := HOH.out
          go_wp2_with (at_builtin; refine wpList_app1 rfl _ _ 23 rfl slInts rfl HXo HOo rfl _ rfl rfl (by omega) (by omega) ?_; intro v' w2 HO2 HX2 _)
          go_roundw
          case rel => exact ⟨i + 1, by omega, by go_num, by rw [ST.out]; exact HO2, HX2⟩
          case measure => simp [intOf]; omega
    · obtain rfl : i = 8 := by omega
      go_wp2_with fail
      go_ret
      exact .mk _ rfl HX (by rw [List.take_of_length_le (by rw [mixT_length]; exact Nat.le_refl _)] at HO; exact HO)
end Go.Proofs.YtaajjaadlpgbiaaGreatDoor
end
section
namespace Go.Att
open Go.RowKit
/-- What stands behind a list, so far. -/
def padU (p : Int) (l : List Int) (i : Nat) : List Int := l.map (fof p) ++ 1 :: List.replicate i 0
theorem padU_length (p : Int) (l : List Int) (i : Nat) : (padU p l i).length = l.length + 1 + i := by simp [padU]; omega
theorem padU_snoc (p : Int) (l : List Int) (i : Nat) : padU p l (i + 1) = padU p l i ++ [0] := by simp [padU, List.replicate_succ']
theorem padU_all (p : Int) (l : List Int) : padU p l (padN l.length) = padP p l := rfl
theorem padN_end {n i : Nat} (h : i ≤ padN n) : (n + 1 + i) % 4 = 0 ↔ i = padN n := by unfold padN at *; omega
end Go.Att
namespace Go.Proofs.YtaajjaadlpgbiaaGreatDoor
open Go.RowKit Go.Att
set_option maxRecDepth 100000 in
set_option maxHeartbeats 4000000 in
theorem rpad_any (p : Int) (v : Value) (l : List Int) (w : World) (hp : 2 ≤ p) (hp2 : p ≤ 2147483647) (hv : Ints w v l) (hs : l.length ≤ 4294967000) :
    Calls Tryz.prog 139 #[.int .i64 p, v] w (Gives w fun u w' => Ints w' u (padP p l) ∧ NewIn w u) := by
  have HV := Lib.hid hv
  clear hv
  go_enter Tryz.func139, Tryz.ntmps139
  go_wp2_with (first | (go_at_call 156; refine (rallO_any p v l w HV.out hp hp2 (by omega)).mono ?_; rintro e w1 ⟨v1, rfl, hx1, ho1⟩) | (at_builtin; refine wpList_app1 rfl _ _ 23 rfl slInts rfl hx1 ho1 rfl _ rfl rfl (by omega) (by omega) ?_; intro v2 w2 HO2 HX2 _))
  have HO2' := Lib.hid (show w2.ownsRow w.heap.size 3 1 v2 (l.length + 1 + 0) ((padU p l 0).map (Value.int .i64)) from by simpa [padU] using HO2)
  have HX2' := Lib.hid HX2
  clear HO2 HX2 ho1 hx1
  go_loopw [5] (fun x5 wr => ∃ i : Nat, i ≤ padN l.length ∧ Hid (wr.ownsRow w.heap.size 3 1 x5 (l.length + 1 + i) ((padU p l i).map (Value.int .i64))) ∧ Hid (Ext w wr)) (fun x5 _ => l.length + 1 + padN l.length - slen x5)
  case atStart => exact ⟨0, Nat.zero_le _, HO2', HX2'⟩
  case round =>
    clear HO2' HX2'
    obtain ⟨i, hi, HO, HX⟩ := hrel
    have hlen := (Sl.of_own HO.out (by omega)).run_len (P := Tryz.prog) slInts
    have HSL := Lib.hid (own_slen HO.out)
    have hpn : padN l.length ≤ 3 := by unfold padN; omega
    have hiff := padN_end hi
    obtain ⟨n, hn⟩ : ∃ n, l.length + 1 + i = n := ⟨_, rfl⟩
    rw [hn] at hlen hiff
    have hem : ((n : Int) % 4 != 0) = !decide (n % 4 = 0) := by
      rw [Bool.eq_iff_iff, bne_iff_ne]; simp; omega
    by_cases hd : i = padN l.length
    · have hem2 : ((n : Int) % 4 != 0) = false := by rw [hem]; simp [hiff.2 hd]
      clear hem hiff
      go_wp2_with fail
      go_ret
      exact .mk _ rfl HX.out ⟨by have := Ints.of_own HO.out; rw [hd, padU_all] at this; exact this, NewIn.of_own HO.out⟩
    · have hem2 : ((n : Int) % 4 != 0) = true := by rw [hem]; simp; exact fun h => hd (hiff.1 h)
      have HS := Lib.hid (padU_snoc p l i)
      have HOo := HO.out
      have HXo := HX.out
      have HN := Lib.hid hn
      clear hem hiff hn
      go_wp2_with (at_builtin; refine wpList_app1 rfl _ _ 23 rfl slInts rfl HXo HOo rfl _ rfl rfl (by omega) (by omega) ?_; intro v4 w4 HO4 HX4 _)
      have HS4 := Lib.hid (own_slen HO4)
      go_roundw
      case rel => exact ⟨i + 1, by omega, Lib.hid (by rw [HS.out, List.map_append]; exact HO4), Lib.hid HX4⟩
      case measure => rw [HSL.out, HS4.out]; omega
end Go.Proofs.YtaajjaadlpgbiaaGreatDoor
end
section
namespace Go.Att
open Go.RowKit
/-- A slice with nothing behind it. -/
def clpV (v : Value) (n : Nat) : Value := match v with
  | .slice a _ _ => .slice a n n
  | v => v
theorem Sl.run_clp {P : Program} {w : World} {sz n : Nat} {v : Value} {cs : List Value} (h : Sl w sz v n cs) {t e bytes : Nat} {z : Value} (ht : SlT P t e sz bytes z) (w' : World) :
    (Instr.sliceAt t v none (some (.int .i64 n)) (some (.int .i64 n))).run P w' = .ok (clpV v n) w' := by
  obtain ⟨ao, cap, rfl, h2, h3, h4, h5⟩ := h
  have hu : P.underlying t = some (.slice (P.elem t)) := by rw [ht.und, elem_of ht.und]
  have ha : ∀ a : Addr, a.add 0 = a := fun a => by unfold Addr.add; simp
  rw [run_sliceAt_slice (h := hu), run_slice_any (ht := hu)]
  simp only [elem_of ht.und, ht.run_size]
  have h3' : (n : Int) ≤ (cap : Int) := by omega
  cases ao <;> simp [Instr.sliceBounds, run_sliceBound, h3', Result.andThen, sliced, clpV, ha]
theorem Sl.clp {w : World} {sz n : Nat} {v : Value} {cs : List Value} (h : Sl w sz v n cs) : Sl w sz (clpV v n) n cs := by
  obtain ⟨ao, cap, rfl, h2, h3, h4, h5⟩ := h
  exact ⟨ao, n, rfl, h2, Nat.le_refl _, Nat.le_trans h3 h4, h5⟩
theorem clpV_block (v : Value) (n : Nat) : (clpV v n).ownBlock = v.ownBlock := by
  unfold clpV
  split
  · rename_i a _ _; cases a <;> rfl
  · rfl
theorem NewIn.clp {W : World} {v : Value} (h : NewIn W v) (n : Nat) : NewIn W (clpV v n) := fun q hq => h q (by rw [clpV_block] at hq; exact hq)
/-- A part of a slice with nothing behind it. -/
def cutV (v : Value) (i j : Nat) : Value := match v with
  | .slice a _ _ => sliced a i j j 1
  | v => v
theorem Ints.run_cut {P : Program} {w : World} {v : Value} {l : List Int} (h : Ints w v l) {t e bytes : Nat} {z : Value} (ht : SlT P t e 1 bytes z) (i j : Nat) (hij : i ≤ j) (hj : j ≤ l.length) (w' : World) :
    (Instr.sliceAt t v (some (.int .i64 i)) (some (.int .i64 j)) (some (.int .i64 j))).run P w' = .ok (cutV v i j) w' := by
  obtain ⟨ao, cap, rfl, h2, h3, h4, h5⟩ := h
  have hu : P.underlying t = some (.slice (P.elem t)) := by rw [ht.und, elem_of ht.und]
  rw [run_sliceAt_slice (h := hu), run_slice_lhm (ht := hu) (h0 := by omega) (h1 := by omega) (h2 := by omega) (h3 := by omega), elem_of ht.und, ht.run_size]
  simp [Result.andThen, cutV]
theorem Ints.cut {w : World} {v : Value} {l : List Int} (h : Ints w v l) (i j : Nat) (hij : i < j) (hj : j ≤ l.length) : Ints w (cutV v i j) ((l.drop i).take (j - i)) := by
  obtain ⟨ao, cap, rfl, h2, h3, h4, h5⟩ := h
  have hl : ((l.drop i).take (j - i)).length = j - i := by simp; omega
  obtain ⟨b, off, e1, _⟩ := h5 0 (by simp; omega)
  subst e1
  refine ⟨some ⟨b, off + i, none⟩, j - i, ?_, by simp, by omega, by omega, fun q hq => ?_⟩
  · rw [hl]
    simp only [cutV, sliced, if_neg (show ¬ j = i by omega), Option.map_some, Addr.add_lit, Nat.mul_one]
  · have hq' : q < j - i := by rw [List.length_map, hl] at hq; exact hq
    obtain ⟨b', off', e1, e2⟩ := h5 (i + q) (by simp; omega)
    injection e1 with e1; injection e1 with e1 e3
    subst e1 e3
    refine ⟨b, off + i, rfl, ?_⟩
    rw [Nat.add_assoc, e2]; simp
theorem pad_snoc (p : Int) (l : List Int) (i : Nat) (h : i < l.length) : ((l.take (i + 1)).map (fof p)).map (Value.int .i64) = ((l.take i).map (fof p)).map (Value.int .i64) ++ [.int .i64 (fof p (nth l i))] := by
  rw [List.take_succ_eq_append_getElem h, nth_eq h, List.map_append, List.map_append]; rfl
end Go.Att
namespace Go.Proofs.YtaajjaadlpgbiaaGreatDoor
open Go.RowKit Go.Att
theorem clipI_any {w : World} {v : Value} {l : List Int} (h : Ints w v l) : Calls Tryz.prog 60 #[v] w fun e w' => e = .returned (clpV v l.length) ∧ w = w' := by
  have hll := h.run_len (P := Tryz.prog) slInts
  have hcl := Sl.run_clp (P := Tryz.prog) h slInts
  go_enter Tryz.func60, Tryz.ntmps60
  go_wp2
  go_ret
  exact ⟨rfl, rfl⟩
set_option maxRecDepth 100000 in
set_option maxHeartbeats 4000000 in
theorem pad_any {w : World} {b bf : Nat} {p g : Int} {fs : List Int} (hc : w.cell? ⟨b, 0, none⟩ = some (.pointer (some ⟨bf, 0, none⟩))) (hf : Fld w (.pointer (some ⟨bf, 0, none⟩)) p g fs) (v : Value) (l : List Int) (hv : Ints w v l) (hs : l.length ≤ 4294967000) :
    Calls Tryz.prog 149 #[.pointer (some ⟨b, 0, none⟩), v] w (Gives w fun u w' => Ints w' u (padP p l) ∧ NewIn w u) := by
  have HF := Lib.hid hf
  have hll := hv.run_len (P := Tryz.prog) slInts
  have HV := Lib.hid hv
  clear hf hv
  obtain ⟨n, hn⟩ : ∃ n, l.length = n := ⟨_, rfl⟩
  have HN := Lib.hid hn
  rw [hn] at hs hll
  clear hn
  go_enter Tryz.func149, Tryz.ntmps149
  go_wp2_with (refine wpList_mk0 rfl _ _ 23 rfl slInts (Ext.refl w) rfl rfl (by omega) (by omega) (by omega) ?_; intro v1 w1 HO HX _)
  go_loopw [5, 7, 14] (fun x5 _ x14 wr => ∃ i : Nat, i ≤ n ∧ x14 = .int .i64 i ∧ wr.ownsRow w.heap.size 3 1 x5 i (((l.take i).map (fof p)).map (Value.int .i64)) ∧ Ext w wr) (fun _ _ x14 _ => n - (intOf x14).toNat)
  case atStart => exact ⟨0, Nat.zero_le _, rfl, by simpa using HO, HX⟩
  case round =>
    obtain ⟨i, hi, rfl, HO1, HX1⟩ := hrel
    by_cases hin : i < n
    · have hix := HV.out.run_index (P := Tryz.prog) slInts i (by rw [HN.out]; exact hin)
      have hcc := (HV.out.ext HX1).cell i (by rw [HN.out]; exact hin)
      have hc1 := HX1.cell hc
      have ST := Lib.hid (pad_snoc p l i (by rw [HN.out]; exact hin))
      go_wp2_with (first | (go_at_call 66; refine (of_any (HF.out.ext HX1) _).mono ?_; rintro e w3 hrd; obtain ⟨rfl, hx3⟩ := hrd.ext; clear hrd; replace HO1 := own_ext HO1 hx3; replace hx3 := HX1.trans hx3) | (at_builtin; refine wpList_appNw rfl _ _ 23 rfl slInts rfl hx3.size HO1 rfl _ rfl (by intro u hu; simp at hu; subst hu; rfl) rfl (by omega) (by omega) ?_; intro v7 w7 HO7 HG7 _))
      go_roundw
      case rel => exact ⟨i + 1, by omega, by go_num, by rw [ST.out]; exact HO7, Ext.own_grown hx3 HO1 HG7⟩
      case measure => simp [intOf]; omega
    · obtain rfl : i = n := by omega
      have HO1' := Lib.hid HO1; have HX1' := Lib.hid HX1
      clear HO1 HX1 HO HX
      go_wp2_with (at_builtin; refine wpList_app1 rfl _ _ 23 rfl slInts rfl HX1'.out HO1'.out rfl _ rfl rfl (by omega) (by omega) ?_; intro v2 w2 HO2 HX2 _)
      have HO2' := Lib.hid (show w2.ownsRow w.heap.size 3 1 v2 (l.length + 1 + 0) ((padU p l 0).map (Value.int .i64)) from by rw [HN.out]; rw [List.take_of_length_le (by rw [HN.out]; exact Nat.le_refl _)] at HO2; simpa [padU] using HO2)
      have HX2' := Lib.hid HX2
      clear HO2 HX2 HO1' HX1'
      go_loopw [5] (fun x5 wr => ∃ i : Nat, i ≤ padN l.length ∧ Hid (wr.ownsRow w.heap.size 3 1 x5 (l.length + 1 + i) ((padU p l i).map (Value.int .i64))) ∧ Hid (Ext w wr)) (fun x5 _ => l.length + 1 + padN l.length - slen x5)
      case atStart => exact ⟨0, Nat.zero_le _, HO2', HX2'⟩
      case round =>
        clear HO2' HX2'
        obtain ⟨i, hi, HO, HX⟩ := hrel
        have hlen := (Sl.of_own HO.out (by omega)).run_len (P := Tryz.prog) slInts
        have HSL := Lib.hid (own_slen HO.out)
        have hpn : padN l.length ≤ 3 := by unfold padN; omega
        have hiff := padN_end hi
        have hll' := HN.out
        obtain ⟨n', hn'⟩ : ∃ n', l.length + 1 + i = n' := ⟨_, rfl⟩
        have hn9 : n' ≤ 4294967100 := by omega
        rw [hn'] at hlen hiff
        have hem : ((n' : Int) % 4 != 0) = !decide (n' % 4 = 0) := by
          rw [Bool.eq_iff_iff, bne_iff_ne]; simp; omega
        by_cases hd : i = padN l.length
        · have hem2 : ((n' : Int) % 4 != 0) = false := by rw [hem]; simp [hiff.2 hd]
          have HI0 := Ints.of_own HO.out
          rw [hd, padU_all] at HI0
          have HI := Lib.hid HI0
          clear HI0
          have HNW := Lib.hid (NewIn.of_own HO.out)
          clear hem hiff hll' hn' hd
          go_wp2_with (go_at_call 60; refine (clipI_any HI.out).mono ?_; rintro e w9 ⟨rfl, rfl⟩)
          go_ret
          exact .mk _ rfl HX.out ⟨Sl.clp HI.out, HNW.out.clp _⟩
        · have hem2 : ((n' : Int) % 4 != 0) = true := by rw [hem]; simp; exact fun h => hd (hiff.1 h)
          have HS := Lib.hid (padU_snoc p l i)
          have HOo := HO.out
          have HXo := HX.out
          have HN' := Lib.hid hn'
          have HLL := Lib.hid hll'
          clear hem hiff hn' hll'
          go_wp2_with (at_builtin; refine wpList_app1 rfl _ _ 23 rfl slInts rfl HXo HOo rfl _ rfl rfl (by have := HLL.out; omega) (by omega) ?_; intro v4 w4 HO4 HX4 _)
          have HS4 := Lib.hid (own_slen HO4)
          go_roundw
          case rel => exact ⟨i + 1, by omega, Lib.hid (by rw [HS.out, List.map_append]; exact HO4), Lib.hid HX4⟩
          case measure => rw [HSL.out, HS4.out]; omega
end Go.Proofs.YtaajjaadlpgbiaaGreatDoor
end
section
namespace Go.Att
open Go.RowKit
theorem els_powU {p : Int} (hp : 2 ≤ p) (k r : Nat) {x : List Int} (h : Els p x) (hl : x.length = 8) (i : Nat) : Els p (powU p k r x i) := fun j hj => by
  rw [powU_length] at hj
  rw [powU_nth p k r x i hj]
  by_cases h2 : j < i
  · rw [if_pos h2]; exact fpow_bd hp _ _
  · rw [if_neg h2]; exact h j (by omega)
theorem cst_bd {p : Int} (hp : 2 ≤ p) (r i : Nat) : 0 ≤ cstP p r i ∧ cstP p r i < p := fadd_bd hp _ _
end Go.Att
namespace Go.Proofs.YtaajjaadlpgbiaaGreatDoor
open Go.RowKit Go.Att
set_option maxRecDepth 100000 in
set_option maxHeartbeats 8000000 in
theorem rpermute_any (p : Int) (k : Nat) (v : Value) (x : List Int) (w : World) (h23 : 23 ≤ p) (hp2 : p ≤ 2147483647) (hk : IsPw p k) (hv : Ints w v x) (hl : x.length = 8) :
    Calls Tryz.prog 140 #[.int .i64 p, v] w (Gives w fun u w' => w'.ownsRow w.heap.size 3 1 u 8 ((permP p k (x.map (fof p)) 8).map (Value.int .i64))) := by
  have hp : 2 ≤ p := by omega
  have hkp : (k : Int) ≤ 2147483647 := by
    obtain ⟨hk2, hkg, hkl⟩ := hk
    apply Classical.byContradiction
    intro hc
    exact hkl (p - 2).toNat (by omega) (by omega) (gcd_last h23)
  have HV := Lib.hid hv; have HL := Lib.hid hl; have HK := Lib.hid hk
  clear hv hl hk
  go_enter Tryz.func140, Tryz.ntmps140
  go_wp2_with (first | (go_at_call 156; refine (rallO_any p v x w HV.out hp hp2 (by rw [HL.out]; omega)).mono ?_; rintro e w1 ⟨v1, rfl, hx1, ho1⟩; rw [HL.out] at ho1; have HO1 := Lib.hid ho1; have HX1 := Lib.hid hx1; clear ho1 hx1) | (go_at_call 157; refine (rpower_any p k _ h23 hp2 HK.out).mono ?_; rintro e w' ⟨rfl, rfl⟩))
  have HE0 := Lib.hid (els_map hp x)
  have HL0 := Lib.hid (show (x.map (fof p)).length = 8 from by rw [List.length_map]; exact HL.out)
  generalize hx0 : x.map (fof p) = x0 at *
  have HX0E := Lib.hid hx0
  clear hx0
  go_loopw [5, 7, 8, 9] (fun x5 x7 _ _ wr => ∃ r : Nat, r ≤ 8 ∧ x7 = .int .i64 r ∧ Hid (wr.ownsRow w.heap.size 3 1 x5 8 ((permP p k x0 r).map (Value.int .i64))) ∧ Hid (Ext w wr)) (fun _ x7 _ _ _ => 8 - (intOf x7).toNat)
  case atStart => exact ⟨0, by omega, rfl, HO1, HX1⟩
  case round =>
    clear HO1 HX1
    obtain ⟨r, hr, rfl, HO, HX⟩ := hrel
    by_cases hr8 : r < 8
    · have hr88 : (r : Int) < 8 := by omega
      have HEX := Lib.hid (els_perm hp k HE0.out r)
      have HLX := Lib.hid (permP_length p k HL0.out r)
      have HSX := Lib.hid (show permP p k x0 (r + 1) = mixT p (powP p k r (permP p k x0 r)) from rfl)
      generalize permP p k x0 r = X at *
      obtain ⟨a5, c5, hsh⟩ := own_shape HO.out
      subst hsh
      have HO0 := Lib.hid (show wr.ownsRow w.heap.size 3 1 (.slice a5 8 c5) 8 ((powU p k r X 0).map (Value.int .i64)) from by rw [powU_zero p k r X HLX.out]; exact HO.out)
      clear HO
      go_wp2_with fail
      generalize wr = w9 at *
      go_loopw [8, 9] (fun x8 _ wq => ∃ i : Nat, i ≤ 8 ∧ x8 = .int .i64 i ∧ Hid (wq.ownsRow w.heap.size 3 1 (.slice a5 8 c5) 8 ((powU p k r X i).map (Value.int .i64))) ∧ Hid (Ext w wq)) (fun x8 _ _ => 8 - (intOf x8).toNat)
      case atStart => exact ⟨0, by omega, rfl, HO0, HX⟩
      case round =>
        clear HO0 HX
        obtain ⟨i, hi, rfl, HO, HX⟩ := hrel
        by_cases hi8 : i < 8
        · have HI := Ints.of_own HO.out
          have hix := HI.run_index (P := Tryz.prog) slInts i (by rw [powU_length]; exact hi8)
          have hc := HI.cell i (by rw [powU_length]; exact hi8)
          rw [powU_nth p k r X i hi8, if_neg (by omega)] at hc
          have hb := HEX.out i (by rw [HLX.out]; exact hi8)
          have hcb := cst_bd hp r i
          have HST := Lib.hid (fun v hv => powU_set p k r X i hi8 v hv)
          have HFA := Lib.hid (fpow_add p (nth X i) (cstP p r i) k)
          have HSM := Lib.hid (fun v => set_map (powU p k r X i) i (by rw [powU_length]; exact hi8) v)
          generalize nth X i = xi at *
          have CC := fun W => rconst_any p r i W hp hp2 hr8 hi8
          generalize cstP p r i = ci at *
          have hw1 : IntKind.i64.wrap (xi + ci) = xi + ci := IntWalk.i64_in _ (by omega)
          have HOo := HO.out
          clear HI
          go_wp2_with (first | (go_at_call 158; refine (CC _).mono ?_; rintro e w' ⟨rfl, rfl⟩) | (go_at_call 32; refine (rpow_any p _ k _ hp hp2 (by omega)).mono ?_; rintro e w' ⟨rfl, rfl⟩) | (refine wpList_set rfl rfl _ _ 3 rfl slInts HOo i hi8 rfl (.int .i64 (fpow p (xi + ci) k)) rfl rfl (by intro u hu; simp [Value.cells] at hu; subst hu; rfl) ?_; intro w7 HO7 HG7))
          have HX7 := Lib.hid (Ext.own_grown HX.out HOo HG7)
          have HO7' := Lib.hid (show w7.ownsRow w.heap.size 3 1 (.slice a5 8 c5) 8 ((powU p k r X (i + 1)).map (Value.int .i64)) from by rw [HSM.out] at HO7; rw [← HST.out _ HFA.out]; exact HO7)
          go_roundw
          case rel => exact ⟨i + 1, by omega, by go_num, HO7', HX7⟩
          case measure => simp [intOf]; omega
        · obtain rfl : i = 8 := by omega
          have HI := Lib.hid (show Ints wr (.slice a5 8 c5) (powP p k r X) from by have := Ints.of_own HO.out; rwa [powU_all] at this)
          go_wp2_with (go_at_call 159; refine (rmix_any p _ (powP p k r X) _ hp hp2 HI.out (powP_length _ _ _ _)).mono ?_; rintro e w8 ⟨v8, rfl, hx8, ho8⟩; have HX8 := Lib.hid (HX.out.trans hx8); have HO8 := Lib.hid (own_base ho8 HX.out.size); clear hx8 ho8)
          go_roundw
          case rel => exact ⟨r + 1, by omega, by go_num, by rw [HSX.out]; exact HO8, HX8⟩
          case measure => simp [intOf]; omega
    · obtain rfl : r = 8 := by omega
      go_wp2_with fail
      go_ret
      exact .mk _ rfl HX.out (by rw [HX0E.out]; exact HO.out)
end Go.Proofs.YtaajjaadlpgbiaaGreatDoor
end
section
namespace Go.Att
open Go.RowKit
theorem flat_take (L : List (List Int)) (i : Nat) (h : i < L.length) : (L.take (i + 1)).flatten = (L.take i).flatten ++ nthL L i := by
  rw [List.take_succ_eq_append_getElem h, List.flatten_append, nthL_eq h]; simp
theorem flat_le (L : List (List Int)) (i : Nat) : (L.take i).flatten.length ≤ L.flatten.length := by
  have : L.flatten = (L.take i).flatten ++ (L.drop i).flatten := by rw [← List.flatten_append, List.take_append_drop]
  rw [this, List.length_append]; omega
end Go.Att
namespace Go.Proofs.YtaajjaadlpgbiaaGreatDoor
open Go.RowKit Go.Att
theorem slRowsC : SlT Tryz.prog 22 23 1 24 (.slice none 0 0) := SlT.mk' Tryz.underlying22 (by kernel_rfl) (by decide)
theorem run_zeros (n : Nat) (h0 : 0 < n) (hn : n ≤ 4294967296) (ty : TypeId) (w : World) : ∃ cap w', (Builtin.append_ #[23, 3] ty #[.slice none 0 0, .int .i64 n]).run Tryz.prog w = .ok (.slice (some ⟨w.heap.size, 0, none⟩) n cap) w' ∧ Ext w w' ∧ w'.ownsRow w.heap.size 3 1 (.slice (some ⟨w.heap.size, 0, none⟩) 0 cap) 0 [] ∧ n ≤ cap := by
  obtain ⟨i, hi, hiz, his, hib⟩ := slInts.inf
  have hr := Lib.run_append_nil_zeros (P := Tryz.prog) w 23 3 ty 3 i (.int .i64 0) .i64 .i64 slInts.und Tryz.underlying3 hi hiz n h0 (by omega) (by omega) (by rw [hib]; omega)
  have hge := grownCap_ge w n 0 3
  have hle := grownCap_le_maxLen w n 0 3 (by unfold maxLen; omega)
  refine ⟨_, _, hr, (Ext.drew w).trans (Ext.alloc _ _), ⟨by simp, .inr ⟨w.heap.size, grownCap w n 0 3, _, rfl, Nat.le_refl _, heap_alloc_new w.drew _, Nat.zero_le _, hle, ?_, by simp⟩⟩, hge⟩
  rw [Array.size_append, size_zeroCells, size_zeroCells]
  simp [Value.cells]; omega
set_option maxRecDepth 100000 in
set_option maxHeartbeats 2000000 in
theorem grow_any (n : Nat) (hn : n ≤ 4294967296) (w : World) : Calls Tryz.prog 166 #[.slice none 0 0, .int .i64 n] w (Gives w fun u w' => w'.ownsRow w.heap.size 3 1 u 0 []) := by
  have h1 : ¬ (n : Int) < 0 := by omega
  have hcap : ∀ ty w', (Builtin.cap_ #[23] ty #[.slice none 0 0]).run Tryz.prog w' = .ok (.int .i64 0) w' := fun ty w' => by kernel_rfl
  by_cases h0 : n = 0
  · subst h0
    go_enter Tryz.func166, Tryz.ntmps166
    go_wp2_with fail
    go_ret
    exact .mk _ rfl (Ext.refl _) (World.ownsRow_nil _ _ _ _)
  · have hpos : (0 : Int) < n := by omega
    obtain ⟨cap, w1, hr, hx, ho, hcn⟩ := run_zeros n (by omega) hn 23 w
    have HR := Lib.hid hr; have HX := Lib.hid hx; have HO := Lib.hid ho
    clear hr hx ho
    go_enter Tryz.func166, Tryz.ntmps166
    go_wp2_with (at_builtin; refine Lib.wpList_append_run _ rfl _ _ _ _ rfl _ _ rfl rfl _ _ HR.out ?_)
    go_ret
    exact .mk _ rfl HX.out HO.out
set_option maxRecDepth 100000 in
set_option maxHeartbeats 4000000 in
theorem concat_any {w : World} {v : Value} {L : List (List Int)} {R : Nat → Value} (h : RwsAt w v L R) (hb : L.flatten.length ≤ 4294967000) (hc : L.length ≤ 4294967000) :
    Calls Tryz.prog 151 #[v] w (Gives w fun u w' => w'.ownsRow w.heap.size 3 1 u L.flatten.length (L.flatten.map (Value.int .i64))) := by
  have hll := h.run_len (P := Tryz.prog) slRowsC
  have HR := Lib.hid h
  obtain ⟨N, hN⟩ : ∃ N, L.length = N := ⟨_, rfl⟩
  have HN := Lib.hid hN
  have HB := Lib.hid hb
  rw [hN] at hll hc
  clear h hN hb
  go_enter Tryz.func151, Tryz.ntmps151
  go_wp2_with fail
  go_loopw [3, 5, 11] (fun x3 _ x11 wr => ∃ i : Nat, i ≤ N ∧ x11 = .int .i64 i ∧ x3 = .int .i64 ((L.take i).flatten.length : Nat) ∧ w = wr) (fun _ _ x11 _ => N - (intOf x11).toNat)
  case atStart => exact ⟨0, Nat.zero_le _, rfl, by simp, rfl⟩
  case round =>
    obtain ⟨i, hi, rfl, rfl, rfl⟩ := hrel
    by_cases hin : i < N
    · have hix := HR.out.run_index (P := Tryz.prog) slRowsC i (by rw [HN.out]; exact hin)
      have hcc := HR.out.cell i (by rw [HN.out]; exact hin)
      have hlr := (HR.out.row i (by rw [HN.out]; exact hin)).run_len (P := Tryz.prog) slInts
      have hft := flat_take L i (by rw [HN.out]; exact hin)
      have hfl := flat_le L (i + 1)
      have hbb := HB.out
      rw [hft, List.length_append] at hfl
      have HFT := Lib.hid (show (L.take (i + 1)).flatten.length = (L.take i).flatten.length + (nthL L i).length from by rw [hft, List.length_append])
      generalize (L.take i).flatten.length = s at *
      generalize (nthL L i).length = t at *
      generalize L.flatten.length = u at *
      generalize R i = ri at *
      clear hft
      go_wp2_with fail
      go_roundw
      case rel => exact ⟨i + 1, by omega, by go_num, by rw [HFT.out]; go_num, trivial⟩
      case measure => simp [intOf]; omega
    · obtain rfl : i = N := by omega
      have htk : (L.take i).flatten.length = L.flatten.length := by rw [List.take_of_length_le (by rw [HN.out]; exact Nat.le_refl _)]
      rw [htk]
      have hbb := HB.out
      clear htk
      obtain ⟨u, hu⟩ : ∃ u, L.flatten.length = u := ⟨_, rfl⟩
      have HU := Lib.hid hu
      rw [hu] at hbb ⊢
      clear hu
      go_wp2_with (go_at_call 166; refine (grow_any u (by omega) _).mono ?_; rintro e w1 ⟨v1, rfl, hx1, ho1⟩)
      have HX1 := Lib.hid hx1; have HO1 := Lib.hid ho1
      clear hx1 ho1
      go_loopw [6, 8, 27] (fun x6 _ x27 wr => ∃ j : Nat, j ≤ i ∧ x27 = .int .i64 j ∧ wr.ownsRow w.heap.size 3 1 x6 (L.take j).flatten.length ((L.take j).flatten.map (Value.int .i64)) ∧ Ext w wr) (fun _ _ x27 _ => i - (intOf x27).toNat)
      case atStart => exact ⟨0, Nat.zero_le _, rfl, by simpa using HO1.out, HX1.out⟩
      case round =>
        clear HX1 HO1
        obtain ⟨j, hj, rfl, HO, HX⟩ := hrel
        by_cases hjn : j < i
        · have hix := HR.out.run_index (P := Tryz.prog) slRowsC j (by rw [HN.out]; exact hjn)
          have hcc := HX.cell (HR.out.cell j (by rw [HN.out]; exact hjn))
          have hrj := HR.out.row j (by rw [HN.out]; exact hjn)
          have HRJ := Lib.hid (hrj.ext HX)
          have hft := flat_take L j (by rw [HN.out]; exact hjn)
          have hfl := flat_le L (j + 1)
          rw [hft, List.length_append, HU.out] at hfl
          have HFT := Lib.hid hft
          clear hrj hft
          generalize R j = rj at *
          go_wp2_with (at_builtin; refine wpList_appSl rfl _ _ 23 rfl slInts rfl HX HO rfl HRJ.out (by intro u hu; simp only [List.mem_map] at hu; obtain ⟨_, _, rfl⟩ := hu; rfl) rfl (by omega) (by omega) ?_; intro v2 w2 HO2 HX2 _)
          go_roundw
          case rel => exact ⟨j + 1, by omega, by go_num, by rw [HFT.out, List.length_append, List.map_append]; exact HO2, HX2⟩
          case measure => simp [intOf]; omega
        · obtain rfl : j = i := by omega
          rw [List.take_of_length_le (by rw [HN.out]; exact Nat.le_refl _), HU.out] at HO
          go_wp2_with fail
          go_ret
          exact .mk _ rfl HX (by rw [HU.out]; exact HO)
end Go.Proofs.YtaajjaadlpgbiaaGreatDoor
end
