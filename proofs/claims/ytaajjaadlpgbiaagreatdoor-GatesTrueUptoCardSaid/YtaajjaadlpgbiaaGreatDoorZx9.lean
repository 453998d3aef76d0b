/- A word's coefficients are linear in the word; sums of rows by powers. Plain laws. No program in sight. Sums of rows by powers, the program's side: contracts. By halves: the lists. Plain laws. No program in sight. -/
import Derived.Test.YtaajjaadlpgbiaaGreatDoorZx6
import Derived.Test.YtaajjaadlpgbiaaGreatDoorZx4
section
namespace Go.Att
/-- By halves: what the program's spread comes to, unreduced. -/
def sprZ : Nat → (Nat → Int) → Int → Nat → Int
  | 0, a, _, j => a j
  | k + 1, a, g, j =>
    if j < 2 ^ k then sprZ k (fun i => a (2 * i)) (g * g) j + g ^ j * sprZ k (fun i => a (2 * i + 1)) (g * g) j
    else sprZ k (fun i => a (2 * i)) (g * g) (j - 2 ^ k) - g ^ (j - 2 ^ k) * sprZ k (fun i => a (2 * i + 1)) (g * g) (j - 2 ^ k)
theorem sprZ_congr (k : Nat) {a b : Nat → Int} (g : Int) (h : ∀ i, i < 2 ^ k → a i = b i) (j : Nat) (hj : j < 2 ^ k) : sprZ k a g j = sprZ k b g j := by
  induction k generalizing a b g j with
  | zero => exact h j hj
  | succ k ih =>
    rw [Nat.pow_succ] at h hj
    have e1 := fun j hj => ih (g * g) (a := fun i => a (2 * i)) (b := fun i => b (2 * i)) (fun i hi => h _ (by omega)) j hj
    have e2 := fun j hj => ih (g * g) (a := fun i => a (2 * i + 1)) (b := fun i => b (2 * i + 1)) (fun i hi => h _ (by omega)) j hj
    simp only [sprZ]
    split
    · rw [e1 j (by assumption), e2 j (by assumption)]
    · rw [e1 _ (by omega), e2 _ (by omega)]
theorem sprZ_mod (p : Int) (k : Nat) {a b : Nat → Int} {g g' : Int} (hg : g % p = g' % p) (h : ∀ i, i < 2 ^ k → a i % p = b i % p) (j : Nat) (hj : j < 2 ^ k) : sprZ k a g j % p = sprZ k b g' j % p := by
  induction k generalizing a b g g' j with
  | zero => exact h j hj
  | succ k ih =>
    rw [Nat.pow_succ] at h hj
    have hgg : (g * g) % p = (g' * g') % p := mmul hg hg
    have e1 := fun j hj => ih hgg (a := fun i => a (2 * i)) (b := fun i => b (2 * i)) (fun i hi => h _ (by omega)) j hj
    have e2 := fun j hj => ih hgg (a := fun i => a (2 * i + 1)) (b := fun i => b (2 * i + 1)) (fun i hi => h _ (by omega)) j hj
    have hpw : ∀ n : Nat, g ^ n % p = g' ^ n % p := fun n => by rw [← pow_mod p g n, hg, pow_mod]
    simp only [sprZ]
    split
    · exact madd (e1 j (by assumption)) (mmul (hpw _) (e2 j (by assumption)))
    · rw [Int.sub_emod, e1 _ (by omega), mmul (hpw _) (e2 _ (by omega)), ← Int.sub_emod]
theorem sprZ_zero (k : Nat) (g : Int) (j : Nat) : sprZ k (fun _ => 0) g j = 0 := by
  induction k generalizing g j with
  | zero => rfl
  | succ k ih => simp only [sprZ, ih]; split <;> simp
theorem sprZ_lin (k : Nat) (a b : Nat → Int) (c g : Int) (j : Nat) : sprZ k (fun i => a i + c * b i) g j = sprZ k a g j + c * sprZ k b g j := by
  induction k generalizing a b g j with
  | zero => rfl
  | succ k ih =>
    simp only [sprZ]
    rw [ih (fun i => a (2 * i)) (fun i => b (2 * i)), ih (fun i => a (2 * i + 1)) (fun i => b (2 * i + 1)), ih (fun i => a (2 * i)) (fun i => b (2 * i)), ih (fun i => a (2 * i + 1)) (fun i => b (2 * i + 1))]
    split <;> grind
theorem sprZ_sum (k : Nat) (F : Nat → Nat → Int) (c : Nat → Int) (g : Int) (n j : Nat) : sprZ k (fun i => sumN (fun m => c m * F m i) n) g j = sumN (fun m => c m * sprZ k (F m) g j) n := by
  induction n with
  | zero => simp only [sumN]; exact sprZ_zero k g j
  | succ n ih =>
    simp only [sumN]
    rw [sprZ_lin k (fun i => sumN (fun m => c m * F m i) n) (F n) (c n), ih]
/-- A polynomial that is not 0 has few roots. -/
theorem few_of {p : Int} (hp : Pr p) (q : List Int) (hc : ∃ c ∈ q, ¬ p ∣ c) (P : Nat → Bool) (n : Nat) (hn : (n : Int) ≤ p) (hP : ∀ i, i < n → P i = true → ev q (i : Int) % p = 0) : cntN P n < q.length := by
  rw [← such_length]
  refine roots hp q hc (such P n) ?_ ?_
  · unfold such
    rw [List.pairwise_map]
    refine List.Pairwise.imp_of_mem ?_ ((List.nodup_range (n := n)).filter P)
    intro a b ha hb hab hd
    have ha' := List.mem_range.1 (List.mem_filter.1 ha).1
    have hb' := List.mem_range.1 (List.mem_filter.1 hb).1
    obtain ⟨k, hk⟩ := hd
    have hp2 := hp.two
    have h1 : ((a : Int) - b) < p := by omega
    have h2 : -p < ((a : Int) - b) := by omega
    rw [hk] at h1 h2
    have k0 : k = 0 := by
      rcases Int.lt_trichotomy k 0 with h | h | h
      · have : p * k ≤ p * (-1) := Int.mul_le_mul_of_nonneg_left (by omega) (by omega)
        omega
      · exact h
      · have : p * 1 ≤ p * k := Int.mul_le_mul_of_nonneg_left (by omega) (by omega)
        omega
    rw [k0] at hk
    exact hab (by omega)
  · intro x hx
    obtain ⟨i, hi, rfl⟩ := List.mem_map.1 hx
    obtain ⟨h1, h2⟩ := List.mem_filter.1 hi
    exact Int.dvd_of_emod_eq_zero (hP i (List.mem_range.1 h1) h2)
end Go.Att
end
section
namespace Go.Att
open Go.RowKit
/-- The sum of the first m rows at a place, each times a power. -/
def mixS (p r : Int) (L : List (List Int)) : Nat → Nat → Int
  | 0, _ => 0
  | m + 1, k => fadd p (mixS p r L m k) (fmul p (fpow p r m) (nth (nthL L m) k))
def mixL (p r : Int) (L : List (List Int)) : List Int := (List.range (nthL L 0).length).map fun k => mixS p r L L.length k
/-- .. where the first k places of row m are in. -/
def mixP (p r : Int) (L : List (List Int)) (n m k : Nat) : List Int := (List.range n).map fun j => if j < k then mixS p r L (m + 1) j else mixS p r L m j
theorem mixP_length (p r : Int) (L : List (List Int)) (n m k : Nat) : (mixP p r L n m k).length = n := by simp [mixP]
theorem mixP_zero (p r : Int) (L : List (List Int)) (n m : Nat) : mixP p r L n (m + 1) 0 = mixP p r L n m n := by
  unfold mixP
  refine List.map_congr_left fun j hj => ?_
  have := List.mem_range.1 hj
  simp [this]
theorem mixP_nth (p r : Int) (L : List (List Int)) (n m k : Nat) (h : k < n) : nth (mixP p r L n m k) k = mixS p r L m k := by
  unfold mixP; rw [nth_map_range _ _ _ h]; simp
theorem mixP_set (p r : Int) (L : List (List Int)) (n m k : Nat) (h : k < n) : ((mixP p r L n m k).map (Value.int .i64)).take (k * 1) ++ (Value.cells (.int .i64 (fadd p (mixS p r L m k) (fmul p (fpow p r m) (nth (nthL L m) k))))).toList ++ ((mixP p r L n m k).map (Value.int .i64)).drop (k * 1 + 1) = (mixP p r L n m (k + 1)).map (Value.int .i64) := by
  apply List.ext_getElem?
  intro j
  have hl : ((mixP p r L n m k).map (Value.int .i64)).length = n := by simp [mixP]
  have hc : (Value.cells (.int .i64 (fadd p (mixS p r L m k) (fmul p (fpow p r m) (nth (nthL L m) k))))).toList = [Value.int .i64 (mixS p r L (m + 1) k)] := by simp [Value.cells, mixS]
  rw [hc, Nat.mul_one]
  by_cases h1 : j < k
  · rw [List.append_assoc, List.getElem?_append_left (by rw [List.length_take, hl]; omega), List.getElem?_take, if_pos h1]
    simp [mixP, show j < n by omega, h1, show j < k + 1 by omega]
  · by_cases h2 : j = k
    · subst h2
      rw [List.append_assoc, List.getElem?_append_right (by rw [List.length_take, hl]; omega), List.length_take, hl, show min j n = j by omega, Nat.sub_self]
      simp [mixP, h]
    · rw [List.append_assoc, List.getElem?_append_right (by rw [List.length_take, hl]; omega), List.length_take, hl, show min k n = k by omega]
      obtain ⟨d, rfl⟩ : ∃ d, j = k + 1 + d := ⟨j - k - 1, by omega⟩
      rw [show k + 1 + d - k = d + 1 by omega, List.singleton_append, List.getElem?_cons_succ, List.getElem?_drop]
      by_cases h3 : k + 1 + d < n
      · simp [mixP, h3, show ¬ k + 1 + d < k by omega, show ¬ k + 1 + d < k + 1 by omega]
      · simp [mixP, h3]
end Go.Att
namespace Go.Proofs.YtaajjaadlpgbiaaGreatDoor
open Go.RowKit Go.Att

theorem mix1_any {w : World} {v vr : Value} {l : List Int} {L : List (List Int)} {R : Nat → Value} {c : Nat} (hv : Ints w v l) (hr : RwsAt w vr L R) (h0 : 0 < L.length) (hc : w.cell? ⟨c, 0, none⟩ = some vr) :
    Calls Tryz.prog 27 #[v, .pointer (some ⟨c, 0, none⟩)] w (Rd w (.bool ((l.length : Int) != (nthL L 0).length))) := by
  have hl := hv.run_len (P := Tryz.prog) slInts
  have hix := hr.run_index (P := Tryz.prog) slRows 0 h0
  have hcr := hr.cell 0 h0
  have hln := (hr.row 0 h0).run_len (P := Tryz.prog) slInts
  rw [show ((0 : Nat) : Int) = 0 from rfl] at hix
  clear hv hr
  go_enter Tryz.func27, Tryz.ntmps27
  go_wp2_with fail
  go_ret
  exact .same rfl

set_option maxRecDepth 100000 in
set_option maxHeartbeats 1000000 in
theorem mindex_any {w : World} {v vr : Value} {L L0 : List (List Int)} {R R0 : Nat → Value} {c : Nat} (hv : RwsAt w v L R) (hr : RwsAt w vr L0 R0) (h0 : 0 < L0.length) (hc : w.cell? ⟨c, 0, none⟩ = some vr) :
    Calls Tryz.prog 69 #[v, .func (Fn.func 27) #[] #[.pointer (some ⟨c, 0, none⟩)]] w (RdI w fun r => decide (0 ≤ r) = !fitB ((nthL L0 0).length : Int) L) := by
  have hl := hv.run_len (P := Tryz.prog) slRows
  have hlen := hv.len
  have HV := Lib.hid hv; clear hv
  have HR := Lib.hid hr; clear hr
  have HC := Lib.hid hc; clear hc
  obtain ⟨n, hn⟩ : ∃ n : Int, ((nthL L0 0).length : Int) = n := ⟨_, rfl⟩
  rw [hn]
  have HN := Lib.hid hn; clear hn
  go_enter Tryz.func69, Tryz.ntmps69
  go_wp2
  go_loopw [5, 8] (fun _ x8 wr => ∃ i m : Nat, i ≤ L.length ∧ x8 = .int .i64 i ∧ Hid (∀ j, j < i → ((nthL L j).length : Int) = n) ∧ wr = w.drewN m) (fun _ x8 _ => L.length - (intOf x8).toNat)
  case atStart => exact ⟨0, 0, Nat.zero_le _, rfl, Lib.hid (fun j hj => by omega), rfl⟩
  case round =>
    obtain ⟨i, m, hi, rfl, H, rfl⟩ := hrel
    by_cases hlt : i < L.length
    · have hix := HV.out.run_index (P := Tryz.prog) slRows i hlt
      have hcell := HV.out.cell i hlt
      by_cases he : ((nthL L i).length : Int) = n
      · have hb : (((nthL L i).length : Int) != n) = false := by rw [bne_eq_false_iff_eq]; exact he
        have HE := Lib.hid he; clear he
        go_wp2_with (go_at_call 27; refine (mix1_any ((HV.out.row i hlt).drewN m) (HR.out.drewN m) h0 ((Ext.drewN w m).cell HC.out)).mono ?_; rw [HN.out]; rintro e w' ⟨rfl, m2, rfl⟩)
        go_roundw
        case rel => exact ⟨i + 1, _, by omega, by go_num, Lib.hid (fun j hj => by
            rcases Nat.lt_or_eq_of_le (show j ≤ i by omega) with h | rfl
            · exact H.out j h
            · exact HE.out), rfl⟩
        case measure => simp [intOf]; omega
      · have hb : (((nthL L i).length : Int) != n) = true := by rw [bne_iff_ne]; exact he
        have HE := Lib.hid he; clear he
        go_wp2_with (go_at_call 27; refine (mix1_any ((HV.out.row i hlt).drewN m) (HR.out.drewN m) h0 ((Ext.drewN w m).cell HC.out)).mono ?_; rw [HN.out]; rintro e w' ⟨rfl, m2, rfl⟩)
        go_ret
        exact ⟨i, by rw [fitB_not hlt HE.out]; simp, rfl, _, rfl⟩
    · obtain rfl : i = L.length := by omega
      go_wp2_with fail
      go_ret
      exact ⟨-1, by rw [fitB_of H.out]; rfl, rfl, _, rfl⟩

set_option maxRecDepth 100000 in
theorem mcontains_any {w : World} {v vr : Value} {L L0 : List (List Int)} {R R0 : Nat → Value} {c : Nat} (hv : RwsAt w v L R) (hr : RwsAt w vr L0 R0) (h0 : 0 < L0.length) (hc : w.cell? ⟨c, 0, none⟩ = some vr) :
    Calls Tryz.prog 26 #[v, .func (Fn.func 27) #[] #[.pointer (some ⟨c, 0, none⟩)]] w (Rd w (.bool (!fitB ((nthL L0 0).length : Int) L))) := by
  have HV := Lib.hid hv; clear hv
  have HR := Lib.hid hr; clear hr
  have HC := Lib.hid hc; clear hc
  go_enter Tryz.func26, Tryz.ntmps26
  go_wp2_with (go_at_call 69; refine (mindex_any HV.out HR.out h0 HC.out).mono ?_; rintro e w' ⟨r, hr, rfl, m, rfl⟩; have HRR := Lib.hid hr; clear hr)
  go_ret
  exact .more _ (ret_bool HRR.out)

theorem mix2_any {w : World} {f : Value} {p g : Int} {fs : List Int} (hf : Fld w f p g fs) (i : Nat) (r : Int) (c1 c2 : Nat) (h1 : w.cell? ⟨c1, 0, none⟩ = some f) (h2 : w.cell? ⟨c2, 0, none⟩ = some (.int .i64 r)) (hi : i ≤ 9223372036854775807) :
    Calls Tryz.prog 29 #[.int .i64 i, .pointer (some ⟨c1, 0, none⟩), .pointer (some ⟨c2, 0, none⟩)] w (Rd w (.int .i64 (fpow p r i))) := by
  have C := Lib.hid hf; clear hf
  go_enter Tryz.func29, Tryz.ntmps29
  go_wp2_with (go_at_call 30; refine (pow_any C.out r i (by omega) (by omega)).mono ?_; rw [Int.toNat_natCast]; rintro e w' ⟨rfl, m, rfl⟩)
  go_ret
  exact .more _ rfl
end Go.Proofs.YtaajjaadlpgbiaaGreatDoor
end
section
namespace Go.Att
def evL (l : List Int) (n : Nat) : List Int := (List.range n).map fun i => nth l (2 * i)
def odL (l : List Int) (n : Nat) : List Int := (List.range n).map fun i => nth l (2 * i + 1)
theorem evL_length (l : List Int) (n : Nat) : (evL l n).length = n := by simp [evL]
theorem odL_length (l : List Int) (n : Nat) : (odL l n).length = n := by simp [odL]
theorem evL_nth (l : List Int) (n i : Nat) (h : i < n) : nth (evL l n) i = nth l (2 * i) := nth_map_range _ _ _ h
theorem odL_nth (l : List Int) (n i : Nat) (h : i < n) : nth (odL l n) i = nth l (2 * i + 1) := nth_map_range _ _ _ h
theorem evL_succ (l : List Int) (n : Nat) : evL l (n + 1) = evL l n ++ [nth l (2 * n)] := by unfold evL; rw [List.range_succ]; simp
theorem odL_succ (l : List Int) (n : Nat) : odL l (n + 1) = odL l n ++ [nth l (2 * n + 1)] := by unfold odL; rw [List.range_succ]; simp
/-- The powers, as the program has them. -/
def xp (p g : Int) : Nat → Int
  | 0 => 1
  | j + 1 => fmul p (xp p g j) g
theorem xp_mod (p g : Int) (j : Nat) : xp p g j % p = g ^ j % p := by
  induction j with
  | zero => simp [xp]
  | succ j ih => simp only [xp, fmul, e_idem, Int.pow_succ]; exact mmul ih rfl
/-- What is laid in behind i of h steps. -/
def outP (p g : Int) (E O : List Int) (h i : Nat) : List Int := (List.range (h + h)).map fun j =>
  if j < i then fadd p (nth E j) (fmul p (xp p g j) (nth O j)) else if h ≤ j ∧ j < h + i then fsub p (nth E (j - h)) (fmul p (xp p g (j - h)) (nth O (j - h))) else 0
theorem outP_length (p g : Int) (E O : List Int) (h i : Nat) : (outP p g E O h i).length = h + h := by simp [outP]
theorem outP_set (p g : Int) (E O : List Int) (h i : Nat) (hi : i < h) : (((outP p g E O h i).set i (fadd p (nth E i) (fmul p (xp p g i) (nth O i)))).set (h + i) (fsub p (nth E i) (fmul p (xp p g i) (nth O i)))) = outP p g E O h (i + 1) := by
  apply List.ext_getElem (by simp [outP])
  intro j h1 h2
  have hj : j < h + h := by simpa [outP] using h2
  rw [List.getElem_set, List.getElem_set]
  simp only [outP, List.getElem_map, List.getElem_range]
  by_cases e1 : h + i = j
  · subst e1
    rw [if_pos rfl, if_neg (by omega), if_pos ⟨by omega, by omega⟩, show h + i - h = i by omega]
  · rw [if_neg e1]
    by_cases e2 : i = j
    · subst e2; rw [if_pos rfl, if_pos (by omega)]
    · rw [if_neg e2]
      by_cases e3 : j < i
      · rw [if_pos e3, if_pos (show j < i + 1 by omega)]
      · rw [if_neg e3, if_neg (show ¬ j < i + 1 by omega)]
        by_cases e4 : h ≤ j ∧ j < h + i
        · rw [if_pos e4, if_pos (show h ≤ j ∧ j < h + (i + 1) by omega)]
        · rw [if_neg e4, if_neg (show ¬ (h ≤ j ∧ j < h + (i + 1)) by omega)]
theorem outP_zero (p g : Int) (E O : List Int) (h : Nat) : outP p g E O h 0 = List.replicate (h + h) 0 := by
  unfold outP
  apply List.ext_getElem (by simp)
  intro i h1 h2
  simp; omega
theorem out_fin (p g : Int) (l E O : List Int) (K : Nat) (hE : ∀ j, j < 2 ^ K → nth E j % p = sprZ K (nth (evL l (2 ^ K))) (fmul p g g) j % p) (hO : ∀ j, j < 2 ^ K → nth O j % p = sprZ K (nth (odL l (2 ^ K))) (fmul p g g) j % p) :
    ∀ j, j < 2 ^ (K + 1) → nth (outP p g E O (2 ^ K) (2 ^ K)) j % p = sprZ (K + 1) (nth l) g j % p := by
  intro j hj
  rw [Nat.pow_succ, Nat.mul_two] at hj
  have hg : fmul p g g % p = (g * g) % p := e_idem _ _
  have h1 : ∀ j, j < 2 ^ K → nth E j % p = sprZ K (fun i => nth l (2 * i)) (g * g) j % p := fun j hj => by
    rw [hE j hj]; exact sprZ_mod p K hg (fun i hi => by rw [evL_nth _ _ _ hi]) j hj
  have h2 : ∀ j, j < 2 ^ K → nth O j % p = sprZ K (fun i => nth l (2 * i + 1)) (g * g) j % p := fun j hj => by
    rw [hO j hj]; exact sprZ_mod p K hg (fun i hi => by rw [odL_nth _ _ _ hi]) j hj
  unfold outP
  rw [nth_map_range _ _ _ hj]
  simp only [sprZ]
  by_cases hlt : j < 2 ^ K
  · rw [if_pos hlt, if_pos hlt]
    simp only [fadd, fmul, e_idem]
    rw [ea_r]
    exact madd (h1 j hlt) (mmul (xp_mod p g j) (h2 j hlt))
  · rw [if_neg hlt, if_pos ⟨by omega, by omega⟩, if_neg hlt]
    simp only [fsub, fmul, e_idem]
    rw [es_r, Int.sub_emod, h1 _ (by omega), mmul (xp_mod p g _) (h2 _ (by omega)), ← Int.sub_emod]
end Go.Att
end
