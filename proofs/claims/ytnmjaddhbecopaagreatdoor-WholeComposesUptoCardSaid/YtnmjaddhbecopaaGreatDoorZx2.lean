/- The matrix of inverses 1 / (i + j + 8) can be undone: no pivot is 0. Plain laws. No program in sight. A word's coefficients are linear in the word; sums of rows by powers. Plain laws. No program in sight. By halves: the lists. Plain laws. No program in sight. The greatest common divisor; what undoes a power: contracts. -/
import Derived.Test.YtnmjaddhbecopaaGreatDoorLa
import Derived.Test.YtnmjaddhbecopaaGreatDoorFc
section
namespace Go.Att
/-- The products of x - l, of x + l + 8. -/
def cA (x : Int) : Nat → Int
  | 0 => 1
  | i + 1 => cA x i * (x - i)
def cB (x : Int) : Nat → Int
  | 0 => 1
  | i + 1 => cB x i * (x + i + 8)
theorem pr_mul {p : Int} (hp : Pr p) {a b : Int} (ha : ¬ p ∣ a) (hb : ¬ p ∣ b) : ¬ p ∣ a * b := fun h => (hp.euclid h).elim ha hb
theorem pr_small {p a : Int} (h1 : 0 < a) (h2 : a < p) : ¬ p ∣ a := fun h => by have := Int.le_of_dvd h1 h; omega
theorem cA_unit {p : Int} (hp : Pr p) (h23 : 23 ≤ p) (x i : Nat) (hx : x < 8) (hi : i ≤ x) : ¬ p ∣ cA x i := by
  induction i with
  | zero => exact (pr_small (by decide) (by omega) : ¬ p ∣ (1 : Int))
  | succ i ih => exact pr_mul hp (ih (by omega)) (pr_small (by omega) (by omega))
theorem cB_unit {p : Int} (hp : Pr p) (h23 : 23 ≤ p) (x i : Nat) (hx : x < 8) (hi : i ≤ 8) : ¬ p ∣ cB x i := by
  induction i with
  | zero => exact (pr_small (by decide) (by omega) : ¬ p ∣ (1 : Int))
  | succ i ih => exact pr_mul hp (ih (by omega)) (pr_small (by omega) (by omega))
/-- What is left of the matrix behind i steps. -/
def Left (p : Int) (i : Nat) (m : Nat → Nat → Int) : Prop :=
  ∀ r j : Nat, i ≤ r → r < 8 → i ≤ j → j < 8 → (m r j * (((r : Int) + j + 8) * (cB r i * cB j i))) % p = (cA r i * cA j i) % p
theorem left_start {p : Int} (hp : Pr p) (h23 : 23 ≤ p) (m : Nat → Nat → Int) (h : ∀ r j : Nat, r < 8 → j < 8 → m r j = finv p ((r : Int) + j + 8)) : Left p 0 m := by
  intro r j _ hr _ hj
  rw [h r j hr hj]
  simp only [cA, cB, Int.mul_one]
  rw [finv_mul hp (pr_small (by omega) (by omega)), one_mod hp.two]
theorem left_pivot {p : Int} (hp : Pr p) (h23 : 23 ≤ p) {m : Nat → Nat → Int} {i : Nat} (hi : i < 8) (h : Left p i m) : ¬ p ∣ m i i := by
  intro hd
  have h1 := h i i (Nat.le_refl _) hi (Nat.le_refl _) hi
  have h2 : p ∣ m i i * (((i : Int) + i + 8) * (cB i i * cB i i)) := Int.dvd_mul_of_dvd_left hd
  rw [Int.emod_eq_zero_of_dvd h2] at h1
  have h3 : p ∣ cA i i * cA i i := Int.dvd_of_emod_eq_zero h1.symm
  exact pr_mul hp (cA_unit hp h23 i i hi (Nat.le_refl _)) (cA_unit hp h23 i i hi (Nat.le_refl _)) h3
theorem mod_cancel {p : Int} (hp : Pr p) {a b c : Int} (hc : ¬ p ∣ c) (h : (a * c) % p = (b * c) % p) : a % p = b % p := by
  have h1 := dvd_sub_of_mod_eq h
  rw [← Int.sub_mul] at h1
  exact mod_eq_of_dvd_sub ((hp.euclid h1).resolve_right hc)
/-- A step: the row of the pivot is made 1 there, and goes from the others. -/
theorem left_step {p : Int} (hp : Pr p) (h23 : 23 ≤ p) {m m' : Nat → Nat → Int} {i : Nat} (hi : i < 8) (h : Left p i m) (by_ : Int) (hby : (by_ * m i i) % p = 1 % p)
    (hm : ∀ r j : Nat, i < r → r < 8 → i < j → j < 8 → m' r j % p = (m r j - m r i * (m i j * by_)) % p) : Left p (i + 1) m' := by
  intro r j hr hr8 hj hj8
  have ha := h r j (by omega) hr8 (by omega) hj8
  have hb := h r i (by omega) hr8 (Nat.le_refl _) hi
  have hc := h i j (Nat.le_refl _) hi (by omega) hj8
  have hP := h i i (Nat.le_refl _) hi (Nat.le_refl _) hi
  have hu := cB_unit hp h23 i i hi (by omega)
  have hm' := hm r j (by omega) hr8 (by omega) hj8
  generalize m r j = a at *
  generalize m r i = b at *
  generalize m i j = c at *
  generalize m i i = P at *
  simp only [cA, cB]
  generalize cB (r : Int) i = Br at *
  generalize cB (j : Int) i = Bj at *
  generalize cB (i : Int) i = Bi at *
  generalize cA (r : Int) i = Ar at *
  generalize cA (j : Int) i = Aj at *
  generalize cA (i : Int) i = Ai at *
  generalize (r : Int) = r at *
  generalize (j : Int) = j at *
  generalize (i : Int) = i at *
  -- the pivot's part
  have e1 : (b * (c * by_) * ((r + j + 8) * ((Br * (r + i + 8)) * (Bj * (j + i + 8))))) % p = (Ar * Aj * ((i + i + 8) * (r + j + 8))) % p := by
    refine mod_cancel hp (pr_mul hp hu hu) ?_
    have s1 : b * (c * by_) * ((r + j + 8) * ((Br * (r + i + 8)) * (Bj * (j + i + 8)))) * (Bi * Bi) = (b * ((r + i + 8) * (Br * Bi))) * ((c * ((i + j + 8) * (Bi * Bj))) * (by_ * (r + j + 8))) := by grind
    have s2 : (Ar * Ai) * ((Ai * Aj) * (by_ * (r + j + 8))) = (Ai * Ai) * (Ar * Aj * (by_ * (r + j + 8))) := by grind
    have s3 : (P * ((i + i + 8) * (Bi * Bi))) * (Ar * Aj * (by_ * (r + j + 8))) = (by_ * P) * (Ar * Aj * ((i + i + 8) * (r + j + 8)) * (Bi * Bi)) := by grind
    rw [s1, mmul hb (mmul hc rfl), s2, ← mmul hP rfl, s3, mmul hby rfl, Int.one_mul]
  have e2 : (a * ((r + j + 8) * ((Br * (r + i + 8)) * (Bj * (j + i + 8))))) % p = (Ar * Aj * ((r + i + 8) * (j + i + 8))) % p := by
    have s1 : a * ((r + j + 8) * ((Br * (r + i + 8)) * (Bj * (j + i + 8)))) = (a * ((r + j + 8) * (Br * Bj))) * ((r + i + 8) * (j + i + 8)) := by grind
    rw [s1, mmul ha rfl]
  rw [mmul hm' rfl, Int.sub_mul, Int.sub_emod, e1, e2, ← Int.sub_emod]
  congr 1
  grind
end Go.Att
end
section
namespace Go.Att
/-- By halves: what the program's spread comes to, unreduced. -/
def sprZ : Nat → (Nat → Int) → Int → Nat → Int
  | 0, a, _, j => a j
  | k + 1, a, g, j =>
    if j < 2 ^ k then sprZ k (fun i => a (2 * i)) (g * g) j + g ^ j * sprZ k (fun i => a (2 * i + 1)) (g * g) j
    else sprZ k (fun i => a (2 * i)) (g * g) (j - 2 ^ k) - g ^ (j - 2 ^ k) * sprZ k (fun i => a (2 * i + 1)) (g * g) (j - 2 ^ k)
theorem sprZ_congr (k : Nat) {a b : Nat → Int} (g : Int) (h : ∀ i, i < 2 ^ k → a i = b i) (j : Nat) (hj : j < 2 ^ k) : sprZ k a g j = sprZ k b g j := by
  induction k generalizing a b g j with
  | zero => exact h j hj
  | succ k ih =>
    rw [Nat.pow_succ] at h hj
    have e1 := fun j hj => ih (g * g) (a := fun i => a (2 * i)) (b := fun i => b (2 * i)) (fun i hi => h _ (by omega)) j hj
    have e2 := fun j hj => ih (g * g) (a := fun i => a (2 * i + 1)) (b := fun i => b (2 * i + 1)) (fun i hi => h _ (by omega)) j hj
    simp only [sprZ]
    split
    · rw [e1 j (by assumption), e2 j (by assumption)]
    · rw [e1 _ (by omega), e2 _ (by omega)]
theorem sprZ_mod (p : Int) (k : Nat) {a b : Nat → Int} {g g' : Int} (hg : g % p = g' % p) (h : ∀ i, i < 2 ^ k → a i % p = b i % p) (j : Nat) (hj : j < 2 ^ k) : sprZ k a g j % p = sprZ k b g' j % p := by
  induction k generalizing a b g g' j with
  | zero => exact h j hj
  | succ k ih =>
    rw [Nat.pow_succ] at h hj
    have hgg : (g * g) % p = (g' * g') % p := mmul hg hg
    have e1 := fun j hj => ih hgg (a := fun i => a (2 * i)) (b := fun i => b (2 * i)) (fun i hi => h _ (by omega)) j hj
    have e2 := fun j hj => ih hgg (a := fun i => a (2 * i + 1)) (b := fun i => b (2 * i + 1)) (fun i hi => h _ (by omega)) j hj
    have hpw : ∀ n : Nat, g ^ n % p = g' ^ n % p := fun n => by rw [← pow_mod p g n, hg, pow_mod]
    simp only [sprZ]
    split
    · exact madd (e1 j (by assumption)) (mmul (hpw _) (e2 j (by assumption)))
    · rw [Int.sub_emod, e1 _ (by omega), mmul (hpw _) (e2 _ (by omega)), ← Int.sub_emod]
theorem sprZ_zero (k : Nat) (g : Int) (j : Nat) : sprZ k (fun _ => 0) g j = 0 := by
  induction k generalizing g j with
  | zero => rfl
  | succ k ih => simp only [sprZ, ih]; split <;> simp
theorem sprZ_lin (k : Nat) (a b : Nat → Int) (c g : Int) (j : Nat) : sprZ k (fun i => a i + c * b i) g j = sprZ k a g j + c * sprZ k b g j := by
  induction k generalizing a b g j with
  | zero => rfl
  | succ k ih =>
    simp only [sprZ]
    rw [ih (fun i => a (2 * i)) (fun i => b (2 * i)), ih (fun i => a (2 * i + 1)) (fun i => b (2 * i + 1)), ih (fun i => a (2 * i)) (fun i => b (2 * i)), ih (fun i => a (2 * i + 1)) (fun i => b (2 * i + 1))]
    split <;> grind
theorem sprZ_sum (k : Nat) (F : Nat → Nat → Int) (c : Nat → Int) (g : Int) (n j : Nat) : sprZ k (fun i => sumN (fun m => c m * F m i) n) g j = sumN (fun m => c m * sprZ k (F m) g j) n := by
  induction n with
  | zero => simp only [sumN]; exact sprZ_zero k g j
  | succ n ih =>
    simp only [sumN]
    rw [sprZ_lin k (fun i => sumN (fun m => c m * F m i) n) (F n) (c n), ih]
/-- A polynomial that is not 0 has few roots. -/
theorem few_of {p : Int} (hp : Pr p) (q : List Int) (hc : ∃ c ∈ q, ¬ p ∣ c) (P : Nat → Bool) (n : Nat) (hn : (n : Int) ≤ p) (hP : ∀ i, i < n → P i = true → ev q (i : Int) % p = 0) : cntN P n < q.length := by
  rw [← such_length]
  refine roots hp q hc (such P n) ?_ ?_
  · unfold such
    rw [List.pairwise_map]
    refine List.Pairwise.imp_of_mem ?_ ((List.nodup_range (n := n)).filter P)
    intro a b ha hb hab hd
    have ha' := List.mem_range.1 (List.mem_filter.1 ha).1
    have hb' := List.mem_range.1 (List.mem_filter.1 hb).1
    obtain ⟨k, hk⟩ := hd
    have hp2 := hp.two
    have h1 : ((a : Int) - b) < p := by omega
    have h2 : -p < ((a : Int) - b) := by omega
    rw [hk] at h1 h2
    have k0 : k = 0 := by
      rcases Int.lt_trichotomy k 0 with h | h | h
      · have : p * k ≤ p * (-1) := Int.mul_le_mul_of_nonneg_left (by omega) (by omega)
        omega
      · exact h
      · have : p * 1 ≤ p * k := Int.mul_le_mul_of_nonneg_left (by omega) (by omega)
        omega
    rw [k0] at hk
    exact hab (by omega)
  · intro x hx
    obtain ⟨i, hi, rfl⟩ := List.mem_map.1 hx
    obtain ⟨h1, h2⟩ := List.mem_filter.1 hi
    exact Int.dvd_of_emod_eq_zero (hP i (List.mem_range.1 h1) h2)
end Go.Att
end
section
namespace Go.Att
def evL (l : List Int) (n : Nat) : List Int := (List.range n).map fun i => nth l (2 * i)
def odL (l : List Int) (n : Nat) : List Int := (List.range n).map fun i => nth l (2 * i + 1)
theorem evL_length (l : List Int) (n : Nat) : (evL l n).length = n := by simp [evL]
theorem odL_length (l : List Int) (n : Nat) : (odL l n).length = n := by simp [odL]
theorem evL_nth (l : List Int) (n i : Nat) (h : i < n) : nth (evL l n) i = nth l (2 * i) := nth_map_range _ _ _ h
theorem odL_nth (l : List Int) (n i : Nat) (h : i < n) : nth (odL l n) i = nth l (2 * i + 1) := nth_map_range _ _ _ h
theorem evL_succ (l : List Int) (n : Nat) : evL l (n + 1) = evL l n ++ [nth l (2 * n)] := by unfold evL; rw [List.range_succ]; simp
theorem odL_succ (l : List Int) (n : Nat) : odL l (n + 1) = odL l n ++ [nth l (2 * n + 1)] := by unfold odL; rw [List.range_succ]; simp
/-- The powers, as the program has them. -/
def xp (p g : Int) : Nat → Int
  | 0 => 1
  | j + 1 => fmul p (xp p g j) g
theorem xp_mod (p g : Int) (j : Nat) : xp p g j % p = g ^ j % p := by
  induction j with
  | zero => simp [xp]
  | succ j ih => simp only [xp, fmul, e_idem, Int.pow_succ]; exact mmul ih rfl
/-- What is laid in behind i of h steps. -/
def outP (p g : Int) (E O : List Int) (h i : Nat) : List Int := (List.range (h + h)).map fun j =>
  if j < i then fadd p (nth E j) (fmul p (xp p g j) (nth O j)) else if h ≤ j ∧ j < h + i then fsub p (nth E (j - h)) (fmul p (xp p g (j - h)) (nth O (j - h))) else 0
theorem outP_length (p g : Int) (E O : List Int) (h i : Nat) : (outP p g E O h i).length = h + h := by simp [outP]
theorem outP_set (p g : Int) (E O : List Int) (h i : Nat) (hi : i < h) : (((outP p g E O h i).set i (fadd p (nth E i) (fmul p (xp p g i) (nth O i)))).set (h + i) (fsub p (nth E i) (fmul p (xp p g i) (nth O i)))) = outP p g E O h (i + 1) := by
  apply List.ext_getElem (by simp [outP])
  intro j h1 h2
  have hj : j < h + h := by simpa [outP] using h2
  rw [List.getElem_set, List.getElem_set]
  simp only [outP, List.getElem_map, List.getElem_range]
  by_cases e1 : h + i = j
  · subst e1
    rw [if_pos rfl, if_neg (by omega), if_pos ⟨by omega, by omega⟩, show h + i - h = i by omega]
  · rw [if_neg e1]
    by_cases e2 : i = j
    · subst e2; rw [if_pos rfl, if_pos (by omega)]
    · rw [if_neg e2]
      by_cases e3 : j < i
      · rw [if_pos e3, if_pos (show j < i + 1 by omega)]
      · rw [if_neg e3, if_neg (show ¬ j < i + 1 by omega)]
        by_cases e4 : h ≤ j ∧ j < h + i
        · rw [if_pos e4, if_pos (show h ≤ j ∧ j < h + (i + 1) by omega)]
        · rw [if_neg e4, if_neg (show ¬ (h ≤ j ∧ j < h + (i + 1)) by omega)]
theorem outP_zero (p g : Int) (E O : List Int) (h : Nat) : outP p g E O h 0 = List.replicate (h + h) 0 := by
  unfold outP
  apply List.ext_getElem (by simp)
  intro i h1 h2
  simp; omega
theorem out_fin (p g : Int) (l E O : List Int) (K : Nat) (hE : ∀ j, j < 2 ^ K → nth E j % p = sprZ K (nth (evL l (2 ^ K))) (fmul p g g) j % p) (hO : ∀ j, j < 2 ^ K → nth O j % p = sprZ K (nth (odL l (2 ^ K))) (fmul p g g) j % p) :
    ∀ j, j < 2 ^ (K + 1) → nth (outP p g E O (2 ^ K) (2 ^ K)) j % p = sprZ (K + 1) (nth l) g j % p := by
  intro j hj
  rw [Nat.pow_succ, Nat.mul_two] at hj
  have hg : fmul p g g % p = (g * g) % p := e_idem _ _
  have h1 : ∀ j, j < 2 ^ K → nth E j % p = sprZ K (fun i => nth l (2 * i)) (g * g) j % p := fun j hj => by
    rw [hE j hj]; exact sprZ_mod p K hg (fun i hi => by rw [evL_nth _ _ _ hi]) j hj
  have h2 : ∀ j, j < 2 ^ K → nth O j % p = sprZ K (fun i => nth l (2 * i + 1)) (g * g) j % p := fun j hj => by
    rw [hO j hj]; exact sprZ_mod p K hg (fun i hi => by rw [odL_nth _ _ _ hi]) j hj
  unfold outP
  rw [nth_map_range _ _ _ hj]
  simp only [sprZ]
  by_cases hlt : j < 2 ^ K
  · rw [if_pos hlt, if_pos hlt]
    simp only [fadd, fmul, e_idem]
    rw [ea_r]
    exact madd (h1 j hlt) (mmul (xp_mod p g j) (h2 j hlt))
  · rw [if_neg hlt, if_pos ⟨by omega, by omega⟩, if_neg hlt]
    simp only [fsub, fmul, e_idem]
    rw [es_r, Int.sub_emod, h1 _ (by omega), mmul (xp_mod p g _) (h2 _ (by omega)), ← Int.sub_emod]
end Go.Att
end
section
namespace Go.Att
open Go.RowKit
theorem drewN2 (w : World) (a b : Nat) : (w.drewN a).drewN b = w.drewN (a + b) := by simp [World.drewN, Nat.add_assoc]
theorem quo_back (r s : Nat) : (r : Int) / s * s = ((r - r % s : Nat) : Int) := by
  have h1 := Nat.mod_add_div r s
  have h2 := Nat.mod_le r s
  have h3 : r / s * s = r - r % s := by rw [Nat.mul_comm]; omega
  rw [← h3]; simp
theorem w64_in (n : Int) (h : -9223372036854775808 ≤ n ∧ n ≤ 9223372036854775807) : wrap64 n = n := by unfold wrap64; omega
theorem inv_step (r s : Nat) (hr : r ≤ 2147483647) : wrap64 ((r : Int) - wrap64 (wrap64 ((r : Int) / s) * s)) = ((r % s : Nat) : Int) := by
  have hq := quo_back r s
  have hle := Nat.mod_le r s
  have h1 : (r : Int) / s = ((r / s : Nat) : Int) := by simp
  have h2 := Nat.div_le_self r s
  rw [h1] at hq ⊢
  generalize r / s = q at *
  generalize r % s = m at *
  rw [w64_in (q : Int) (by omega), hq, w64_in ((r - m : Nat) : Int) (by omega), w64_in ((r : Int) - (r - m : Nat)) (by omega)]
  omega
end Go.Att
namespace Go.Proofs.YtnmjaddhbecopaaGreatDoor
open Go.RowKit Go.Att

set_option maxHeartbeats 1000000 in
theorem gcd_any (a b : Nat) (w : World) (ha : a ≤ 4611686018427387904) (hb : b ≤ 4611686018427387904) : Calls Tryz.prog 154 #[.int .i64 a, .int .i64 b] w fun e w' => e = .returned (.int .i64 (Nat.gcd a b : Nat)) ∧ ∃ m, w' = w.drewN m := by
  go_enter Tryz.func154, Tryz.ntmps154
  go_wp2
  go_loopw [0, 1] (fun x0 x1 wr => ∃ (x y m : Nat), x0 = .int .i64 x ∧ x1 = .int .i64 y ∧ x ≤ 4611686018427387904 ∧ y ≤ 4611686018427387904 ∧ Hid (Nat.gcd x y = Nat.gcd a b) ∧ wr = w.drewN m) (fun _ x1 _ => (intOf x1).toNat)
  case atStart => exact ⟨a, b, 0, rfl, rfl, ha, hb, Lib.hid rfl, rfl⟩
  case round =>
    obtain ⟨x, y, m, rfl, rfl, hx, hy, HG, rfl⟩ := hrel
    by_cases hy0 : 0 < y
    · have HS := Lib.hid (show Nat.gcd y (x % y) = Nat.gcd a b by rw [← HG.out, Nat.gcd_comm x y, Nat.gcd_rec y x, Nat.gcd_comm])
      have hlt := Nat.mod_lt x hy0
      have hc : ((x : Int) % (y : Int)) = ((x % y : Nat) : Int) := by simp
      have hy1 : (0 : Int) < y := by omega
      go_wp2_with fail
      go_quiet (fail)
      go_wp2_with fail
      go_roundw
      case rel => exact ⟨y, x % y, m + nq, rfl, by rw [← hc], hy, by omega, HS, drewN2 _ _ _⟩
      case measure => simp [intOf]; omega
    · obtain rfl : y = 0 := by omega
      have HF := Lib.hid (show x = Nat.gcd a b by rw [← HG.out, Nat.gcd_zero_right])
      go_wp2
      go_ret
      exact ⟨ret_int (by rw [← HF.out]), _, rfl⟩

set_option maxHeartbeats 1000000 in
theorem inverse_any (a n : Nat) (w : World) (hn : 0 < n) (ha : a ≤ 2147483647) (hb : n ≤ 2147483647) : Calls Tryz.prog 155 #[.int .i64 a, .int .i64 n] w fun e w' => (∃ r : Int, e = .returned (.int .i64 r)) ∧ ∃ m, w' = w.drewN m := by
  go_enter Tryz.func155, Tryz.ntmps155
  go_wp2
  go_loopw [5, 6, 7, 8, 9] (fun x5 x6 x7 x8 _ wr => ∃ (x y : Int) (r s m : Nat), x5 = .int .i64 x ∧ x6 = .int .i64 y ∧ x7 = .int .i64 r ∧ x8 = .int .i64 s ∧ r ≤ 2147483647 ∧ s ≤ 2147483647 ∧ wr = w.drewN m) (fun _ _ _ x8 _ _ => (intOf x8).toNat)
  case atStart => exact ⟨1, 0, a, n, 0, rfl, rfl, rfl, rfl, ha, hb, rfl⟩
  case round =>
    obtain ⟨x, y, r, s, m, rfl, rfl, rfl, rfl, hr, hs, rfl⟩ := hrel
    by_cases hs0 : 0 < s
    · have hlt := Nat.mod_lt r hs0
      have HQ := Lib.hid (inv_step r s hr)
      clear hlt
      go_wp2_with fail
      go_roundw
      case rel => exact ⟨y, _, s, r % s, m, rfl, rfl, rfl, congrArg (Value.int .i64) HQ.out, hs, Nat.le_trans (Nat.mod_le r s) hr, rfl⟩
      case measure =>
        rw [HQ.out]
        show ((r % s : Nat) : Int).toNat < (s : Int).toNat
        rw [Int.toNat_natCast, Int.toNat_natCast]
        exact Nat.mod_lt r hs0
    · obtain rfl : s = 0 := by omega
      go_wp2_with fail
      go_ret
      exact ⟨⟨_, rfl⟩, _, rfl⟩
end Go.Proofs.YtnmjaddhbecopaaGreatDoor
end
