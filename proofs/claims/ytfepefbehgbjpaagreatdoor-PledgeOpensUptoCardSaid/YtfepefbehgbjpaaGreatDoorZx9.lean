/- One word of several, the program's side: contract. The matrix of inverses 1 / (i + j + 8) can be undone: no pivot is 0. Plain laws. No program in sight. The greatest common divisor; what undoes a power: contracts. A word's coefficients are linear in the word; sums of rows by powers. Plain laws. No program in sight. Sums of rows by powers, the program's side: contracts. Words that are no codewords show: plain laws. By halves: the lists. Plain laws. No program in sight. By halves, the program's side: contract of spread. -/
import Derived.Test.YtfepefbehgbjpaaGreatDoorZx2
import Derived.Test.YtfepefbehgbjpaaGreatDoorZx8
import Derived.Deep.RegionHeld3
import Derived.Deep.DrawnRows
import Derived.Deep.RegionWith
section
/-! One word of several, the program's side: contract. -/
namespace Go.Att
open Go.RowKit
def col (L : List (List Int)) (i : Nat) : List Int := L.map fun l => nth l i
end Go.Att
namespace Go.Proofs.YtfepefbehgbjpaaGreatDoor
open Go.RowKit Go.Att

theorem slRows : SlT Tryz.prog 29 22 1 24 (.slice none 0 0) := .mk' Tryz.underlying29 (by kernel_rfl) (by decide)

end Go.Proofs.YtfepefbehgbjpaaGreatDoor
/-! One word of several, the program's side: the words that fit. -/
namespace Go.Proofs.YtfepefbehgbjpaaGreatDoor
open Go.RowKit Go.Att

end Go.Proofs.YtfepefbehgbjpaaGreatDoor
end
section
namespace Go.Att
def cA (x : Int) : Nat → Int
  | 0 => 1
  | i + 1 => cA x i * (x - i)
def cB (x : Int) : Nat → Int
  | 0 => 1
  | i + 1 => cB x i * (x + i + 8)
theorem pr_mul {p : Int} (hp : Pr p) {a b : Int} (ha : ¬ p ∣ a) (hb : ¬ p ∣ b) : ¬ p ∣ a * b := fun h => (hp.euclid h).elim ha hb
theorem pr_small {p a : Int} (h1 : 0 < a) (h2 : a < p) : ¬ p ∣ a := fun h => by have := Int.le_of_dvd h1 h; omega
theorem cA_unit {p : Int} (hp : Pr p) (h23 : 23 ≤ p) (x i : Nat) (hx : x < 8) (hi : i ≤ x) : ¬ p ∣ cA x i := by
  induction i with
  | zero => exact (pr_small (by decide) (by omega) : ¬ p ∣ (1 : Int))
  | succ i ih => exact pr_mul hp (ih (by omega)) (pr_small (by omega) (by omega))
theorem cB_unit {p : Int} (hp : Pr p) (h23 : 23 ≤ p) (x i : Nat) (hx : x < 8) (hi : i ≤ 8) : ¬ p ∣ cB x i := by
  induction i with
  | zero => exact (pr_small (by decide) (by omega) : ¬ p ∣ (1 : Int))
  | succ i ih => exact pr_mul hp (ih (by omega)) (pr_small (by omega) (by omega))
def Left (p : Int) (i : Nat) (m : Nat → Nat → Int) : Prop :=
  ∀ r j : Nat, i ≤ r → r < 8 → i ≤ j → j < 8 → (m r j * (((r : Int) + j + 8) * (cB r i * cB j i))) % p = (cA r i * cA j i) % p
theorem left_start {p : Int} (hp : Pr p) (h23 : 23 ≤ p) (m : Nat → Nat → Int) (h : ∀ r j : Nat, r < 8 → j < 8 → m r j = finv p ((r : Int) + j + 8)) : Left p 0 m := by
  intro r j _ hr _ hj
  rw [h r j hr hj]
  simp only [cA, cB, Int.mul_one]
  rw [finv_mul hp (pr_small (by omega) (by omega)), one_mod hp.two]
theorem left_pivot {p : Int} (hp : Pr p) (h23 : 23 ≤ p) {m : Nat → Nat → Int} {i : Nat} (hi : i < 8) (h : Left p i m) : ¬ p ∣ m i i := by
  intro hd
  have h1 := h i i (Nat.le_refl _) hi (Nat.le_refl _) hi
  have h2 : p ∣ m i i * (((i : Int) + i + 8) * (cB i i * cB i i)) := Int.dvd_mul_of_dvd_left hd
  rw [Int.emod_eq_zero_of_dvd h2] at h1
  have h3 : p ∣ cA i i * cA i i := Int.dvd_of_emod_eq_zero h1.symm
  exact pr_mul hp (cA_unit hp h23 i i hi (Nat.le_refl _)) (cA_unit hp h23 i i hi (Nat.le_refl _)) h3
theorem mod_cancel {p : Int} (hp : Pr p) {a b c : Int} (hc : ¬ p ∣ c) (h : (a * c) % p = (b * c) % p) : a % p = b % p := by
  have h1 := dvd_sub_of_mod_eq h
  rw [← Int.sub_mul] at h1
  exact mod_eq_of_dvd_sub ((hp.euclid h1).resolve_right hc)
theorem left_step {p : Int} (hp : Pr p) (h23 : 23 ≤ p) {m m' : Nat → Nat → Int} {i : Nat} (hi : i < 8) (h : Left p i m) (by_ : Int) (hby : (by_ * m i i) % p = 1 % p)
    (hm : ∀ r j : Nat, i < r → r < 8 → i < j → j < 8 → m' r j % p = (m r j - m r i * (m i j * by_)) % p) : Left p (i + 1) m' := by
  intro r j hr hr8 hj hj8
  have ha := h r j (by omega) hr8 (by omega) hj8
  have hb := h r i (by omega) hr8 (Nat.le_refl _) hi
  have hc := h i j (Nat.le_refl _) hi (by omega) hj8
  have hP := h i i (Nat.le_refl _) hi (Nat.le_refl _) hi
  have hu := cB_unit hp h23 i i hi (by omega)
  have hm' := hm r j (by omega) hr8 (by omega) hj8
  generalize m r j = a at *
  generalize m r i = b at *
  generalize m i j = c at *
  generalize m i i = P at *
  simp only [cA, cB]
  generalize cB (r : Int) i = Br at *
  generalize cB (j : Int) i = Bj at *
  generalize cB (i : Int) i = Bi at *
  generalize cA (r : Int) i = Ar at *
  generalize cA (j : Int) i = Aj at *
  generalize cA (i : Int) i = Ai at *
  generalize (r : Int) = r at *
  generalize (j : Int) = j at *
  generalize (i : Int) = i at *
  -- the pivot's part
  have e1 : (b * (c * by_) * ((r + j + 8) * ((Br * (r + i + 8)) * (Bj * (j + i + 8))))) % p = (Ar * Aj * ((i + i + 8) * (r + j + 8))) % p := by
    refine mod_cancel hp (pr_mul hp hu hu) ?_
    have s1 : b * (c * by_) * ((r + j + 8) * ((Br * (r + i + 8)) * (Bj * (j + i + 8)))) * (Bi * Bi) = (b * ((r + i + 8) * (Br * Bi))) * ((c * ((i + j + 8) * (Bi * Bj))) * (by_ * (r + j + 8))) := by grind
    have s2 : (Ar * Ai) * ((Ai * Aj) * (by_ * (r + j + 8))) = (Ai * Ai) * (Ar * Aj * (by_ * (r + j + 8))) := by grind
    have s3 : (P * ((i + i + 8) * (Bi * Bi))) * (Ar * Aj * (by_ * (r + j + 8))) = (by_ * P) * (Ar * Aj * ((i + i + 8) * (r + j + 8)) * (Bi * Bi)) := by grind
    rw [s1, mmul hb (mmul hc rfl), s2, ← mmul hP rfl, s3, mmul hby rfl, Int.one_mul]
  have e2 : (a * ((r + j + 8) * ((Br * (r + i + 8)) * (Bj * (j + i + 8))))) % p = (Ar * Aj * ((r + i + 8) * (j + i + 8))) % p := by
    have s1 : a * ((r + j + 8) * ((Br * (r + i + 8)) * (Bj * (j + i + 8)))) = (a * ((r + j + 8) * (Br * Bj))) * ((r + i + 8) * (j + i + 8)) := by grind
    rw [s1, mmul ha rfl]
  rw [mmul hm' rfl, Int.sub_mul, Int.sub_emod, e1, e2, ← Int.sub_emod]
  congr 1
  grind
end Go.Att
end
section
namespace Go.Att
open Go.RowKit
theorem drewN2 (w : World) (a b : Nat) : (w.drewN a).drewN b = w.drewN (a + b) := by simp [World.drewN, Nat.add_assoc]
theorem quo_back (r s : Nat) : (r : Int) / s * s = ((r - r % s : Nat) : Int) := by
  have h1 := Nat.mod_add_div r s
  have h2 := Nat.mod_le r s
  have h3 : r / s * s = r - r % s := by rw [Nat.mul_comm]; omega
  rw [← h3]; simp
theorem w64_in (n : Int) (h : -9223372036854775808 ≤ n ∧ n ≤ 9223372036854775807) : wrap64 n = n := by unfold wrap64; omega
theorem inv_step (r s : Nat) (hr : r ≤ 2147483647) : wrap64 ((r : Int) - wrap64 (wrap64 ((r : Int) / s) * s)) = ((r % s : Nat) : Int) := by
  have hq := quo_back r s
  have hle := Nat.mod_le r s
  have h1 : (r : Int) / s = ((r / s : Nat) : Int) := by simp
  have h2 := Nat.div_le_self r s
  rw [h1] at hq ⊢
  generalize r / s = q at *
  generalize r % s = m at *
  rw [w64_in (q : Int) (by omega), hq, w64_in ((r - m : Nat) : Int) (by omega), w64_in ((r : Int) - (r - m : Nat)) (by omega)]
  omega
end Go.Att
namespace Go.Proofs.YtfepefbehgbjpaaGreatDoor
open Go.RowKit Go.Att

set_option maxHeartbeats 1000000 in
theorem gcd_any (a b : Nat) (w : World) (ha : a ≤ 4611686018427387904) (hb : b ≤ 4611686018427387904) : Calls Tryz.prog 116 #[.int .i64 a, .int .i64 b] w fun e w' => e = .returned (.int .i64 (Nat.gcd a b : Nat)) ∧ ∃ m, w' = w.drewN m := by
  go_enter Tryz.func116, Tryz.ntmps116
  go_wp2
  go_loopw [0, 1] (fun x0 x1 wr => ∃ (x y m : Nat), x0 = .int .i64 x ∧ x1 = .int .i64 y ∧ x ≤ 4611686018427387904 ∧ y ≤ 4611686018427387904 ∧ Hid (Nat.gcd x y = Nat.gcd a b) ∧ wr = w.drewN m) (fun _ x1 _ => (intOf x1).toNat)
  case atStart => exact ⟨a, b, 0, rfl, rfl, ha, hb, Lib.hid rfl, rfl⟩
  case round =>
    obtain ⟨x, y, m, rfl, rfl, hx, hy, HG, rfl⟩ := hrel
    by_cases hy0 : 0 < y
    · have HS := Lib.hid (show Nat.gcd y (x % y) = Nat.gcd a b by rw [← HG.out, Nat.gcd_comm x y, Nat.gcd_rec y x, Nat.gcd_comm])
      have hlt := Nat.mod_lt x hy0
      have hc : ((x : Int) % (y : Int)) = ((x % y : Nat) : Int) := by simp
      have hy1 : (0 : Int) < y := by omega
      go_wp2_with fail
      go_quiet (fail)
      go_wp2_with fail
      go_roundw
      case rel => exact ⟨y, x % y, m + nq, rfl, by rw [← hc], hy, by omega, HS, drewN2 _ _ _⟩
      case measure => simp [intOf]; omega
    · obtain rfl : y = 0 := by omega
      have HF := Lib.hid (show x = Nat.gcd a b by rw [← HG.out, Nat.gcd_zero_right])
      go_wp2
      go_ret
      exact ⟨ret_int (by rw [← HF.out]), _, rfl⟩

set_option maxHeartbeats 1000000 in
theorem inverse_any (a n : Nat) (w : World) (hn : 0 < n) (ha : a ≤ 2147483647) (hb : n ≤ 2147483647) : Calls Tryz.prog 117 #[.int .i64 a, .int .i64 n] w fun e w' => (∃ r : Int, e = .returned (.int .i64 r)) ∧ ∃ m, w' = w.drewN m := by
  go_enter Tryz.func117, Tryz.ntmps117
  go_wp2
  go_loopw [5, 6, 7, 8, 9] (fun x5 x6 x7 x8 _ wr => ∃ (x y : Int) (r s m : Nat), x5 = .int .i64 x ∧ x6 = .int .i64 y ∧ x7 = .int .i64 r ∧ x8 = .int .i64 s ∧ r ≤ 2147483647 ∧ s ≤ 2147483647 ∧ wr = w.drewN m) (fun _ _ _ x8 _ _ => (intOf x8).toNat)
  case atStart => exact ⟨1, 0, a, n, 0, rfl, rfl, rfl, rfl, ha, hb, rfl⟩
  case round =>
    obtain ⟨x, y, r, s, m, rfl, rfl, rfl, rfl, hr, hs, rfl⟩ := hrel
    by_cases hs0 : 0 < s
    · have hlt := Nat.mod_lt r hs0
      have HQ := Lib.hid (inv_step r s hr)
      clear hlt
      go_wp2_with fail
      go_roundw
      case rel => exact ⟨y, _, s, r % s, m, rfl, rfl, rfl, congrArg (Value.int .i64) HQ.out, hs, Nat.le_trans (Nat.mod_le r s) hr, rfl⟩
      case measure =>
        rw [HQ.out]
        show ((r % s : Nat) : Int).toNat < (s : Int).toNat
        rw [Int.toNat_natCast, Int.toNat_natCast]
        exact Nat.mod_lt r hs0
    · obtain rfl : s = 0 := by omega
      go_wp2_with fail
      go_ret
      exact ⟨⟨_, rfl⟩, _, rfl⟩
end Go.Proofs.YtfepefbehgbjpaaGreatDoor
end
section
namespace Go.Att
def sprZ : Nat → (Nat → Int) → Int → Nat → Int
  | 0, a, _, j => a j
  | k + 1, a, g, j =>
    if j < 2 ^ k then sprZ k (fun i => a (2 * i)) (g * g) j + g ^ j * sprZ k (fun i => a (2 * i + 1)) (g * g) j
    else sprZ k (fun i => a (2 * i)) (g * g) (j - 2 ^ k) - g ^ (j - 2 ^ k) * sprZ k (fun i => a (2 * i + 1)) (g * g) (j - 2 ^ k)
theorem sprZ_mod (p : Int) (k : Nat) {a b : Nat → Int} {g g' : Int} (hg : g % p = g' % p) (h : ∀ i, i < 2 ^ k → a i % p = b i % p) (j : Nat) (hj : j < 2 ^ k) : sprZ k a g j % p = sprZ k b g' j % p := by
  induction k generalizing a b g g' j with
  | zero => exact h j hj
  | succ k ih =>
    rw [Nat.pow_succ] at h hj
    have hgg : (g * g) % p = (g' * g') % p := mmul hg hg
    have e1 := fun j hj => ih hgg (a := fun i => a (2 * i)) (b := fun i => b (2 * i)) (fun i hi => h _ (by omega)) j hj
    have e2 := fun j hj => ih hgg (a := fun i => a (2 * i + 1)) (b := fun i => b (2 * i + 1)) (fun i hi => h _ (by omega)) j hj
    have hpw : ∀ n : Nat, g ^ n % p = g' ^ n % p := fun n => by rw [← pow_mod p g n, hg, pow_mod]
    simp only [sprZ]
    split
    · exact madd (e1 j (by assumption)) (mmul (hpw _) (e2 j (by assumption)))
    · rw [Int.sub_emod, e1 _ (by omega), mmul (hpw _) (e2 _ (by omega)), ← Int.sub_emod]
end Go.Att
end
section
namespace Go.Att
open Go.RowKit
end Go.Att
namespace Go.Proofs.YtfepefbehgbjpaaGreatDoor
open Go.RowKit Go.Att

end Go.Proofs.YtfepefbehgbjpaaGreatDoor
end
section
namespace Go.Att
def cz (K : Nat) (g : Int) (wt : Nat → Int) (word : List Int) (j : Nat) : Int := sprZ K (nth word) g j * wt j
def CW (p : Int) (K k : Nat) (g : Int) (wt : Nat → Int) (word : List Int) : Prop := ∀ j, k ≤ j → j < 2 ^ K → cz K g wt word j % p = 0
end Go.Att
end
section
namespace Go.Att
def evL (l : List Int) (n : Nat) : List Int := (List.range n).map fun i => nth l (2 * i)
def odL (l : List Int) (n : Nat) : List Int := (List.range n).map fun i => nth l (2 * i + 1)
theorem evL_length (l : List Int) (n : Nat) : (evL l n).length = n := by simp [evL]
theorem odL_length (l : List Int) (n : Nat) : (odL l n).length = n := by simp [odL]
theorem evL_nth (l : List Int) (n i : Nat) (h : i < n) : nth (evL l n) i = nth l (2 * i) := nth_map_range _ _ _ h
theorem odL_nth (l : List Int) (n i : Nat) (h : i < n) : nth (odL l n) i = nth l (2 * i + 1) := nth_map_range _ _ _ h
theorem evL_succ (l : List Int) (n : Nat) : evL l (n + 1) = evL l n ++ [nth l (2 * n)] := by unfold evL; rw [List.range_succ]; simp
theorem odL_succ (l : List Int) (n : Nat) : odL l (n + 1) = odL l n ++ [nth l (2 * n + 1)] := by unfold odL; rw [List.range_succ]; simp
def xp (p g : Int) : Nat → Int
  | 0 => 1
  | j + 1 => fmul p (xp p g j) g
theorem xp_mod (p g : Int) (j : Nat) : xp p g j % p = g ^ j % p := by
  induction j with
  | zero => simp [xp]
  | succ j ih => simp only [xp, fmul, e_idem, Int.pow_succ]; exact mmul ih rfl
def outP (p g : Int) (E O : List Int) (h i : Nat) : List Int := (List.range (h + h)).map fun j =>
  if j < i then fadd p (nth E j) (fmul p (xp p g j) (nth O j)) else if h ≤ j ∧ j < h + i then fsub p (nth E (j - h)) (fmul p (xp p g (j - h)) (nth O (j - h))) else 0
theorem outP_length (p g : Int) (E O : List Int) (h i : Nat) : (outP p g E O h i).length = h + h := by simp [outP]
theorem outP_set (p g : Int) (E O : List Int) (h i : Nat) (hi : i < h) : (((outP p g E O h i).set i (fadd p (nth E i) (fmul p (xp p g i) (nth O i)))).set (h + i) (fsub p (nth E i) (fmul p (xp p g i) (nth O i)))) = outP p g E O h (i + 1) := by
  apply List.ext_getElem (by simp [outP])
  intro j h1 h2
  have hj : j < h + h := by simpa [outP] using h2
  rw [List.getElem_set, List.getElem_set]
  simp only [outP, List.getElem_map, List.getElem_range]
  by_cases e1 : h + i = j
  · subst e1
    rw [if_pos rfl, if_neg (by omega), if_pos ⟨by omega, by omega⟩, show h + i - h = i by omega]
  · rw [if_neg e1]
    by_cases e2 : i = j
    · subst e2; rw [if_pos rfl, if_pos (by omega)]
    · rw [if_neg e2]
      by_cases e3 : j < i
      · rw [if_pos e3, if_pos (show j < i + 1 by omega)]
      · rw [if_neg e3, if_neg (show ¬ j < i + 1 by omega)]
        by_cases e4 : h ≤ j ∧ j < h + i
        · rw [if_pos e4, if_pos (show h ≤ j ∧ j < h + (i + 1) by omega)]
        · rw [if_neg e4, if_neg (show ¬ (h ≤ j ∧ j < h + (i + 1)) by omega)]
theorem outP_zero (p g : Int) (E O : List Int) (h : Nat) : outP p g E O h 0 = List.replicate (h + h) 0 := by
  unfold outP
  apply List.ext_getElem (by simp)
  intro i h1 h2
  simp; omega
theorem out_fin (p g : Int) (l E O : List Int) (K : Nat) (hE : ∀ j, j < 2 ^ K → nth E j % p = sprZ K (nth (evL l (2 ^ K))) (fmul p g g) j % p) (hO : ∀ j, j < 2 ^ K → nth O j % p = sprZ K (nth (odL l (2 ^ K))) (fmul p g g) j % p) :
    ∀ j, j < 2 ^ (K + 1) → nth (outP p g E O (2 ^ K) (2 ^ K)) j % p = sprZ (K + 1) (nth l) g j % p := by
  intro j hj
  rw [Nat.pow_succ, Nat.mul_two] at hj
  have hg : fmul p g g % p = (g * g) % p := e_idem _ _
  have h1 : ∀ j, j < 2 ^ K → nth E j % p = sprZ K (fun i => nth l (2 * i)) (g * g) j % p := fun j hj => by
    rw [hE j hj]; exact sprZ_mod p K hg (fun i hi => by rw [evL_nth _ _ _ hi]) j hj
  have h2 : ∀ j, j < 2 ^ K → nth O j % p = sprZ K (fun i => nth l (2 * i + 1)) (g * g) j % p := fun j hj => by
    rw [hO j hj]; exact sprZ_mod p K hg (fun i hi => by rw [odL_nth _ _ _ hi]) j hj
  unfold outP
  rw [nth_map_range _ _ _ hj]
  simp only [sprZ]
  by_cases hlt : j < 2 ^ K
  · rw [if_pos hlt, if_pos hlt]
    simp only [fadd, fmul, e_idem]
    rw [ea_r]
    exact madd (h1 j hlt) (mmul (xp_mod p g j) (h2 j hlt))
  · rw [if_neg hlt, if_pos ⟨by omega, by omega⟩, if_neg hlt]
    simp only [fsub, fmul, e_idem]
    rw [es_r, Int.sub_emod, h1 _ (by omega), mmul (xp_mod p g _) (h2 _ (by omega)), ← Int.sub_emod]
end Go.Att
end
section
namespace Go.Att
open Go.RowKit
def Spr (p : Int) (K : Nat) (l : List Int) (g : Int) (w : World) (va : Value) (e : TypeId) (u : Value) (w' : World) : Prop :=
  ∃ L : List Int, Ints w' u L ∧ L.length = 2 ^ K ∧ (∀ j, j < 2 ^ K → nth L j % p = sprZ K (nth l) g j % p) ∧ ((K = 0 ∧ u = va ∧ L = l) ∨ (1 ≤ K ∧ w'.ownsRow w.heap.size e 1 u (2 ^ K) (L.map (Value.int .i64)) ∧ ∀ j, j < 2 ^ K → 0 ≤ nth L j ∧ nth L j < p))
theorem outP_bd {p : Int} (hp : 2 ≤ p) (g : Int) (E O : List Int) (h : Nat) : ∀ j, j < h + h → 0 ≤ nth (outP p g E O h h) j ∧ nth (outP p g E O h h) j < p := by
  intro j hj
  unfold outP
  rw [nth_map_range _ _ _ hj]
  split
  · exact fadd_bd hp _ _
  · rw [if_pos ⟨by omega, by omega⟩]; exact fsub_bd hp _ _
theorem own_grown9 {w w' : World} {B e sz n : Nat} {v : Value} {xs : List Value} {r : Option Nat} (h : w.ownsRow B e sz v n xs) (hg : w.grownBy w' r) (hne : ∀ k, v.ownBlock = some k → some k ≠ r) : w'.ownsRow B e sz v n xs := by
  refine ⟨h.1, ?_⟩
  rcases h.2 with h2 | ⟨g, cap, cur, hv, hb, hgt, hr⟩
  · exact .inl h2
  · exact .inr ⟨g, cap, cur, hv, hb, by rw [hg.block g (Array.getElem?_eq_some_iff.1 hgt).1 (hne g (by rw [hv]; rfl))]; exact hgt, hr⟩
theorem own_base {w : World} {B B' e sz n : Nat} {v : Value} {xs : List Value} (h : w.ownsRow B e sz v n xs) (hb : B' ≤ B) : w.ownsRow B' e sz v n xs := by
  refine ⟨h.1, ?_⟩
  rcases h.2 with h2 | ⟨g, cap, cur, hv, hbg, hr⟩
  · exact .inl h2
  · exact .inr ⟨g, cap, cur, hv, Nat.le_trans hb hbg, hr⟩
end Go.Att
namespace Go.Proofs.YtfepefbehgbjpaaGreatDoor
open Go.RowKit Go.Att
attribute [local go_sem ↓] Go.wp_at_zero Go.wp_at_succ

set_option maxRecDepth 100000 in
set_option maxHeartbeats 2000000 in
theorem spread_any (K : Nat) : ∀ (w : World) (d : Value) (bf : Nat) (p g0 n sh r : Int) (fs : List Int) (_ : DomOf w d (.pointer (some ⟨bf, 0, none⟩)) n sh r) (_ : Fld w (.pointer (some ⟨bf, 0, none⟩)) p g0 fs) (va : Value) (l : List Int) (g : Int), Ints w va l → l.length = 2 ^ K → K ≤ 17 →
    Calls Tryz.prog 125 #[d, va, .int .i64 g] w (Gives w fun u w' => Spr p K l g w va 3 u w') := by
  induction K with
  | zero =>
    intro w d bf p g0 n sh r fs hd hf va l g hl hlen _
    have hll := hl.run_len (P := Tryz.prog) slInts
    rw [hlen] at hll
    rw [show ((2 ^ 0 : Nat) : Int) = 1 from rfl] at hll
    have HL := Lib.hid hl; have HLEN := Lib.hid hlen
    clear hl hd hf hlen
    go_enter Tryz.func125, Tryz.ntmps125
    go_wp2_with fail
    go_ret
    exact .mk _ rfl (Ext.refl _) ⟨l, HL.out, HLEN.out, fun j _ => rfl, .inl ⟨rfl, rfl, rfl⟩⟩
  | succ K ih =>
    intro w d bf p g0 n sh r fs hd hf va l g hl hlen hK
    have hll := hl.run_len (P := Tryz.prog) slInts
    have hp1 : 1 ≤ 2 ^ K := Nat.one_le_two_pow
    have hp2 : 2 ^ K ≤ 65536 := by
      have e1 : 2 ^ K ≤ 2 ^ 16 := Nat.pow_le_pow_right (by decide) (by omega)
      have e2 : (2 : Nat) ^ 16 = 65536 := by decide
      omega
    rw [Nat.pow_succ, Nat.mul_two] at hlen
    rw [hlen] at hll
    have HL := Lib.hid hl; have HD := Lib.hid hd; have C := Lib.hid hf; have HIH := Lib.hid ih
    obtain ⟨h, hh⟩ : ∃ h, 2 ^ K = h := ⟨_, rfl⟩
    rw [hh] at hlen hll hp1 hp2
    obtain ⟨n, hn⟩ : ∃ n, h + h = n := ⟨_, rfl⟩
    rw [hn] at hlen hll
    have hn1 : h + h ≤ n := by omega
    have hn2 : n ≤ h + h := by omega
    have HH := Lib.hid hh; have HLEN := Lib.hid hlen; have HNN := Lib.hid hn
    obtain ⟨b, rfl⟩ := hd.ptr
    clear hl hd hf hlen hh ih hn
    have hb : ((n : Int) == 1) = false := by rw [beq_eq_false_iff_ne]; omega
    go_enter Tryz.func125, Tryz.ntmps125
    go_wp2_with fail
    go_loopw [8, 9, 10, 11, 24] (fun x8 x9 _ _ x24 wr => ∃ i : Nat, i ≤ n ∧ x24 = .int .i64 i ∧ wr.ownsRow w.heap.size 3 1 x8 ((i + 1) / 2) ((evL l ((i + 1) / 2)).map (Value.int .i64)) ∧ wr.ownsRow w.heap.size 3 1 x9 (i / 2) ((odL l (i / 2)).map (Value.int .i64)) ∧ (∀ k, x8.ownBlock = some k → some k ≠ x9.ownBlock) ∧ Ext w wr) (fun _ _ _ _ x24 _ => n - (intOf x24).toNat)
    case atStart => exact ⟨0, Nat.zero_le _, rfl, World.ownsRow_nil _ _ _ _, World.ownsRow_nil _ _ _ _, fun k hk => (by cases hk), Ext.refl _⟩
    case round =>
      obtain ⟨i, hi, rfl, HO8, HO9, HNE, HX⟩ := hrel
      by_cases hlt : i < n
      · have hix := HL.out.run_index (P := Tryz.prog) slInts i (by rw [HLEN.out]; exact hlt)
        have hc := (HL.out.ext HX).cell i (by rw [HLEN.out]; exact hlt)
        rcases Nat.mod_two_eq_zero_or_one i with hm | hm
        · obtain ⟨q, hq⟩ : ∃ q, i = 2 * q := ⟨i / 2, by omega⟩
          have h1 : (i + 1) / 2 = q := by omega
          have h2 : i / 2 = q := by omega
          rw [h1] at HO8
          rw [h2] at HO9
          have hmb : ((i : Int) % 2 == 0) = true := by rw [beq_iff_eq]; omega
          have ST := Lib.hid (show (evL l (q + 1)).map (Value.int .i64) = (evL l q).map (Value.int .i64) ++ [.int .i64 (nth l i)] by rw [evL_succ, hq]; simp)
          have HQ := Lib.hid (show (i + 1 + 1) / 2 = q + 1 by omega)
          have HQ1 := Lib.hid h1
          have hq32 : q ≤ 65536 := by omega
          clear hq h1 h2 hm
          go_wp2_with (at_builtin; refine wpList_appNw rfl _ _ 22 rfl slInts rfl HX.size HO8 rfl _ rfl (by intro u hu; simp at hu; subst hu; rfl) rfl (by omega) (by omega) ?_; intro v' w7 HO7 HG7 HM7)
          have HO9' := own_grown9 HO9 HG7 (fun k hk hc => HNE k hc.symm hk.symm)
          go_roundw
          case rel => exact ⟨i + 1, by omega, by go_num, by rw [HQ.out, ST.out]; exact HO7, by rw [HQ1.out]; exact HO9', (fun k hk hc => by
            rcases HM7 with h | h
            · exact HNE k (h ▸ hk) hc
            · have e1 := h k hk
              have e2 := (HO9.lt k hc.symm).2
              omega), Ext.own_grown HX HO8 HG7⟩
          case measure => simp [intOf]; omega
        · obtain ⟨q, hq⟩ : ∃ q, i = 2 * q + 1 := ⟨i / 2, by omega⟩
          have h1 : (i + 1) / 2 = q + 1 := by omega
          have h2 : i / 2 = q := by omega
          rw [h1] at HO8
          rw [h2] at HO9
          have hmb : ((i : Int) % 2 == 0) = false := by rw [beq_eq_false_iff_ne]; omega
          have ST := Lib.hid (show (odL l (q + 1)).map (Value.int .i64) = (odL l q).map (Value.int .i64) ++ [.int .i64 (nth l i)] by rw [odL_succ, hq]; simp)
          have HQ := Lib.hid (show (i + 1 + 1) / 2 = q + 1 by omega)
          have HQ1 := Lib.hid h1
          have hq32 : q ≤ 65536 := by omega
          clear hq h1 h2 hm
          go_wp2_with (at_builtin; refine wpList_appNw rfl _ _ 22 rfl slInts rfl HX.size HO9 rfl _ rfl (by intro u hu; simp at hu; subst hu; rfl) rfl (by omega) (by omega) ?_; intro v' w7 HO7 HG7 HM7)
          have HO8' := own_grown9 HO8 HG7 (fun k hk hc => HNE k hk hc)
          go_roundw
          case rel => exact ⟨i + 1, by omega, by go_num, by rw [HQ.out]; exact HO8', by rw [HQ1.out, ST.out]; exact HO7, (fun k hk hc => by
            rcases HM7 with h | h
            · exact HNE k hk (hc.trans h)
            · have e1 := h k hc.symm
              have e2 := (HO8.lt k hk).2
              omega), Ext.own_grown HX HO9 HG7⟩
          case measure => simp [intOf]; omega
      · have hin : i = n := by omega
        clear hlt hi
        subst hin
        rw [show (i + 1) / 2 = h by omega] at HO8
        rw [show i / 2 = h by omega] at HO9
        have I8 := Ints.of_own HO8
        have I9 := Ints.of_own HO9
        obtain ⟨bb, hbb, d1, d2, d3, d4⟩ := (HD.out.ext HX)
        obtain rfl : b = bb := by simpa using hbb
        clear hbb HO8 HO9 HNE
        go_wp2_with (go_at_call 79; refine (mul_any (C.out.ext HX) _ _).mono ?_; rintro e w3 hrd; obtain ⟨rfl, hx3⟩ := hrd.ext; clear hrd)
        replace I8 := I8.ext hx3
        replace I9 := I9.ext hx3
        replace hx3 := HX.trans hx3
        refine (HIH.out _ _ bf p g0 n sh r fs (HD.out.ext hx3) (C.out.ext hx3) _ (evL l h) (fmul p g g) I8 (by rw [evL_length]; exact HH.out.symm) (by omega)).mono ?_
        rintro e w4 ⟨u4, rfl, hx4, E, hI4, hl4, hm4, -⟩
        replace I9 := I9.ext hx4
        replace hx4 := hx3.trans hx4
        go_wp2_with fail
        refine (HIH.out _ _ bf p g0 n sh r fs (HD.out.ext hx4) (C.out.ext hx4) _ (odL l h) (fmul p g g) I9 (by rw [odL_length]; exact HH.out.symm) (by omega)).mono ?_
        rintro e w5 ⟨u5, rfl, hx5, O, hI5, hl5, hm5, -⟩
        have HI4 := Lib.hid (hI4.ext hx5); have HI5 := Lib.hid hI5
        have HM4 := Lib.hid hm4; have HM5 := Lib.hid hm5
        have HL4 := Lib.hid (hl4.trans HH.out); have HL5 := Lib.hid (hl5.trans HH.out)
        replace hx5 := hx4.trans hx5
        clear I8 I9 hI4 hI5 hm4 hm5 hl4 hl5 hx3 hx4 d1 d2 d3 d4
        go_wp2_with (refine wpList_mkn rfl _ _ 22 rfl slInts (Ext.refl w5) rfl rfl (by omega) (by omega) (by omega) ?_; intro v6 w6 HO6 HX6 _; rw [Int.toNat_natCast, show i = h + h by omega] at HO6)
        have HO6z : w6.ownsRow w5.heap.size 3 1 v6 (h + h) ((outP p g E O h 0).map (Value.int .i64)) := by
          rw [outP_zero]
          have e1 : (madeCells (Value.cells (.int .i64 0)) ((h + h) * 1)).toList = (List.replicate (h + h) (0 : Int)).map (Value.int .i64) := by simp [madeCells, Value.cells, Nat.mod_one, List.map_const']
          rw [← e1]; exact HO6
        clear HO6
        rw [show (i : Int) / 2 = h by omega]
        have HX5 := Lib.hid hx5
        clear hx5
        go_loopw [14, 15, 16, 60] (fun x14 _ _ x60 wr => ∃ j : Nat, j ≤ h ∧ x60 = .int .i64 j ∧ x14 = .int .i64 (xp p g j) ∧ wr.ownsRow w5.heap.size 3 1 v6 (h + h) ((outP p g E O h j).map (Value.int .i64)) ∧ Ext w5 wr) (fun _ _ _ x60 _ => h - (intOf x60).toNat)
        case atStart => exact ⟨0, Nat.zero_le _, rfl, rfl, HO6z, HX6⟩
        case round =>
          obtain ⟨j, hj, rfl, rfl, HOJ, HXJ⟩ := hrel
          have hxw := HX5.out.trans HXJ
          by_cases hjl : j < h
          · have hix5 := HI5.out.run_index (P := Tryz.prog) slInts j (by rw [HL5.out]; exact hjl)
            have hc5 := (HI5.out.ext HXJ).cell j (by rw [HL5.out]; exact hjl)
            have hix4 := HI4.out.run_index (P := Tryz.prog) slInts j (by rw [HL4.out]; exact hjl)
            have hc4 := (HI4.out.ext HXJ).cell j (by rw [HL4.out]; exact hjl)
            obtain ⟨bb, hbb, d1, -, -, -⟩ := (HD.out.ext hxw)
            obtain rfl : b = bb := by simpa using hbb
            have HF := Lib.hid (C.out.ext hxw)
            clear hbb
            go_wp2_with fail
            go_quiet ((go_at_call 79; exact mul_q HF.out _ _ _))
            have e1 := (Ext.drewN wr nq).cell d1
            have e4 := (Ext.drewN wr nq).cell hc4
            have HOJ2 := own_ext HOJ (Ext.drewN wr nq)
            have HXJ2 := HXJ.trans (Ext.drewN wr nq)
            have HF2 := Lib.hid (HF.out.ext (Ext.drewN wr nq))
            clear d1 hc4 hc5 hix5
            generalize wr.drewN nq = w7 at *
            have hio := Ints.of_own HOJ2
            have hjA : j < (outP p g E O h j).length := by rw [outP_length]; omega
            have hjB : j + h < (outP p g E O h j).length := by rw [outP_length]; omega
            have hixA := hio.run_index (P := Tryz.prog) slInts j hjA
            have hixB := hio.run_index (P := Tryz.prog) slInts (j + h) hjB
            rw [show ((j + h : Nat) : Int) = (j : Int) + h by omega] at hixB
            have hA := hio.cell j hjA
            have hB := hio.cell (j + h) hjB
            have b1 : b < w5.heap.size := by
              obtain ⟨bb, hbb, d9, -, -, -⟩ := (HD.out.ext HX5.out)
              obtain rfl : b = bb := by simpa using hbb
              exact World.block_lt_of_cell? w5 _ d9
            have b2 : (elt u4 j 1).block < w5.heap.size := World.block_lt_of_cell? w5 _ (HI4.out.cell j (by rw [HL4.out]; exact hjl))
            obtain ⟨hfA, hfB, hne, hn1, hn2, hn3, hn4⟩ : w7.frozen? (elt v6 j 1) = false ∧ w7.frozen? (elt v6 (j + h) 1) = false ∧ elt v6 j 1 ≠ elt v6 (j + h) 1 ∧ elt v6 j 1 ≠ ⟨b, 0, none⟩ ∧ elt v6 j 1 ≠ elt u4 j 1 ∧ elt v6 (j + h) 1 ≠ ⟨b, 0, none⟩ ∧ elt v6 (j + h) 1 ≠ elt u4 j 1 := by
              obtain ⟨gb, cap, cur, hv, hb2, hg, hn', hm', hs', htk, he⟩ := elt_own HOJ2 (show j < h + h by omega)
              obtain ⟨gb2, cap2, cur2, hv2, hb22, hg2, hn2', hm2', hs2', htk2, he2⟩ := elt_own HOJ2 (show j + h < h + h by omega)
              refine ⟨?_, ?_, ?_, ?_, ?_, ?_, ?_⟩
              · rw [he]; simp [World.frozen?, hg]
              · rw [he2]; simp [World.frozen?, hg2]
              · rw [he, he2]; simp
              · rw [he]; intro hc; have := congrArg Addr.block hc; simp at this; omega
              · rw [he]; intro hc; have := congrArg Addr.block hc; simp at this; omega
              · rw [he2]; intro hc; have := congrArg Addr.block hc; simp at this; omega
              · rw [he2]; intro hc; have := congrArg Addr.block hc; simp at this; omega
            have hdv : (i : Int) / 2 = h := by omega
            have hj0 : (0 : Int) ≤ (j : Int) + h := by omega
            have ht0 : ((j : Int) + h).toNat = j + h := by omega
            have ht1 : ((i : Nat) : Int).tdiv 2 = h := by rw [Int.tdiv_eq_ediv_of_nonneg (by omega)]; exact hdv
            have ht2 : IntKind.i64.wrap (h : Int) = h := IntWalk.i64_in _ (by omega)
            have ht3 : IntKind.i64.wrap ((j : Int) + h) = (j : Int) + h := IntWalk.i64_in _ (by omega)
            have HIO := Lib.hid hio; clear hio hjA hjB
            go_wp2_with fail
            go_region_held3 (fun w' => w'.cell? ⟨b, 0, none⟩ = some (.pointer (some ⟨bf, 0, none⟩)) ∧ w'.cell? (elt u4 j 1) = some (.int .i64 (nth E j))) (first | go_keep | (refine ⟨?_, ?_⟩ <;> (first | (rw [World.cell?_setCell_other _ _ _ _ hn1]; go_keep) | (rw [World.cell?_setCell_other _ _ _ _ hn2]; go_keep) | (rw [World.cell?_setCell_other _ _ _ _ hn3]; go_keep) | (rw [World.cell?_setCell_other _ _ _ _ hn4]; go_keep)))) (first | (go_at_call 78; (first | refine (add_any (HF2.out.ext (Ext.drew w7)) _ _).mono ?_ | refine (add_any (HF2.out.ext (Ext.drewN w7 _)) _ _).mono ?_); rintro e w' ⟨rfl, m1, rfl⟩) | (go_at_call 82; (first | refine (sub_any (HF2.out.ext (Ext.drew w7)) _ _).mono ?_ | refine (sub_any (HF2.out.ext (Ext.drewN w7 _)) _ _).mono ?_); rintro e w' ⟨rfl, m2, rfl⟩))
            have HW : ((((w7.drewN (1 + m1 + m2)).setCell (elt v6 j 1) (.int .i64 (fadd p (nth E j) (fmul p (xp p g j) (nth O j))))).setCell (elt v6 (j + h) 1) (.int .i64 (fsub p (nth E j) (fmul p (xp p g j) (nth O j)))))).ownsRow w5.heap.size 3 1 v6 (h + h) ((outP p g E O h (j + 1)).map (Value.int .i64)) ∧ Ext w5 ((((w7.drewN (1 + m1 + m2)).setCell (elt v6 j 1) (.int .i64 (fadd p (nth E j) (fmul p (xp p g j) (nth O j))))).setCell (elt v6 (j + h) 1) (.int .i64 (fsub p (nth E j) (fmul p (xp p g j) (nth O j)))))) := by
              obtain ⟨gb, cap, cur, hv, hb2, hg, hn', hm', hs', htk, he⟩ := elt_own HOJ2 (show j < h + h by omega)
              obtain ⟨gb2, cap2, cur2, hv2, hb22, hg2, hn2', hm2', hs2', htk2, he2⟩ := elt_own HOJ2 (show j + h < h + h by omega)
              have hgb : gb2 = gb := by rw [hv] at hv2; simp at hv2; exact hv2.1.symm
              subst hgb
              rw [he, he2, Nat.mul_one, Nat.mul_one, ← outP_set p g E O h j hjl, hv, List.map_set, List.map_set, Nat.add_comm h j]
              have O1 := own_ext HOJ2 (Ext.drewN w7 (1 + m1 + m2))
              rw [hv] at O1
              exact ⟨((O1.stored j _).1.stored (j + h) _).1, ((HXJ2.trans (Ext.drewN w7 (1 + m1 + m2))).below.setCell hb2 _).setCell hb2 _⟩
            have c8 := (‹_ ∧ _› : _ ∧ _).1
            obtain ⟨HO8, HX8⟩ := HW
            generalize ((((w7.drewN (1 + m1 + m2)).setCell (elt v6 j 1) (.int .i64 (fadd p (nth E j) (fmul p (xp p g j) (nth O j))))).setCell (elt v6 (j + h) 1) (.int .i64 (fsub p (nth E j) (fmul p (xp p g j) (nth O j)))))) = w8 at *
            have HF8 := Lib.hid (C.out.ext (HX5.out.trans HX8))
            obtain ⟨bb, hbb, d8, -, -, -⟩ := (HD.out.ext (HX5.out.trans HX8))
            obtain rfl : b = bb := by simpa using hbb
            clear hbb hixA hixB hA hB hfA hfB hne hn1 hn2 hn3 hn4 hdv hj0 ht0 ht1 ht2 ht3 HIO e1 e4 hix4 HF2 HOJ HOJ2
            go_wp2_with (go_at_call 79; refine (mul_any HF8.out _ _).mono ?_; rintro e w9 hrd; obtain ⟨rfl, hx9⟩ := hrd.ext; clear hrd)
            go_roundw
            case rel => exact ⟨j + 1, by omega, by go_num, rfl, own_ext HO8 hx9, HX8.trans hx9⟩
            case measure => simp [intOf]; omega
          · obtain rfl : j = h := by omega
            go_wp2_with fail
            go_ret
            have HO := own_ext HOJ (Ext.refl _)
            refine .mk _ rfl hxw ⟨outP p g E O j j, Ints.of_own HOJ, by rw [outP_length, Nat.pow_succ, HH.out]; omega, ?_,   .inr ⟨by omega, ?_, ?_⟩⟩
            · have := HH.out; subst this
              exact out_fin p g l E O K HM4.out HM5.out
            · rw [Nat.pow_succ, HH.out, Nat.mul_two]; exact own_base HOJ HX5.out.size
            · rw [Nat.pow_succ, HH.out, Nat.mul_two]; exact outP_bd C.out.two g E O j
end Go.Proofs.YtfepefbehgbjpaaGreatDoor
end
