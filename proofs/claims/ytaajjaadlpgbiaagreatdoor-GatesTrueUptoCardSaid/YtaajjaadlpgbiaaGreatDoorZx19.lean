/- What is so is shown: the plain law: what Make tells, Check takes. No program in sight. GatesTrue: what is so is shown, outright: the law's walk: for every input it returns true and leaves all that was there as it was. -/
import Derived.Test.YtaajjaadlpgbiaaGreatDoorZx17
import Derived.Test.YtaajjaadlpgbiaaGreatDoorGatesChecks
import Derived.Test.YtaajjaadlpgbiaaGreatDoorGg
section
namespace Go.Att
open Go.RowKit
theorem wgt_mid (s u : List Int) (b : Int) (i : Nat) : wgt (s ++ b :: u) i = (1 - b) * wgt (s ++ 0 :: u) i + b * wgt (s ++ 1 :: u) i := by
  induction s with
  | nil => exact wgt_aff u i b
  | cons r s ih =>
    simp only [List.cons_append, wgt_cons]
    rw [ih]
    simp only [List.length_append, List.length_cons]
    grind
theorem ext_mid (T s u : List Int) (b : Int) : ext T (s ++ b :: u) = (1 - b) * ext T (s ++ 0 :: u) + b * ext T (s ++ 1 :: u) := by
  unfold ext
  generalize T.length = n
  induction n with
  | zero => simp [exS]
  | succ n ih => simp only [exS]; rw [ih, wgt_mid s u b n]; grind
theorem sh_aff (n : Nat) (s : List Int) (b : Int) (A : Nat) (h : s.length < n) : sh n (s ++ [b]) A = (1 - b) * sh n (s ++ [0]) A + b * sh n (s ++ [1]) A := by
  rw [sh_snoc n s b A h, sh_snoc n s 0 A h, sh_snoc n s 1 A h]; split <;> grind
theorem sd_aff (n : Nat) (t s : List Int) (b : Int) (A : Nat) : sd n t (s ++ [b]) A = (1 - b) * sd n t (s ++ [0]) A + b * sd n t (s ++ [1]) A := by
  unfold sd
  simp only [List.length_append, List.length_singleton, List.append_assoc, List.singleton_append]
  exact ext_mid t s _ b
theorem poly_three (W S0 S1 G0 G1 : Int) {f : Int → Int} (h : ∀ r, f r = W * (((1 - r) * S0 + r * S1) * ((1 - r) * G0 + r * G1))) : PolyN 3 f :=
  ⟨[W * (S0 * G0), W * ((S1 - S0) * G0 + S0 * (G1 - G0)), W * ((S1 - S0) * (G1 - G0))], rfl, fun r => by rw [h]; simp only [ev]; grind⟩
theorem gop_l (k r X Y Z : Int) : gop k ((1 - r) * X + r * Y) Z = (1 - r) * gop k X Z + r * gop k Y Z := by unfold gop; split <;> grind
theorem gop_r (k r X Y Z : Int) : gop k Z ((1 - r) * X + r * Y) = (1 - r) * gop k Z X + r * gop k Z Y := by unfold gop; split <;> grind
/-- The next variable as a number: a polynomial of three numbers. -/
theorem partT_next (n : Nat) (t z xs : List Int) (i : Nat) (g : Gt) (h : xs.length < 2 * n) : PolyN 3 fun r => partT n t z (xs ++ [r]) i g := by
  by_cases hn : xs.length < n
  · have e1 : ∀ b : Int, (xs ++ [b]).take n = xs ++ [b] := fun b => List.take_of_length_le (by simp; omega)
    have e2 : ∀ b : Int, (xs ++ [b]).drop n = [] := fun b => List.drop_of_length_le (by simp; omega)
    refine poly_three (wgt z i * sh n [] g.2.2.toNat) (sh n (xs ++ [0]) g.2.1.toNat) (sh n (xs ++ [1]) g.2.1.toNat) (gop g.1 (sd n t (xs ++ [0]) g.2.1.toNat) (sd n t [] g.2.2.toNat)) (gop g.1 (sd n t (xs ++ [1]) g.2.1.toNat) (sd n t [] g.2.2.toNat)) fun r => ?_
    unfold partT
    rw [e1, e2, sh_aff n xs r _ hn, sd_aff n t xs r, gop_l]; grind
  · have e1 : ∀ b : Int, (xs ++ [b]).take n = xs.take n := fun b => List.take_append_of_le_length (by omega)
    have e2 : ∀ b : Int, (xs ++ [b]).drop n = xs.drop n ++ [b] := fun b => List.drop_append_of_le_length (by omega)
    refine poly_three (wgt z i * sh n (xs.take n) g.2.1.toNat) (sh n (xs.drop n ++ [0]) g.2.2.toNat) (sh n (xs.drop n ++ [1]) g.2.2.toNat) (gop g.1 (sd n t (xs.take n) g.2.1.toNat) (sd n t (xs.drop n ++ [0]) g.2.2.toNat)) (gop g.1 (sd n t (xs.take n) g.2.1.toNat) (sd n t (xs.drop n ++ [1]) g.2.2.toNat)) fun r => ?_
    unfold partT
    rw [e1, e2, sh_aff n (xs.drop n) r _ (by simp; omega), sd_aff n t (xs.drop n) r, gop_r]; grind
theorem partS_next (l : List Gt) (n : Nat) (t z xs : List Int) (k : Nat) (h : xs.length < 2 * n) : PolyN 3 fun r => partS l n t z (xs ++ [r]) k :=
  PolyN.sum (F := fun i r => partT n t z (xs ++ [r]) i (l.getD i (0, 0, 0))) k fun i _ => partT_next n t z xs i _ h
/-- All variables fixed. -/
theorem partT_full (n : Nat) (t z x y : List Int) (i : Nat) (g : Gt) (hx : x.length = n) (hy : y.length = n) : partT n t z (x ++ y) i g = wgt z i * (wgt x g.2.1.toNat * wgt y g.2.2.toNat) * gop g.1 (ext t x) (ext t y) := by
  have e1 : (x ++ y).take n = x := by rw [← hx]; exact List.take_left
  have e2 : (x ++ y).drop n = y := by rw [← hx]; exact List.drop_left
  unfold partT
  rw [e1, e2]
  unfold sh sd
  rw [hx, hy, Nat.sub_self, Nat.pow_zero, Nat.div_one, Nat.div_one]
  simp [bitsL]
theorem wire_full (l : List Tri) (n : Nat) (t z x y : List Int) (hx : x.length = n) (hy : y.length = n) : ∀ K, (∀ i, i < K → (nthT l i).1 = 0 ∨ (nthT l i).1 = 1) →
    partS l n t z (x ++ y) K = wireU l 0 z x y K * (ext t x + ext t y) + wireU l 1 z x y K * (ext t x * ext t y)
  | 0, _ => by simp [partS, sumN, wireU]
  | K + 1, h => by
    have ih := wire_full l n t z x y hx hy K (fun i hi => h i (by omega))
    have e : partS l n t z (x ++ y) (K + 1) = partS l n t z (x ++ y) K + partT n t z (x ++ y) K (nthT l K) := rfl
    rw [e, ih, partT_full n t z x y K _ hx hy]
    rcases h K (by omega) with h1 | h1
    · simp only [wireU]
      rw [if_pos h1, if_neg (by rw [h1]; decide), h1]
      unfold gop
      rw [if_neg (by decide)]; grind
    · simp only [wireU]
      rw [if_neg (by rw [h1]; decide), if_pos h1, h1]
      unfold gop
      rw [if_pos rfl]; grind
theorem lnV_eq (p : Int) (l : List Tri) (z x y ln : List Int) (n : Nat) (X Y : Int) (hX : nth ln 0 % p = X % p) (hY : nth ln (min 1 n) % p = Y % p) :
    lnV p l z x y ln n = (wireU l 0 z x y l.length * (X + Y) + wireU l 1 z x y l.length * (X * Y)) % p := by
  unfold lnV
  simp only [fadd, fmul, ea_l, ea_r, em_l, em_r]
  exact madd (mmul rfl (madd hX hY)) (mmul rfl (mmul hX hY))
theorem lineZ_zero (x y : List Int) (h : x.length = y.length) : lineZ x y 0 = x := by
  refine List.ext_getElem (by simp [lineZ, h]) fun k h1 h2 => ?_
  simp [lineZ]
theorem lineZ_one (x y : List Int) (h : x.length = y.length) : lineZ x y 1 = y := by
  refine List.ext_getElem (by simp [lineZ, h]) fun k h1 h2 => ?_
  simp only [lineZ, List.getElem_zipWith]; omega
theorem lineN_nth (p : Int) (t x y : List Int) (m i : Nat) (h : i < m) : nth (lineN p t x y m) i = ext t (onL p x y i) % p := nth_map_range _ _ _ h
/-- A line's polynomial is what the table is on it. -/
theorem thr_line {p : Int} (hp : Pr p) (t x y : List Int) (hxy : x.length = y.length) (hn : (x.length : Int) + 1 ≤ p) (r : Int) : thrV p (lineN p t x y (x.length + 1)) r = ext t (onL p x y r) % p := by
  unfold thrV
  have hl : (lineN p t x y (x.length + 1)).length = x.length + 1 := lineN_len _ _ _ _ _
  rw [fit_one hp (l := lineN p t x y (x.length + 1)) (f := fun r => ext t (lineZ x y r)) (by rw [hl]; omega) (by rw [hl]; exact ext_line t x y hxy) (fun i hi => by
    rw [hl] at hi
    rw [lineN_nth _ _ _ _ _ _ hi, Int.emod_emod_of_dvd _ (Int.dvd_refl p), ext_on p t x y i hxy]) r, ext_on p t x y r hxy]
/-- A round's polynomial is the sum with the next variable fixed. -/
theorem thr_told {p : Int} (hp : Pr p) (h3 : 3 ≤ p) (l : List Tri) (n : Nat) (t z xs : List Int) (h : xs.length < 2 * n) {f : List Int → Int} (hf : ∀ ys, f ys = partS l n t z ys l.length % p) (r : Int) : thrV p (told3 f xs) r = f (xs ++ [r]) := by
  unfold thrV
  rw [fit_one hp (l := told3 f xs) (f := fun r => partS l n t z (xs ++ [r]) l.length) (by simpa [told3] using h3) (partS_next l n t z xs l.length h) (fun i hi => by
    have : i = 0 ∨ i = 1 ∨ i = 2 := by simp [told3] at hi; omega
    rcases this with rfl | rfl | rfl <;> simp [told3, nth, hf]) r, hf]
section
variable {p : Int} {k : Nat} {wd : Int} {Ls : List (List Tri)} {inp : List Int}
theorem layF_is (p wd : Int) (Ls : List (List Tri)) (inp : List Int) (i : Nat) (z xs : List Int) : layF p wd Ls inp i z xs = partV p wd Ls inp i z xs := rfl
/-- A layer's rounds, as Check goes through them. -/
theorem rounds_true (hp : Pr p) (h3 : 3 ≤ p) {i : Nat} (z D : List Int) (c : Int) (hc : c = partV p wd Ls inp i z []) (hb : 0 ≤ beneath wd Ls i) : ∀ m, m ≤ 2 * (beneath wd Ls i).toNat →
    ckS p k (layR p k wd Ls inp i z D) c D m = ((dwn p k (layF p wd Ls inp i z) D m).1, layF p wd Ls inp i z (dwn p k (layF p wd Ls inp i z) D m).1, (dwn p k (layF p wd Ls inp i z) D m).2) ∧ ckA p k (layR p k wd Ls inp i z D) c D m = true
  | 0, _ => ⟨by simp [ckS, dwn, layF_is, hc], rfl⟩
  | m + 1, h => by
    obtain ⟨h1, h2⟩ := rounds_true hp h3 z D c hc hb m (by omega)
    have hT : nthL (layR p k wd Ls inp i z D) m = told3 (layF p wd Ls inp i z) (dwn p k (layF p wd Ls inp i z) D m).1 := by
      rw [nthL_eq (by unfold layR; rw [dwnT_len]; omega)]
      simp [layR, dwnT]
    have hl := dwn_len p k (layF p wd Ls inp i z) D m
    refine ⟨?_, ?_⟩
    · simp only [ckS, dwn]
      rw [h1, hT]
      dsimp only
      rw [thr_told hp h3 (nthY Ls i) (beneath wd Ls i).toNat (vrow p Ls inp i) z _ (by rw [hl]; omega) (f := layF p wd Ls inp i z) (fun ys => rfl)]
    · simp only [ckA]
      rw [h2, Bool.true_and]
      unfold ckB
      rw [h1, hT, beq_iff_eq]
      dsimp only
      have := layer_snoc p wd Ls inp i z (dwn p k (layF p wd Ls inp i z) D m).1 (by rw [hl]; omega)
      rw [layF_is, this]
      simp [told3, nth, layF_is]
/-- A layer that is told is shown. -/
theorem layer_true (hp : Pr p) (h23 : 23 ≤ p) (hE : cirErr wd Ls = 0) (hin : (inp.length : Int) = 2 ^ wd.toNat) {i : Nat} (hi : i < Ls.length) (z D : List Int) (c : Int) (hc : c = ext (vrow p Ls inp (i + 1)) z % p) :
    lyB p k (nthY Ls i) (beneath wd Ls i).toNat z c D (layR p k wd Ls inp i z D) (layN p k wd Ls inp i z D) = true ∧
    lyZ p k (beneath wd Ls i).toNat c D (layR p k wd Ls inp i z D) (layN p k wd Ls inp i z D) = layZ p k wd Ls inp i z D ∧
    lyC p k (beneath wd Ls i).toNat c D (layR p k wd Ls inp i z D) (layN p k wd Ls inp i z D) = ext (vrow p Ls inp i) (layZ p k wd Ls inp i z D) % p ∧
    lyD p k (beneath wd Ls i).toNat c D (layR p k wd Ls inp i z D) (layN p k wd Ls inp i z D) = layD p k wd Ls inp i z D := by
  have hbd := beneath_bd (cirErr_ok hE).1 hi
  have hc' : c = partV p wd Ls inp i z [] := by rw [layer_sum hE hin hi]; exact hc
  obtain ⟨hS, hA⟩ := rounds_true (k := k) hp (by omega) z D c hc' hbd.1 _ (Nat.le_refl _)
  obtain ⟨n, hn⟩ : ∃ n, (beneath wd Ls i).toNat = n := ⟨_, rfl⟩
  have hn6 : n ≤ 6 := by omega
  obtain ⟨X, hX⟩ : ∃ X, (dwn p k (layF p wd Ls inp i z) D (2 * n)).1 = X := ⟨_, rfl⟩
  have hXl : X.length = 2 * n := by rw [← hX]; exact dwn_len _ _ _ _ _
  have e0 : layS p k wd Ls inp i z D = dwn p k (layF p wd Ls inp i z) D (2 * n) := by unfold layS; rw [hn]
  have hx : (X.take n).length = n := by rw [List.length_take]; omega
  have hy : (X.drop n).length = n := by rw [List.length_drop]; omega
  have eN : layN p k wd Ls inp i z D = lineN p (vrow p Ls inp i) (X.take n) (X.drop n) (n + 1) := by unfold layN; rw [e0, hn, hX]
  rw [hn] at hS hA ⊢
  have e1 : (ckS p k (layR p k wd Ls inp i z D) c D (2 * n)).1 = X := by rw [hS]; exact hX
  have e2 : (ckS p k (layR p k wd Ls inp i z D) c D (2 * n)).2.1 = layF p wd Ls inp i z X := by rw [hS, hX]
  have e3 : (ckS p k (layR p k wd Ls inp i z D) c D (2 * n)).2.2 = (layS p k wd Ls inp i z D).2 := by rw [hS, e0]
  have eD : lyD p k n c D (layR p k wd Ls inp i z D) (layN p k wd Ls inp i z D) = layD p k wd Ls inp i z D := by unfold lyD layD; rw [e3]
  have eZ : lyZ p k n c D (layR p k wd Ls inp i z D) (layN p k wd Ls inp i z D) = layZ p k wd Ls inp i z D := by unfold lyZ layZ; rw [e1, eD, e0, hn, hX]
  have hxy : (X.take n).length = (X.drop n).length := by rw [hx, hy]
  have hTl : (layR p k wd Ls inp i z D).length = 2 * n := by unfold layR; rw [dwnT_len, hn]
  have h3 : ∀ m, m ≤ 2 * n → thr3 (layR p k wd Ls inp i z D) m = true := by
    intro m
    induction m with
    | zero => intro _; rfl
    | succ m ih =>
      intro hm
      simp only [thr3]
      rw [ih (by omega), Bool.true_and, beq_iff_eq, nthL_eq (by rw [hTl]; omega)]
      simp [layR, dwnT, told3]
  have hln : (layN p k wd Ls inp i z D).length = n + 1 := by rw [eN, lineN_len]
  refine ⟨?_, eZ, ?_, eD⟩
  · unfold lyB frmB
    rw [hA, h3 _ (Nat.le_refl _), decide_eq_true hTl, decide_eq_true hln, e1, e2]
    simp only [Bool.true_and, beq_iff_eq]
    have k0 : nth (layN p k wd Ls inp i z D) 0 % p = ext (vrow p Ls inp i) (X.take n) % p := by
      rw [eN, lineN_nth _ _ _ _ _ _ (by omega), Int.emod_emod_of_dvd _ (Int.dvd_refl p)]
      rw [show ((0 : Nat) : Int) = 0 from rfl, ext_on p _ _ _ 0 hxy, lineZ_zero _ _ hxy]
    have k1 : nth (layN p k wd Ls inp i z D) (min 1 n) % p = ext (vrow p Ls inp i) (X.drop n) % p := by
      rw [eN, lineN_nth _ _ _ _ _ _ (by omega), Int.emod_emod_of_dvd _ (Int.dvd_refl p), ext_on p _ _ _ _ hxy]
      by_cases h0 : n = 0
      · subst h0
        have : X = [] := List.eq_nil_of_length_eq_zero (by omega)
        subst this; rfl
      · rw [show min 1 n = 1 by omega, show ((1 : Nat) : Int) = 1 from rfl, lineZ_one _ _ hxy]
    rw [lnV_eq p _ z _ _ _ n _ _ k0 k1, ← wire_full (nthY Ls i) n (vrow p Ls inp i) z _ _ hx hy (nthY Ls i).length (fun j hj => by
      have hok := (cirErr_ok hE).2 i hi j hj
      obtain ⟨o1, o2, _⟩ := hok
      omega), List.take_append_drop]
    unfold layF; rw [hn]
  · unfold lyC
    rw [eD, eN]
    have := thr_line hp (vrow p Ls inp i) (X.take n) (X.drop n) hxy (by rw [hx]; omega) (nth (layD p k wd Ls inp i z D) 0)
    rw [hx] at this
    rw [this]
    unfold layZ; rw [e0, hn, hX]
/-- Layer by layer: what is told is shown, and the claim is what the values beneath Extend to. -/
theorem layers_true (hp : Pr p) (h23 : 23 ≤ p) (hE : cirErr wd Ls = 0) (hin : (inp.length : Int) = 2 ^ wd.toNat) (z D : List Int) : ∀ j, j ≤ Ls.length →
    chS p k wd Ls (mkR p k wd Ls inp z D Ls.length) (mkL p k wd Ls inp z D Ls.length) z (ext (vrow p Ls inp Ls.length) z % p) D j = ((mkS p k wd Ls inp z D j).1, ext (vrow p Ls inp (Ls.length - j)) (mkS p k wd Ls inp z D j).1 % p, (mkS p k wd Ls inp z D j).2) ∧
    chA p k wd Ls (mkR p k wd Ls inp z D Ls.length) (mkL p k wd Ls inp z D Ls.length) z (ext (vrow p Ls inp Ls.length) z % p) D j = true
  | 0, _ => ⟨by simp [chS, mkS], rfl⟩
  | j + 1, h => by
    obtain ⟨h1, h2⟩ := layers_true hp h23 hE hin z D j (by omega)
    have hR : nthC (mkR p k wd Ls inp z D Ls.length) j = layR p k wd Ls inp (Ls.length - 1 - j) (mkS p k wd Ls inp z D j).1 (mkS p k wd Ls inp z D j).2 := by
      have hj : j < Ls.length := by omega
      simp [nthC, mkR, hj]
    have hL : nthL (mkL p k wd Ls inp z D Ls.length) j = layN p k wd Ls inp (Ls.length - 1 - j) (mkS p k wd Ls inp z D j).1 (mkS p k wd Ls inp z D j).2 := by
      rw [nthL_eq (by rw [mkL_len]; omega)]; simp [mkL]
    obtain ⟨g1, g2, g3, g4⟩ := layer_true (k := k) hp h23 hE hin (i := Ls.length - 1 - j) (by omega) (mkS p k wd Ls inp z D j).1 (mkS p k wd Ls inp z D j).2 (ext (vrow p Ls inp (Ls.length - j)) (mkS p k wd Ls inp z D j).1 % p) (by rw [show Ls.length - 1 - j + 1 = Ls.length - j by omega])
    refine ⟨?_, ?_⟩
    · simp only [chS, mkS]
      rw [hR, hL, h1]
      dsimp only
      rw [g2, g3, g4, show Ls.length - (j + 1) = Ls.length - 1 - j by omega]
    · simp only [chA]
      rw [h2, Bool.true_and]
      unfold chB
      rw [hR, hL, h1]
      exact g1
/-- All of it: what Make tells is shown, and the claim is what the inputs Extend to. -/
theorem all_true (hp : Pr p) (h23 : 23 ≤ p) (hE : cirErr wd Ls = 0) (hin : (inp.length : Int) = 2 ^ wd.toNat) (z D : List Int) :
    chkB p k wd Ls (vrow p Ls inp Ls.length) (mkR p k wd Ls inp z D Ls.length) (mkL p k wd Ls inp z D Ls.length) z D = true ∧
    (chS p k wd Ls (mkR p k wd Ls inp z D Ls.length) (mkL p k wd Ls inp z D Ls.length) z (ext (vrow p Ls inp Ls.length) z % p) D Ls.length).2.1 = ext inp (chS p k wd Ls (mkR p k wd Ls inp z D Ls.length) (mkL p k wd Ls inp z D Ls.length) z (ext (vrow p Ls inp Ls.length) z % p) D Ls.length).1 % p := by
  obtain ⟨h1, h2⟩ := layers_true (k := k) hp h23 hE hin z D Ls.length (Nat.le_refl _)
  have hlen1 : 1 ≤ Ls.length := (cirErr_ok hE).1.2.2.1
  refine ⟨?_, ?_⟩
  · unfold chkB
    rw [h2, mkR_len, mkL_len]
    have h3 := vrow_length (p := p) (Ls := Ls) hin Ls.length
    unfold below at h3
    rw [if_neg (by omega)] at h3
    have h4 : (vrow p Ls inp Ls.length).length = (nthY Ls (Ls.length - 1)).length := by omega
    simp [h4]
  · rw [h1]
    dsimp only
    rw [Nat.sub_self]
    unfold ext
    rw [exS_sumN, exS_sumN]
    show sumN _ (inp.map (fof p)).length % p = _
    rw [List.length_map]
    refine sumN_mod p _ fun i hi => ?_
    have e : nth (vrow p Ls inp 0) i = fof p (nth inp i) := by
      show nth (inp.map (fof p)) i = _
      rw [nth_eq (by simpa using hi), nth_eq hi]; simp
    rw [e]
    refine mmul ?_ rfl
    unfold fof
    exact Int.emod_emod_of_dvd _ (Int.dvd_refl p)
end
end Go.Att
end
section
namespace Go.Att
open Go.RowKit
theorem Cub.shapeT {w : World} {v : Value} {L : List (List (List Int))} (h : Cub w v L) : ∃ a n c, v = .slice a n c := by
  obtain ⟨Q, h1, -⟩ := h
  obtain ⟨ao, cap, h1, _⟩ := h1; exact ⟨ao, _, cap, h1⟩
theorem Rws.shapeT {w : World} {v : Value} {L : List (List Int)} (h : Rws w v L) : ∃ a n c, v = .slice a n c := by
  obtain ⟨Q, h1⟩ := h
  obtain ⟨ao, cap, h1⟩ := h1.shape; exact ⟨ao, _, cap, h1⟩
section
variable {p : Int} {k : Nat} {wd : Int} {Ls : List (List Tri)} {inp : List Int}
/-- What Make tells is shown, all of it; the point has as many numbers as there are inputs' variables. -/
theorem true_all (hp : Pr p) (h23 : 23 ≤ p) (hE : cirErr wd Ls = 0) (hin : (inp.length : Int) = 2 ^ wd.toNat) {OUT z D : List Int} (hO : vrow p Ls inp Ls.length = OUT) (hz : ckZ p k wd Ls OUT = z) (hD : ckD p k wd Ls OUT = D) :
    ckAll p k wd Ls OUT (mkR p k wd Ls inp z D Ls.length) (mkL p k wd Ls inp z D Ls.length) = true ∧
    (ckEnd p k wd Ls OUT (mkR p k wd Ls inp z D Ls.length) (mkL p k wd Ls inp z D Ls.length)).2.1 = ext inp (ckEnd p k wd Ls OUT (mkR p k wd Ls inp z D Ls.length) (mkL p k wd Ls inp z D Ls.length)).1 % p ∧
    (ckEnd p k wd Ls OUT (mkR p k wd Ls inp z D Ls.length) (mkL p k wd Ls inp z D Ls.length)).1.length = wd.toNat := by
  subst hO
  obtain ⟨h1, h2⟩ := all_true (k := k) hp h23 hE hin z D
  have hlen1 : 1 ≤ Ls.length := (cirErr_ok hE).1.2.2.1
  refine ⟨?_, ?_, ?_⟩
  · unfold ckAll
    rw [decide_eq_true hE, hz, hD, h1]; rfl
  · unfold ckEnd
    rw [hz, hD]
    exact h2
  · unfold ckEnd
    obtain ⟨m, hm⟩ : ∃ m, Ls.length = m + 1 := ⟨Ls.length - 1, by omega⟩
    rw [hz, hD]
    generalize mkR p k wd Ls inp z D Ls.length = U
    generalize mkL p k wd Ls inp z D Ls.length = V
    rw [hm]
    simp only [chS]
    rw [lyZ_len, hm, show m + 1 - 1 - m = 0 by omega]
    unfold beneath
    rw [if_pos rfl]
end
end Go.Att
namespace Go.Proofs.YtaajjaadlpgbiaaGreatDoor
open Go.RowKit Go.Att
set_option maxRecDepth 100000 in
set_option maxHeartbeats 4000000 in
theorem gatesTrue_bad (p : Int) (c v2 : Value) (w : World) (wd : Int) (lv : Value) (hc : c = .agg #[.int .i64 wd, lv]) (h : ¬ (okP p ∧ 23 ≤ p)) (hg : Hnd w) :
    Calls Tryz.prog 5 #[.int .i64 p, c, v2] w fun e w' => e = .returned (.bool true) ∧ Ext w w' := by
  subst hc
  have HG := Lib.hid hg; clear hg
  by_cases h1 : okP p
  · have h2 : p < 23 := by have : ¬ 23 ≤ p := fun h3 => h ⟨h1, h3⟩; omega
    have H := Lib.hid h1; clear h h1
    go_enter Tryz.func5, Tryz.ntmps5
    go_wp2_with (go_at_call 18; refine (sspg_low _ _ H.out h2 (HG.out.ext (Ext.alloc _ _))).mono ?_; rintro e w' ⟨v, rfl, hx, rfl⟩)
    go_ret
    exact ⟨rfl, (Ext.alloc _ _).trans hx⟩
  · have H := Lib.hid h1; clear h h1
    go_enter Tryz.func5, Tryz.ntmps5
    go_wp2_with (go_at_call 18; refine (sspg_bad _ _ H.out (HG.out.ext (Ext.alloc _ _))).mono ?_; rintro e w' ⟨v, rfl, hx, rfl⟩)
    go_ret
    exact ⟨rfl, (Ext.alloc _ _).trans hx⟩
set_option maxRecDepth 100000 in
set_option maxHeartbeats 8000000 in
theorem gatesTrue_w (p wd : Int) (lv vi : Value) (Ls : List (List Tri)) (R : Nat → Value) (inp : List Int) (w : World) (h : okP p) (h23 : 23 ≤ p) (hg : Hnd w) (hv : LysAt w lv Ls R) (hi : Ints w vi inp) :
    Calls Tryz.prog 5 #[.int .i64 p, .agg #[.int .i64 wd, lv], vi] w fun e w' => e = .returned (.bool true) ∧ Ext w w' := by
  have hp2 : p ≤ 2147483647 := h.2.2
  have h2p : 2 ≤ p := by omega
  have H := Lib.hid h; have HG := Lib.hid hg; have HV := Lib.hid hv; have HI := Lib.hid hi
  obtain ⟨ao, cap, rfl⟩ := hv.shape
  have HW1 := Lib.hid oneC_walk
  have HR1 := Lib.hid (oneC_row h2p)
  have HX0 := Lib.hid (Ext.alloc w (Obj.cells #[.int .i64 wd, .slice ao Ls.length cap] 48))
  have HK0 := Lib.hid (cell_new w #[.int .i64 wd, .slice ao Ls.length cap] 48 0); have HK1 := Lib.hid (cell_new w #[.int .i64 wd, .slice ao Ls.length cap] 48 1)
  clear h hg hv hi
  go_enter Tryz.func5, Tryz.ntmps5
  go_upto_region 4 with (go_at_call 18; refine (sspg_ok _ _ H.out h23 (HG.out.ext HX0.out)).mono ?_; rintro e w1 ⟨v, rfl, hx, s, f, g, rfl, hs, hf⟩; obtain ⟨bf, rfl⟩ := hf.ptr; obtain ⟨fs, hfs⟩ := hf.fld; obtain ⟨bs, k, rt, rfl, hpw, hsp⟩ := hs; have HFS := Lib.hid hfs; have HPW := Lib.hid hpw; have HSP := Lib.hid hsp; clear hf hfs hpw hsp)
  have HX1 := Lib.hid (HX0.out.trans hx)
  have HKK := Lib.hid (And.intro (show w1.cell? ⟨w.heap.size, 0, none⟩ = some (.int .i64 wd) from hx.cell HK0.out) (show w1.cell? ⟨w.heap.size, 1, none⟩ = some (.slice ao Ls.length cap) from hx.cell HK1.out))
  have hk64 := HPW.out.leC h23 hp2
  have c0 := HSP.out.c0
  clear HX0 hx HK0 HK1
  go_wp2_with (go_at_call 7; refine (sfieldof_any c0).mono ?_; rintro e w' ⟨rfl, rfl⟩)
  have hxa := (Ext.alloc w1 (Obj.cells #[.int .i64 1, .int .i64 0, .int .i64 0] 61)).trans ((Ext.alloc _ (Obj.cells #[.slice (some ⟨w1.heap.size, 0, none⟩) 1 1] 62)).trans (Ext.alloc _ (Obj.cells #[.int .i64 1] 3)))
  have IL := ints_lit ((w1.alloc (Obj.cells #[.int .i64 1, .int .i64 0, .int .i64 0] 61)).alloc (Obj.cells #[.slice (some ⟨w1.heap.size, 0, none⟩) 1 1] 62)) 1 3
  rw [show ((w1.alloc (Obj.cells #[.int .i64 1, .int .i64 0, .int .i64 0] 61)).alloc (Obj.cells #[.slice (some ⟨w1.heap.size, 0, none⟩) 1 1] 62)).heap.size = w1.heap.size + 1 + 1 by simp] at IL
  refine (values_ok (HFS.out.ext hxa) 0 _ _ oneC _ [1] ((lys_one w1 61 62).ext (Ext.alloc _ _)) IL HW1.out).mono ?_
  rintro e w2 ⟨v2, rfl, hx2, u2, rfl, S2, hr2⟩
  replace hx2 := hxa.trans hx2
  have HX2 := Lib.hid hx2
  have hlu := hr2.run_len (P := Tryz.prog) slRows
  have hvl2 : 1 < (vals p oneC [1] oneC.length).length := by rw [vals_length]; decide
  have hiu := hr2.run_index (P := Tryz.prog) slRows 1 hvl2
  have hcu := hr2.cell 1 hvl2
  have hru := hr2.row 1 hvl2
  rw [vals_nth _ _ _ (by decide), HR1.out] at hru
  rw [vals_length, show ((oneC.length + 1 : Nat) : Int) = 2 from rfl] at hlu
  have hlr := hru.run_len (P := Tryz.prog) slInts
  have hir := hru.run_index (P := Tryz.prog) slInts 0 (by decide)
  have hcr := hru.cell 0 (by decide)
  rw [show nth [1] 0 = 1 from rfl] at hcr
  rw [show ((([1] : List Int).length : Nat) : Int) = 1 from rfl] at hlr
  rw [show ((1 : Nat) : Int) = 1 from rfl] at hiu
  rw [show ((0 : Nat) : Int) = 0 from rfl] at hir
  have k0 := hx2.cell HKK.out.1; have k1 := hx2.cell HKK.out.2
  replace c0 := hx2.cell c0
  clear hr2 hru hvl2 hxa hx2 IL
  by_cases hE : walkErr wd Ls inp.length = 0
  rotate_left
  · have EP := Lib.hid (errv_pos hE)
    have HE := Lib.hid hE
    clear hE
    go_wp2_with (go_at_call 22; refine (make_bad bs bf wd _ vi Ls R inp _ c0 (HV.out.ext (HX1.out.trans HX2.out)) (HI.out.ext (HX1.out.trans HX2.out)) HE.out).mono ?_; rw [EP.out]; rintro e w3 ⟨v3, rfl, hx3, rfl⟩)
    go_ret
    exact ⟨rfl, ((HX1.out.trans HX2.out).trans hx3).trans (Ext.alloc _ _)⟩
  have HE := Lib.hid hE
  obtain ⟨hcir, hin⟩ := walkErr_ok hE
  have HCE := Lib.hid hcir; have HIN := Lib.hid hin
  have hS := (cirErr_ok hcir).1
  obtain ⟨n, hn⟩ : ∃ n : Nat, wideOf (nthY Ls (Ls.length - 1)).length = n := ⟨(wideOf (nthY Ls (Ls.length - 1)).length).toNat, by have := hS.2.2.2.2 (Ls.length - 1) (by have := hS.2.2.1; omega); omega⟩
  have HN := Lib.hid hn
  obtain ⟨OUT, hO⟩ : ∃ OUT, vrow p Ls inp Ls.length = OUT := ⟨_, rfl⟩
  obtain ⟨z, hz⟩ : ∃ z, ckZ p k wd Ls OUT = z := ⟨_, rfl⟩
  obtain ⟨D, hD⟩ : ∃ D, ckD p k wd Ls OUT = D := ⟨_, rfl⟩
  have HZD := Lib.hid (show z = drwL p k (begS p k wd Ls (vrow p Ls inp Ls.length)) n from by rw [← hz, hO]; unfold ckZ; rw [hn, Int.toNat_natCast])
  have HDD := Lib.hid (show D = drwS p k (begS p k wd Ls (vrow p Ls inp Ls.length)) n from by rw [← hD, hO]; unfold ckD; rw [hn, Int.toNat_natCast])
  have HTA := Lib.hid (true_all (k := k) HFS.out.pr h23 hcir hin hO hz hD)
  have HOO := Lib.hid hO
  have hwd : 0 ≤ wd ∧ wd ≤ 6 := ⟨hS.1, hS.2.1⟩
  have hlen8 : Ls.length ≤ 8 := hS.2.2.2.1
  have hlen1 : 1 ≤ Ls.length := hS.2.2.1
  have HWD := Lib.hid hwd
  clear hE hcir hin hS hn hO hz hD hwd
  go_upto_region 10 with (go_at_call 22; refine (make_ok (p := p) (k := k) (HSP.out.ext HX2.out) (HFS.out.ext HX2.out) hk64 (HV.out.ext (HX1.out.trans HX2.out)) (HI.out.ext (HX1.out.trans HX2.out)) HE.out n HN.out z D HZD.out HDD.out).mono ?_; rintro e w3 ⟨v3, rfl, hx3, vr, vl, rfl, hcu3, hrw3⟩; obtain ⟨ar, nr, cr, rfl⟩ := hcu3.shapeT; obtain ⟨al, nl, cl, rfl⟩ := hrw3.shapeT; have HCU := Lib.hid hcu3; have HRW := Lib.hid hrw3; have HX3 := Lib.hid hx3; clear hcu3 hrw3 hx3)
  have HX4 := Lib.hid (HX3.out.trans (Ext.alloc w3 (Obj.cells #[.slice ar nr cr, .slice al nl cl] 51)))
  have o0 := cell_new w3 #[.slice ar nr cr, .slice al nl cl] 51 0
  have o1 := cell_new w3 #[.slice ar nr cr, .slice al nl cl] 51 1
  have HCU4 := Lib.hid (HCU.out.ext (Ext.alloc w3 (Obj.cells #[.slice ar nr cr, .slice al nl cl] 51)))
  have HRW4 := Lib.hid (HRW.out.ext (Ext.alloc w3 (Obj.cells #[.slice ar nr cr, .slice al nl cl] 51)))
  obtain ⟨w4, hw4⟩ : ∃ w4, w4 = w3.alloc (Obj.cells #[.slice ar nr cr, .slice al nl cl] 51) := ⟨_, rfl⟩
  rw [← hw4] at HX4 o0 o1 HCU4 HRW4 ⊢
  have q0 := HX4.out.cell k0; have q1 := HX4.out.cell k1
  have d0 := HX4.out.cell c0
  have HX14 := Lib.hid (HX2.out.trans HX4.out)
  clear hw4 HCU HRW HX3 k0 k1 c0 hlu hiu hcu hlr hir hcr
  generalize w3.heap.size = ob at *
  have hxd := Ext.drew w4
  go_region_held3 (fun w' => w'.cell? ⟨w.heap.size, 0, none⟩ = some (.int .i64 wd) ∧ w'.cell? ⟨w.heap.size, 1, none⟩ = some (.slice ao Ls.length cap)) (first | exact ⟨hx5.cell ((Ext.drew w4).cell q0), hx5.cell ((Ext.drew w4).cell q1)⟩ | exact ⟨(Ext.drew w4).cell q0, (Ext.drew w4).cell q1⟩ | go_keep) (first | (go_at_call 7; refine (sfieldof_any ((Ext.drew w4).cell d0)).mono ?_; rintro e w' ⟨rfl, rfl⟩) | (go_at_call 21; refine (values_ok (HFS.out.ext (HX14.out.trans (Ext.drew w4))) wd _ _ Ls _ inp (HV.out.ext (HX1.out.trans (HX14.out.trans (Ext.drew w4)))) (HI.out.ext (HX1.out.trans (HX14.out.trans (Ext.drew w4)))) HE.out).mono ?_; rintro e w5 ⟨v5, rfl, hx5, u5, rfl, S5, hr5⟩))
  have HX45 := Lib.hid (hxd.trans hx5)
  have HX15 := Lib.hid (HX14.out.trans HX45.out)
  have hgl := hr5.run_len (P := Tryz.prog) slRows
  rw [vals_length] at hgl
  have hgi := hr5.run_index (P := Tryz.prog) slRows Ls.length (by rw [vals_length]; omega)
  have hwr : IntKind.i64.wrap ((Ls.length : Nat) : Int) = ((Ls.length : Nat) : Int) := IntWalk.i64_in _ (by omega)
  have hgc := hr5.cell Ls.length (by rw [vals_length]; omega)
  have hgw := hr5.row Ls.length (by rw [vals_length]; omega)
  rw [vals_nth _ _ _ (Nat.le_refl _), HOO.out] at hgw
  have HGW := Lib.hid hgw
  have hl2 : ¬ ((Ls.length : Int) + 1 < 2) := by omega
  have p0 := HX45.out.cell q0; have p1 := HX45.out.cell q1
  have r0 := HX45.out.cell o0; have r1 := HX45.out.cell o1
  have HCU5 := Lib.hid (HCU4.out.ext HX45.out); have HRW5 := Lib.hid (HRW4.out.ext HX45.out)
  obtain ⟨hta1, hta2, hta3⟩ := HTA.out
  have HCG := Lib.hid (fun (W : World) (hW : Ext w5 W) => gcheck_any (p := p) (k := k) (wd := wd) (HSP.out.ext (HX15.out.trans hW)) (HFS.out.ext (HX15.out.trans hW)) hk64 h23 (HV.out.ext (HX1.out.trans (HX15.out.trans hW))) (HGW.out.ext hW) (HCU5.out.ext hW) (HRW5.out.ext hW))
  obtain ⟨zz, hzz⟩ : ∃ zz, (ckEnd p k wd Ls OUT (mkR p k wd Ls inp z D Ls.length) (mkL p k wd Ls inp z D Ls.length)).1 = zz := ⟨_, rfl⟩
  obtain ⟨cc, hcc⟩ : ∃ cc, (ckEnd p k wd Ls OUT (mkR p k wd Ls inp z D Ls.length) (mkL p k wd Ls inp z D Ls.length)).2.1 = cc := ⟨_, rfl⟩
  rw [hzz, hcc, hta1] at HCG
  rw [hzz, hcc] at hta2
  rw [hzz] at hta3
  have HZL := Lib.hid hta3; have HCC := Lib.hid hta2
  clear hzz hcc hta1 hta2 hta3 hr5 hgw hx5 hxd q0 q1 o0 o1 d0 HCU4 HRW4
  go_upto_region 13 with (fail)
  go_region_held3 (fun w' => w'.cell? ⟨w.heap.size, 0, none⟩ = some (.int .i64 wd) ∧ w'.cell? ⟨w.heap.size, 1, none⟩ = some (.slice ao Ls.length cap) ∧ w'.cell? ⟨ob, 0, none⟩ = some (.slice ar nr cr) ∧ w'.cell? ⟨ob, 1, none⟩ = some (.slice al nl cl) ∧ w'.cell? (elt u5 Ls.length 1) = some (S5 Ls.length)) (first | exact ⟨hx6.cell ((Ext.drew w5).cell p0), hx6.cell ((Ext.drew w5).cell p1), hx6.cell ((Ext.drew w5).cell r0), hx6.cell ((Ext.drew w5).cell r1), hx6.cell ((Ext.drew w5).cell hgc)⟩ | exact ⟨(Ext.drew w5).cell p0, (Ext.drew w5).cell p1, (Ext.drew w5).cell r0, (Ext.drew w5).cell r1, (Ext.drew w5).cell hgc⟩ | go_keep) (first | (go_at_call 19; refine (HCG.out _ (Ext.drew w5)).mono ?_; rintro e w6 ⟨v6, rfl, hx6, hg6⟩; obtain ⟨va, rfl, hia⟩ := hg6.yes; clear hg6))
  have HX16 := Lib.hid (HX15.out.trans ((Ext.drew w5).trans hx6))
  have HIA := Lib.hid hia
  have c0 := HX16.out.cell HSP.out.c0
  have hpin : inp.length = 2 ^ wd.toNat := by
    have h1 := HIN.out
    have h2 : ((2 ^ wd.toNat : Nat) : Int) = (2 : Int) ^ wd.toNat := by simp
    omega
  have HPIN := Lib.hid hpin
  have hceq : (cc == cc) = true := beq_self_eq_true cc
  clear hx6 hia p0 p1 r0 r1 hgc hgi hgl hwr hpin HCG
  go_wp2_with (first | (go_at_call 7; refine (sfieldof_any c0).mono ?_; rintro e w' ⟨rfl, rfl⟩) | (go_at_call 23; refine (sExtend_ok (HFS.out.ext HX16.out) _ _ inp zz (HI.out.ext (HX1.out.trans HX16.out)) HIA.out wd.toNat (by have := HWD.out; omega) HPIN.out HZL.out).mono ?_; rw [← HCC.out]; rintro e w7 ⟨rfl, hx7⟩))
  go_ret
  exact ⟨rfl, (HX1.out.trans HX16.out).trans hx7⟩
end Go.Proofs.YtaajjaadlpgbiaaGreatDoor
end
