/- What a table is at a point: the plain laws. No program in sight. The machine, plain: cells that are told once; a step; a run. No program in sight. The machine's map and block, plain: a datum that reads as what was told; a block known whole; what two blocks' change leaves. A map in a block, by what stands at each key: plain words. No program in sight. -/
import Derived.Test.YtcpnidomdkaefaaGreatDoorVc
import Derived.Test.YtcpnidomdkaefaaGreatDoorZx1
import Derived.Maps.OwnSet
import Derived.RangeFuncOwn
section
/-! What a table is at a point: the plain laws. No program in sight. -/
namespace Go.Att
/-- Is the k-th of v digits of i, the greatest first, a 1? -/
def dig (v i k : Nat) : Nat := i / 2 ^ (v - 1 - k) % 2
/-- What the k-th number of a point gives to the place i. -/
def wf (l : List Int) (i k : Nat) : Int := if dig l.length i k = 1 then nth l k else 1 - nth l k
/-- The product of the first k, of the last m. -/
def wU (l : List Int) (i : Nat) : Nat → Int
  | 0 => 1
  | k + 1 => wU l i k * wf l i k
def wD (l : List Int) (i : Nat) : Nat → Int
  | 0 => 1
  | m + 1 => wD l i m * wf l i (l.length - 1 - m)
/-- The weight of the place i at a point. -/
def wgt (l : List Int) (i : Nat) : Int := wU l i l.length
theorem wU_wD (l : List Int) (i m : Nat) (h : m ≤ l.length) : wU l i (l.length - m) * wD l i m = wgt l i := by
  induction m with
  | zero => simp [wD, wgt]
  | succ m ih =>
    rw [← ih (by omega)]
    obtain ⟨q, hq⟩ : ∃ q, l.length - m = q + 1 := ⟨l.length - m - 1, by omega⟩
    have h1 : l.length - (m + 1) = q := by omega
    have h2 : l.length - 1 - m = q := by omega
    rw [hq, h1]
    show wU l i q * (wD l i m * wf l i (l.length - 1 - m)) = wU l i q * wf l i q * wD l i m
    rw [h2]; grind
theorem wD_all (l : List Int) (i : Nat) : wD l i l.length = wgt l i := by
  have := wU_wD l i l.length (Nat.le_refl _)
  rw [Nat.sub_self] at this
  rw [← this]; simp [wU]
/-- The sum of a table's first n numbers, each times its place's weight. -/
def exS (t at_ : List Int) : Nat → Int
  | 0 => 0
  | n + 1 => exS t at_ n + nth t n * wgt at_ n
/-- What a table Extends to at a point. -/
def ext (t at_ : List Int) : Int := exS t at_ t.length
/-- A table that is 1 at a place. -/
def unitT (n i : Nat) : List Int := (List.replicate n (0 : Int)).set i 1
theorem unitT_length (n i : Nat) : (unitT n i).length = n := by simp [unitT]
theorem unitT_nth (n i j : Nat) (h : j < n) : nth (unitT n i) j = if i = j then 1 else 0 := by
  unfold nth unitT
  simp only [List.getD_eq_getElem?_getD, List.getElem?_set, List.getElem?_replicate, List.length_replicate]
  by_cases e : i = j
  · subst e; simp [h]
  · simp [e, h]
theorem exS_unit (n i : Nat) (at_ : List Int) (m : Nat) (hm : m ≤ n) : exS (unitT n i) at_ m = if i < m then wgt at_ i else 0 := by
  induction m with
  | zero => simp [exS]
  | succ m ih =>
    simp only [exS]
    rw [ih (by omega), unitT_nth n i m (by omega)]
    by_cases h1 : i < m
    · rw [if_pos h1, if_neg (by omega), if_pos (by omega)]; simp
    · rw [if_neg h1]
      by_cases h2 : i = m
      · subst h2; rw [if_pos rfl, if_pos (by omega)]; simp
      · rw [if_neg h2, if_neg (by omega)]; simp
theorem ext_unit (n i : Nat) (at_ : List Int) (h : i < n) : ext (unitT n i) at_ = wgt at_ i := by
  unfold ext
  rw [unitT_length, exS_unit n i at_ n (Nat.le_refl _), if_pos h]
/-- .. by the point's first number: the weights of the two halves. -/
theorem dig_cons (v i k : Nat) : dig (v + 1) i (k + 1) = dig v i k := by
  unfold dig; rw [show v + 1 - 1 - (k + 1) = v - 1 - k by omega]
theorem wf_cons (r : Int) (l : List Int) (i k : Nat) : wf (r :: l) i (k + 1) = wf l i k := by
  unfold wf
  rw [List.length_cons, dig_cons]
  rfl
theorem wU_cons (r : Int) (l : List Int) (i k : Nat) : wU (r :: l) i (k + 1) = wf (r :: l) i 0 * wU l i k := by
  induction k with
  | zero => simp [wU]
  | succ k ih =>
    have e : wU (r :: l) i (k + 1 + 1) = wU (r :: l) i (k + 1) * wf (r :: l) i (k + 1) := rfl
    rw [e, ih, wf_cons, Int.mul_assoc]; rfl
theorem wgt_nil (i : Nat) : wgt [] i = 1 := rfl
theorem wgt_cons (r : Int) (l : List Int) (i : Nat) : wgt (r :: l) i = (if i / 2 ^ l.length % 2 = 1 then r else 1 - r) * wgt l i := by
  unfold wgt
  rw [List.length_cons, wU_cons]
  congr 1
theorem dig_mod (v i k : Nat) (hk : k < v) : dig v (i % 2 ^ v) k = dig v i k := by
  unfold dig
  have h1 : v - 1 - k + 1 + k = v := by omega
  have e : (2 : Nat) ^ v = 2 ^ (v - 1 - k) * (2 * 2 ^ k) := by
    rw [← Nat.mul_assoc, ← Nat.pow_succ, ← Nat.pow_add, h1]
  rw [e, Nat.mod_mul_right_div_self, Nat.mod_mul_right_mod]
theorem wU_mod (l : List Int) (i k : Nat) (hk : k ≤ l.length) : wU l (i % 2 ^ l.length) k = wU l i k := by
  induction k with
  | zero => rfl
  | succ k ih =>
    simp only [wU]
    rw [ih (by omega)]
    congr 1
    unfold wf; rw [dig_mod _ _ _ (by omega)]
theorem wgt_mod (l : List Int) (i : Nat) : wgt l (i % 2 ^ l.length) = wgt l i := wU_mod l i _ (Nat.le_refl _)
end Go.Att
/-! Tables with their first variables fixed; sums over wires: plain laws. No program in sight. -/
namespace Go.Att
/-- The sum of the first n. -/
def sumN (f : Nat → Int) : Nat → Int
  | 0 => 0
  | n + 1 => sumN f n + f n
theorem sumN_congr {f g : Nat → Int} (n : Nat) (h : ∀ i, i < n → f i = g i) : sumN f n = sumN g n := by
  induction n with
  | zero => rfl
  | succ n ih => simp only [sumN]; rw [ih (fun i hi => h i (by omega)), h n (by omega)]
theorem sumN_split (f : Nat → Int) (n m : Nat) : sumN f (n + m) = sumN f n + sumN (fun i => f (i + n)) m := by
  induction m with
  | zero => simp [sumN]
  | succ m ih => rw [← Nat.add_assoc]; simp only [sumN]; rw [ih, Nat.add_comm m n]; omega
theorem sumN_plus (f g : Nat → Int) (n : Nat) : sumN f n + sumN g n = sumN (fun i => f i + g i) n := by
  induction n with
  | zero => rfl
  | succ n ih => simp only [sumN]; rw [← ih]; omega
theorem sumN_mod (p : Int) {f g : Nat → Int} (n : Nat) (h : ∀ i, i < n → f i % p = g i % p) : sumN f n % p = sumN g n % p := by
  induction n with
  | zero => rfl
  | succ n ih =>
    simp only [sumN]
    rw [Int.add_emod, ih (fun i hi => h i (by omega)), h n (by omega), ← Int.add_emod]
theorem sumN_one (f : Nat → Int) (n k : Nat) (h : ∀ i, i < n → i ≠ k → f i = 0) : sumN f n = if k < n then f k else 0 := by
  induction n with
  | zero => simp [sumN]
  | succ n ih =>
    simp only [sumN]
    rw [ih (fun i hi => h i (by omega))]
    by_cases h1 : k < n
    · rw [if_pos h1, if_pos (by omega), h n (by omega) (by omega)]; omega
    · rw [if_neg h1]
      by_cases h2 : k = n
      · subst h2; rw [if_pos (by omega)]; omega
      · rw [if_neg (by omega), h n (by omega) (by omega)]; rfl
theorem exS_sumN (t l : List Int) (n : Nat) : exS t l n = sumN (fun i => nth t i * wgt l i) n := by
  induction n with
  | zero => rfl
  | succ n ih => simp only [exS, sumN]; rw [ih]
/-- The first variable of a point, apart. -/
theorem ext_cons (t : List Int) (r : Int) (l : List Int) (h : t.length = 2 ^ (l.length + 1)) :
    ext t (r :: l) = sumN (fun i => ((1 - r) * nth t i + r * nth t (i + 2 ^ l.length)) * wgt l i) (2 ^ l.length) := by
  unfold ext
  rw [exS_sumN, h, Nat.pow_succ, Nat.mul_two, sumN_split, sumN_plus]
  refine sumN_congr _ fun i hi => ?_
  have e1 : wgt (r :: l) i = (1 - r) * wgt l i := by
    rw [wgt_cons, Nat.div_eq_of_lt hi]; rfl
  have e2 : wgt (r :: l) (i + 2 ^ l.length) = r * wgt l i := by
    rw [wgt_cons, Nat.add_div_right _ (Nat.two_pow_pos _), Nat.div_eq_of_lt hi]
    rw [← wgt_mod l (i + 2 ^ l.length), Nat.add_mod_right, wgt_mod]; rfl
  rw [e1, e2]; grind
/-- The table over one variable less. -/
def fixL (p : Int) (t : List Int) (r : Int) : List Int := (List.range (t.length / 2)).map fun i => fadd p (fmul p (nth t i) (fsub p 1 r)) (fmul p (nth t (i + t.length / 2)) r)
theorem fixL_length (p : Int) (t : List Int) (r : Int) : (fixL p t r).length = t.length / 2 := by simp [fixL]
theorem nth_map_range (f : Nat → Int) (n i : Nat) (h : i < n) : nth ((List.range n).map f) i = f i := by
  simp [nth, List.getD_eq_getElem?_getD, h]
theorem fixL_nth (p : Int) (t : List Int) (r : Int) (i : Nat) (h : i < t.length / 2) : nth (fixL p t r) i = ((1 - r) * nth t i + r * nth t (i + t.length / 2)) % p := by
  unfold fixL
  rw [nth_map_range _ _ _ h]
  simp only [fadd, fmul, fsub, em_r, ea_l, ea_r]
  congr 1; grind
theorem ext_fixL (p : Int) (t : List Int) (r : Int) (l : List Int) (h : t.length = 2 ^ (l.length + 1)) : ext (fixL p t r) l % p = ext t (r :: l) % p := by
  rw [ext_cons t r l h]
  have hh : t.length / 2 = 2 ^ l.length := by rw [h, Nat.pow_succ]; omega
  unfold ext
  rw [exS_sumN, fixL_length, hh]
  refine sumN_mod p _ fun i hi => ?_
  rw [fixL_nth p t r i (by omega), hh, em_l]
/-- .. all of some. -/
def fixAll (p : Int) : List Int → List Int → List Int
  | t, [] => t
  | t, r :: s => fixAll p (fixL p t r) s
theorem fixAll_snoc (p : Int) (t s : List Int) (r : Int) : fixAll p t (s ++ [r]) = fixL p (fixAll p t s) r := by
  induction s generalizing t with
  | nil => rfl
  | cons x s ih => exact ih _
theorem fixAll_length (p : Int) (t s : List Int) (n : Nat) (h : t.length = 2 ^ (s.length + n)) : (fixAll p t s).length = 2 ^ n := by
  induction s generalizing t with
  | nil => show t.length = _; simpa using h
  | cons x s ih => exact ih _ (by rw [fixL_length, h, List.length_cons, show s.length + 1 + n = s.length + n + 1 by omega, Nat.pow_succ]; omega)
theorem ext_fixAll (p : Int) (t s l : List Int) (h : t.length = 2 ^ (s.length + l.length)) : ext (fixAll p t s) l % p = ext t (s ++ l) % p := by
  induction s generalizing t with
  | nil => rfl
  | cons x s ih =>
    have h2 : t.length = 2 ^ ((s ++ l).length + 1) := by rw [h, List.length_append, List.length_cons]; congr 1; omega
    show ext (fixAll p (fixL p t x) s) l % p = _
    rw [ih (fixL p t x) (by rw [fixL_length, h2, Nat.pow_succ, List.length_append]; omega), ext_fixL p t x (s ++ l) h2]
    rfl
/-- The digits of a number, the greatest first. -/
def bitsL : Nat → Nat → List Int
  | 0, _ => []
  | v + 1, i => ((i / 2 ^ v % 2 : Nat) : Int) :: bitsL v i
theorem bitsL_length (v i : Nat) : (bitsL v i).length = v := by
  induction v with
  | zero => rfl
  | succ v ih => simp [bitsL, ih]
theorem bitsL_nth (v i k : Nat) (h : k < v) : nth (bitsL v i) k = (dig v i k : Nat) := by
  induction v generalizing k with
  | zero => omega
  | succ v ih =>
    cases k with
    | zero => simp [nth, bitsL, dig]
    | succ k => rw [dig_cons, ← ih k (by omega)]; rfl
theorem bitsL_drop (v i k : Nat) (h : k ≤ v) : (bitsL v i).drop k = bitsL (v - k) i := by
  induction v generalizing k with
  | zero => simp [bitsL]
  | succ v ih =>
    cases k with
    | zero => rfl
    | succ k => rw [bitsL, List.drop_succ_cons, ih k (by omega)]; congr 1; omega
theorem wgt_bits (v i j : Nat) : wgt (bitsL v i) j = if j % 2 ^ v = i % 2 ^ v then 1 else 0 := by
  induction v with
  | zero => simp [bitsL, wgt_nil, Nat.mod_one]
  | succ v ih =>
    rw [bitsL, wgt_cons, bitsL_length, ih]
    have hi := Nat.mod_pow_succ (x := i) (b := 2) (k := v)
    have hj := Nat.mod_pow_succ (x := j) (b := 2) (k := v)
    have hp := Nat.two_pow_pos v
    have li := Nat.mod_lt i hp
    have lj := Nat.mod_lt j hp
    rw [hi, hj]
    rcases Nat.mod_two_eq_zero_or_one (i / 2 ^ v) with a | a <;> rcases Nat.mod_two_eq_zero_or_one (j / 2 ^ v) with b | b <;> rw [a, b] <;> simp
    · intro h; omega
    · intro h; omega
theorem ext_bits (t : List Int) (v i : Nat) (h : t.length = 2 ^ v) : ext t (bitsL v i) = nth t (i % 2 ^ v) := by
  unfold ext
  have hp := Nat.two_pow_pos v
  have hl := Nat.mod_lt i hp
  rw [exS_sumN, sumN_one _ _ (i % 2 ^ v) (fun j hj hne => by
    rw [wgt_bits, Nat.mod_eq_of_lt (by omega), if_neg hne, Int.mul_zero]), h, if_pos hl, wgt_bits, Nat.mod_mod, if_pos rfl, Int.mul_one]
/-- What a table is where its first variables are fixed. -/
theorem half_is (p : Int) (t s : List Int) (n i : Nat) (hs : s.length ≤ n) (h : t.length = 2 ^ n) : nth (fixAll p t s) (i % 2 ^ (n - s.length)) % p = ext t (s ++ bitsL (n - s.length) i) % p := by
  have e : t.length = 2 ^ (s.length + (n - s.length)) := by rw [h]; congr 1; omega
  rw [← ext_bits _ _ _ (fixAll_length p t s (n - s.length) e), ext_fixAll p t s _ (by rw [bitsL_length]; exact e)]

/-! The wires. -/
/-- The factors of the numbers at a place's digits. -/
def facN (at0 xs : List Int) : Nat → Int
  | 0 => 1
  | k + 1 => facN at0 xs k * (if nth at0 k = 0 then 1 - nth xs k else nth xs k)
/-- The share of one side of a wire. -/
def sh (n : Nat) (s : List Int) (A : Nat) : Int := wgt s (A / 2 ^ (n - s.length))
/-- What the values are at one side. -/
def sd (n : Nat) (t s : List Int) (A : Nat) : Int := ext t (s ++ bitsL (n - s.length) A)
theorem nth_take (l : List Int) (m k : Nat) (h : k < m) : nth (l.take m) k = nth l k := by
  simp [nth, List.getD_eq_getElem?_getD, h]
theorem nth_drop (l : List Int) (m k : Nat) : nth (l.drop m) k = nth l (m + k) := by
  simp [nth, List.getD_eq_getElem?_getD, List.getElem?_drop]
theorem nth_app_l (a b : List Int) (k : Nat) (h : k < a.length) : nth (a ++ b) k = nth a k := by
  simp [nth, List.getD_eq_getElem?_getD, List.getElem?_append_left h]
theorem nth_app_r (a b : List Int) (k : Nat) : nth (a ++ b) (a.length + k) = nth b k := by
  simp [nth, List.getD_eq_getElem?_getD, List.getElem?_append_right]
theorem dig_shift (v i m k : Nat) (hm : m ≤ v) (hk : k < m) : dig m (i / 2 ^ (v - m)) k = dig v i k := by
  unfold dig
  rw [Nat.div_div_eq_div_mul, ← Nat.pow_add]
  congr 3; omega
/-- The product of the first factors is a share. -/
theorem fac_share (at0 xs : List Int) (off n m i : Nat) (hm : m ≤ n) (hl : off + m ≤ xs.length) (hd : ∀ k, k < m → nth at0 (off + k) = (dig n i k : Nat)) (k : Nat) (hk : k ≤ m) :
    facN at0 xs (off + k) = facN at0 xs off * wU ((xs.drop off).take m) (i / 2 ^ (n - m)) k := by
  have len : ((xs.drop off).take m).length = m := by simp; omega
  induction k with
  | zero => simp [wU]
  | succ k ih =>
    rw [← Nat.add_assoc]
    simp only [facN, wU]
    rw [ih (by omega), hd k (by omega)]
    have e : wf ((xs.drop off).take m) (i / 2 ^ (n - m)) k = if ((dig n i k : Nat) : Int) = 0 then 1 - nth xs (off + k) else nth xs (off + k) := by
      unfold wf
      rw [len, dig_shift n i m k hm (by omega), nth_take _ _ _ (by omega), nth_drop]
      have : dig n i k = 0 ∨ dig n i k = 1 := by unfold dig; omega
      rcases this with h | h <;> rw [h] <;> simp
    rw [e, Int.mul_assoc]
theorem fac_shs (n A B : Nat) (xs : List Int) (h : xs.length ≤ 2 * n) : facN (bitsL n A ++ bitsL n B) xs xs.length = sh n (xs.take n) A * sh n (xs.drop n) B := by
  have h1 := fac_share (bitsL n A ++ bitsL n B) xs 0 n (min n xs.length) A (by omega) (by omega) (fun k hk => by
    rw [Nat.zero_add, nth_app_l _ _ _ (by rw [bitsL_length]; omega), bitsL_nth _ _ _ (by omega)]) (min n xs.length) (Nat.le_refl _)
  have e1 : facN (bitsL n A ++ bitsL n B) xs (min n xs.length) = sh n (xs.take n) A := by
    have ht : xs.take (min n xs.length) = xs.take n := by
      by_cases hn : n ≤ xs.length
      · rw [Nat.min_eq_left hn]
      · rw [Nat.min_eq_right (by omega), List.take_length, List.take_of_length_le (by omega)]
    rw [Nat.zero_add] at h1
    rw [h1, facN, Int.one_mul, List.drop_zero, ht, sh, wgt, List.length_take]
  by_cases hn : xs.length ≤ n
  · have hm : min n xs.length = xs.length := by omega
    rw [hm] at e1
    rw [e1, List.drop_of_length_le hn]
    show _ = _ * wgt [] _
    rw [wgt_nil, Int.mul_one]
  · have hm : min n xs.length = n := by omega
    rw [hm] at e1
    have h2 := fac_share (bitsL n A ++ bitsL n B) xs n n (xs.length - n) B (by omega) (by omega) (fun k hk => by
      have := nth_app_r (bitsL n A) (bitsL n B) k
      rw [bitsL_length] at this
      rw [this, bitsL_nth _ _ _ (by omega)]) (xs.length - n) (Nat.le_refl _)
    rw [show n + (xs.length - n) = xs.length by omega] at h2
    have ht : (xs.drop n).take (xs.length - n) = xs.drop n := List.take_of_length_le (by simp)
    rw [h2, e1, ht]; congr 1; unfold sh wgt; rw [List.length_drop]
/-- What a gate is at its wires' values, unreduced. -/
def gop (k a b : Int) : Int := if k = 1 then a * b else a + b
abbrev Gt := Int × Int × Int
def partT (n : Nat) (t z xs : List Int) (i : Nat) (g : Gt) : Int := wgt z i * (sh n (xs.take n) g.2.1.toNat * sh n (xs.drop n) g.2.2.toNat) * gop g.1 (sd n t (xs.take n) g.2.1.toNat) (sd n t (xs.drop n) g.2.2.toNat)
/-- The sum over the places whose first variables are fixed. -/
def partS (l : List Gt) (n : Nat) (t z xs : List Int) (k : Nat) : Int := sumN (fun i => partT n t z xs i (l.getD i (0, 0, 0))) k
end Go.Att
/-! Sums over wires: nothing fixed; one variable more; one variable as a number. Plain laws. -/
namespace Go.Att
/-! Nothing fixed. -/
theorem sh_nil (n A : Nat) : sh n [] A = 1 := rfl
theorem sd_nil (n : Nat) (t : List Int) (A : Nat) (h : t.length = 2 ^ n) (hA : A < 2 ^ n) : sd n t [] A = nth t A := by
  show ext t (bitsL (n - 0) A) = _
  rw [Nat.sub_zero, ext_bits t n A h, Nat.mod_eq_of_lt hA]
theorem partT_nil (n : Nat) (t z : List Int) (i : Nat) (g : Gt) (h : t.length = 2 ^ n) (hA : g.2.1.toNat < 2 ^ n) (hB : g.2.2.toNat < 2 ^ n) :
    partT n t z [] i g = wgt z i * gop g.1 (nth t g.2.1.toNat) (nth t g.2.2.toNat) := by
  unfold partT
  rw [List.take_nil, List.drop_nil, sh_nil, sh_nil, sd_nil n t _ h hA, sd_nil n t _ h hB, Int.mul_one, Int.mul_one]
/-- The table of the layer above at a point. -/
theorem partS_nil (p : Int) (l : List Gt) (n : Nat) (t z u : List Int) (h : t.length = 2 ^ n) (hl : ∀ i, i < l.length → (l.getD i (0, 0, 0)).2.1.toNat < 2 ^ n ∧ (l.getD i (0, 0, 0)).2.2.toNat < 2 ^ n) (hu : u.length = l.length)
    (hv : ∀ i, i < l.length → nth u i = gop (l.getD i (0, 0, 0)).1 (nth t (l.getD i (0, 0, 0)).2.1.toNat) (nth t (l.getD i (0, 0, 0)).2.2.toNat) % p) :
    partS l n t z [] l.length % p = ext u z % p := by
  unfold partS ext
  rw [exS_sumN, hu]
  refine sumN_mod p _ fun i hi => ?_
  rw [partT_nil n t z i _ h (hl i hi).1 (hl i hi).2, hv i hi, em_l, Int.mul_comm]
/-! One variable more. -/
theorem wgt_snoc (l : List Int) (b : Int) (i : Nat) : wgt (l ++ [b]) i = wgt l (i / 2) * (if i % 2 = 1 then b else 1 - b) := by
  induction l with
  | nil => simp [wgt_cons, wgt_nil, Nat.div_one]
  | cons r l ih =>
    rw [List.cons_append, wgt_cons, wgt_cons, ih, List.length_append, List.length_singleton, Nat.div_div_eq_div_mul, Nat.mul_comm 2, ← Nat.pow_succ, Int.mul_assoc]
theorem sh_snoc (n : Nat) (s : List Int) (b : Int) (A : Nat) (h : s.length < n) : sh n (s ++ [b]) A = sh n s A * (if A / 2 ^ (n - s.length - 1) % 2 = 1 then b else 1 - b) := by
  unfold sh
  rw [wgt_snoc, List.length_append, List.length_singleton, Nat.div_div_eq_div_mul, ← Nat.pow_succ, show n - (s.length + 1) = n - s.length - 1 by omega, show (n - s.length - 1).succ = n - s.length by omega]
theorem sd_snoc (n : Nat) (t s : List Int) (A : Nat) (h : s.length < n) : sd n t (s ++ [((A / 2 ^ (n - s.length - 1) % 2 : Nat) : Int)]) A = sd n t s A := by
  unfold sd
  rw [List.length_append, List.length_singleton, List.append_assoc, show n - (s.length + 1) = n - s.length - 1 by omega]
  congr 2
  obtain ⟨m, hm⟩ : ∃ m, n - s.length = m + 1 := ⟨n - s.length - 1, by omega⟩
  rw [hm]; rfl
/-- What both sides make of a variable. -/
theorem side_snoc (n : Nat) (t s : List Int) (A : Nat) (h : s.length < n) (G : Int → Int) :
    sh n (s ++ [0]) A * G (sd n t (s ++ [0]) A) + sh n (s ++ [1]) A * G (sd n t (s ++ [1]) A) = sh n s A * G (sd n t s A) := by
  have hd := sd_snoc n t s A h
  rw [sh_snoc n s 0 A h, sh_snoc n s 1 A h]
  rcases Nat.mod_two_eq_zero_or_one (A / 2 ^ (n - s.length - 1)) with e | e <;> rw [e] at hd ⊢
  · rw [show ((0 : Nat) : Int) = 0 from rfl] at hd; rw [hd]; simp
  · rw [show ((1 : Nat) : Int) = 1 from rfl] at hd; rw [hd]; simp
theorem partT_snoc (n : Nat) (t z xs : List Int) (i : Nat) (g : Gt) (h : xs.length < 2 * n) : partT n t z xs i g = partT n t z (xs ++ [0]) i g + partT n t z (xs ++ [1]) i g := by
  unfold partT
  by_cases hn : xs.length < n
  · have e1 : ∀ b : Int, (xs ++ [b]).take n = xs ++ [b] := fun b => List.take_of_length_le (by simp; omega)
    have e2 : ∀ b : Int, (xs ++ [b]).drop n = [] := fun b => List.drop_of_length_le (by simp; omega)
    rw [e1, e1, e2, e2, List.take_of_length_le (by omega), List.drop_of_length_le (by omega)]
    have := side_snoc n t xs g.2.1.toNat hn (fun X => wgt z i * sh n [] g.2.2.toNat * gop g.1 X (sd n t [] g.2.2.toNat))
    grind
  · have e1 : ∀ b : Int, (xs ++ [b]).take n = xs.take n := fun b => List.take_append_of_le_length (by omega)
    have e2 : ∀ b : Int, (xs ++ [b]).drop n = xs.drop n ++ [b] := fun b => List.drop_append_of_le_length (by omega)
    rw [e1, e1, e2, e2]
    have := side_snoc n t (xs.drop n) g.2.2.toNat (by simp; omega) (fun X => wgt z i * sh n (xs.take n) g.2.1.toNat * gop g.1 (sd n t (xs.take n) g.2.1.toNat) X)
    grind
theorem partS_snoc (l : List Gt) (n : Nat) (t z xs : List Int) (k : Nat) (h : xs.length < 2 * n) : partS l n t z xs k = partS l n t z (xs ++ [0]) k + partS l n t z (xs ++ [1]) k := by
  unfold partS
  rw [sumN_plus]
  exact sumN_congr _ fun i _ => partT_snoc n t z xs i _ h
/-! Polynomials of so many numbers. -/
def PolyN (m : Nat) (f : Int → Int) : Prop := ∃ q : List Int, q.length = m ∧ ∀ t, ev q t = f t
theorem PolyN.congr {m : Nat} {f g : Int → Int} (h : PolyN m f) (e : ∀ t, f t = g t) : PolyN m g := by
  obtain ⟨q, h1, h2⟩ := h; exact ⟨q, h1, fun t => by rw [h2, e]⟩
theorem ev_zipAdd (a b : List Int) (h : a.length = b.length) (t : Int) : ev (List.zipWith (· + ·) a b) t = ev a t + ev b t := by
  induction a generalizing b with
  | nil => cases b with
    | nil => rfl
    | cons y b => simp at h
  | cons x a ih =>
    cases b with
    | nil => simp at h
    | cons y b => simp only [List.zipWith_cons_cons, ev]; rw [ih b (by simpa using h)]; grind
theorem ev_map_mul (c : Int) (a : List Int) (t : Int) : ev (a.map (c * ·)) t = c * ev a t := by
  induction a with
  | nil => simp [ev]
  | cons x a ih => simp only [List.map_cons, ev]; rw [ih]; grind
theorem ev_zs (m : Nat) (t : Int) : ev (List.replicate m 0) t = 0 := by
  induction m with
  | zero => rfl
  | succ m ih => simp only [List.replicate_succ, ev]; rw [ih]; simp
theorem ev_app_zs (a : List Int) (m : Nat) (t : Int) : ev (a ++ List.replicate m 0) t = ev a t := by
  induction a with
  | nil => rw [List.nil_append, ev_zs]; rfl
  | cons x a ih => simp only [List.cons_append, ev]; rw [ih]
theorem PolyN.add {m : Nat} {f g : Int → Int} (h1 : PolyN m f) (h2 : PolyN m g) : PolyN m fun t => f t + g t := by
  obtain ⟨a, ha, ea⟩ := h1
  obtain ⟨b, hb, eb⟩ := h2
  exact ⟨List.zipWith (· + ·) a b, by simp [ha, hb], fun t => by rw [ev_zipAdd a b (by omega), ea, eb]⟩
theorem PolyN.smul {m : Nat} {f : Int → Int} (c : Int) (h : PolyN m f) : PolyN m fun t => c * f t := by
  obtain ⟨a, ha, ea⟩ := h
  exact ⟨a.map (c * ·), by simp [ha], fun t => by rw [ev_map_mul, ea]⟩
theorem PolyN.mono {m n : Nat} {f : Int → Int} (h : PolyN m f) (hn : m ≤ n) : PolyN n f := by
  obtain ⟨a, ha, ea⟩ := h
  exact ⟨a ++ List.replicate (n - m) 0, by simp; omega, fun t => by rw [ev_app_zs, ea]⟩
theorem PolyN.const (c : Int) {m : Nat} (h : 1 ≤ m) : PolyN m fun _ => c := PolyN.mono ⟨[c], rfl, fun t => by simp [ev]⟩ h
theorem PolyN.zero (m : Nat) : PolyN m fun _ => 0 := ⟨List.replicate m 0, by simp, fun t => ev_zs m t⟩
theorem PolyN.var {m : Nat} {f : Int → Int} (h : PolyN m f) : PolyN (m + 1) fun t => t * f t := by
  obtain ⟨a, ha, ea⟩ := h
  exact ⟨0 :: a, by simp [ha], fun t => by simp only [ev]; rw [ea]; omega⟩
theorem PolyN.lin {m : Nat} {f : Int → Int} (c d : Int) (h : PolyN m f) : PolyN (m + 1) fun t => (c + d * t) * f t :=
  (((h.smul c).mono (Nat.le_succ m)).add (h.smul d).var).congr fun t => by grind
theorem PolyN.sum {m : Nat} {F : Nat → Int → Int} (n : Nat) (h : ∀ i, i < n → PolyN m (F i)) : PolyN m fun t => sumN (fun i => F i t) n := by
  induction n with
  | zero => exact PolyN.zero m
  | succ n ih => exact (ih fun i hi => h i (by omega)).add (h n (by omega))
/-! A point of a line: the table there is a polynomial. -/
def lineZ (x y : List Int) (t : Int) : List Int := List.zipWith (fun a b => a + t * (b - a)) x y
theorem wgt_line (x y : List Int) (h : x.length = y.length) (i : Nat) : PolyN (x.length + 1) fun t => wgt (lineZ x y t) i := by
  induction x generalizing y with
  | nil => exact PolyN.const 1 (Nat.le_refl _)
  | cons a x ih =>
    cases y with
    | nil => simp at h
    | cons b y =>
      have hl : x.length = y.length := by simpa using h
      have hz : ∀ t, (lineZ x y t).length = x.length := fun t => by simp [lineZ, hl]
      have := ih y hl
      by_cases e : i / 2 ^ x.length % 2 = 1
      · refine (this.lin a (b - a)).congr fun t => ?_
        show _ = wgt ((a + t * (b - a)) :: lineZ x y t) i
        rw [wgt_cons, hz, if_pos e]; grind
      · refine (this.lin (1 - a) (a - b)).congr fun t => ?_
        show _ = wgt ((a + t * (b - a)) :: lineZ x y t) i
        rw [wgt_cons, hz, if_neg e]; grind
theorem ext_line (T x y : List Int) (h : x.length = y.length) : PolyN (x.length + 1) fun t => ext T (lineZ x y t) := by
  refine (PolyN.sum (F := fun i t => nth T i * wgt (lineZ x y t) i) T.length fun i _ => (wgt_line x y h i).smul _).congr fun t => ?_
  unfold ext; rw [exS_sumN]
/-! One variable of a layer's sum as a number. -/
theorem wgt_aff (l : List Int) (i : Nat) (r : Int) : wgt (r :: l) i = (1 - r) * wgt (0 :: l) i + r * wgt (1 :: l) i := by
  simp only [wgt_cons]
  split <;> grind
theorem ext_aff (T l : List Int) (r : Int) : ext T (r :: l) = (1 - r) * ext T (0 :: l) + r * ext T (1 :: l) := by
  unfold ext
  generalize T.length = n
  induction n with
  | zero => simp [exS]
  | succ n ih => simp only [exS]; rw [ih, wgt_aff l n r]; grind
theorem partT_one (n : Nat) (t z : List Int) (i : Nat) (g : Gt) (h : 1 ≤ n) : PolyN 3 fun r => partT n t z [r] i g := by
  have e : ∀ r : Int, partT n t z [r] i g = (wgt z i * sh n [] g.2.2.toNat) * (((1 - r) * sh n [0] g.2.1.toNat + r * sh n [1] g.2.1.toNat) * ((1 - r) * gop g.1 (sd n t [0] g.2.1.toNat) (sd n t [] g.2.2.toNat) + r * gop g.1 (sd n t [1] g.2.1.toNat) (sd n t [] g.2.2.toNat))) := by
    intro r
    unfold partT
    rw [List.take_of_length_le (by simpa using h), List.drop_of_length_le (by simpa using h)]
    have e1 : sh n [r] g.2.1.toNat = (1 - r) * sh n [0] g.2.1.toNat + r * sh n [1] g.2.1.toNat := wgt_aff [] _ r
    have e2 : sd n t [r] g.2.1.toNat = (1 - r) * sd n t [0] g.2.1.toNat + r * sd n t [1] g.2.1.toNat := ext_aff t _ r
    have e3 : ∀ X Y Z : Int, gop g.1 ((1 - r) * X + r * Y) Z = (1 - r) * gop g.1 X Z + r * gop g.1 Y Z := by intro X Y Z; unfold gop; split <;> grind
    rw [e1, e2, e3]; grind
  generalize wgt z i * sh n [] g.2.2.toNat = W at e
  generalize sh n [0] g.2.1.toNat = S0 at e
  generalize sh n [1] g.2.1.toNat = S1 at e
  generalize gop g.1 (sd n t [0] g.2.1.toNat) (sd n t [] g.2.2.toNat) = G0 at e
  generalize gop g.1 (sd n t [1] g.2.1.toNat) (sd n t [] g.2.2.toNat) = G1 at e
  exact ⟨[W * (S0 * G0), W * ((S1 - S0) * G0 + S0 * (G1 - G0)), W * ((S1 - S0) * (G1 - G0))], rfl, fun r => by show _ = partT n t z [r] i g; rw [e]; simp only [ev]; grind⟩
theorem partS_one (l : List Gt) (n : Nat) (t z : List Int) (k : Nat) (h : 1 ≤ n) : PolyN 3 fun r => partS l n t z [r] k :=
  PolyN.sum (F := fun i r => partT n t z [r] i (l.getD i (0, 0, 0))) k fun i _ => partT_one n t z i _ h
end Go.Att
/-! The document's polynomials: plain laws. No program in sight. -/
namespace Go.Att
theorem mad {p a b c d : Int} (x : Int) (h1 : a % p = b % p) (h2 : c % p = d % p) : (a + x * c) % p = (b + x * d) % p := by
  rw [Int.add_emod, Int.mul_emod, h1, h2, ← Int.mul_emod, ← Int.add_emod]
theorem mmul {p a b c d : Int} (h1 : a % p = b % p) (h2 : c % p = d % p) : (a * c) % p = (b * d) % p := by
  rw [Int.mul_emod, h1, h2, ← Int.mul_emod]
theorem madd {p a b c d : Int} (h1 : a % p = b % p) (h2 : c % p = d % p) : (a + c) % p = (b + d) % p := by
  rw [Int.add_emod, h1, h2, ← Int.add_emod]
theorem sumN_mul (c : Int) (f : Nat → Int) (n : Nat) : c * sumN f n = sumN (fun i => c * f i) n := by
  induction n with
  | zero => simp [sumN]
  | succ n ih => simp only [sumN]; rw [Int.mul_add, ih]
theorem sumN_succ' (f : Nat → Int) (n : Nat) : sumN f (n + 1) = f 0 + sumN (fun i => f (i + 1)) n := by
  induction n with
  | zero => simp [sumN]
  | succ n ih => rw [sumN, ih, sumN]; omega
theorem sumN_zero (n : Nat) : sumN (fun _ => 0) n = 0 := by
  induction n with
  | zero => rfl
  | succ n ih => simp only [sumN]; rw [ih]; rfl
/-- What a list of coefficients comes to, as a sum. -/
theorem ev_sumN (a : List Int) (x : Int) (m : Nat) (h : a.length ≤ m) : ev a x = sumN (fun i => nth a i * x ^ i) m := by
  induction a generalizing m with
  | nil =>
    rw [sumN_congr (g := fun _ => 0) m (fun i _ => by simp [nth]), sumN_zero]; rfl
  | cons c a ih =>
    obtain ⟨k, rfl⟩ : ∃ k, m = k + 1 := ⟨m - 1, by simp at h; omega⟩
    rw [sumN_succ', ev, ih k (by simpa using h), sumN_mul]
    congr 1
    · simp [nth]
    · refine sumN_congr _ fun i _ => ?_
      show x * (nth a i * x ^ i) = nth a i * x ^ (i + 1)
      rw [Int.pow_succ]; grind
theorem ev_range (f : Nat → Int) (n : Nat) (x : Int) : ev ((List.range n).map f) x = sumN (fun i => f i * x ^ i) n := by
  rw [ev_sumN _ x n (by simp)]
  exact sumN_congr _ fun i hi => by rw [nth_map_range _ _ _ hi]
theorem ev_map_mod (p : Int) (a : List Int) (x : Int) : ev (a.map (fof p)) x % p = ev a x % p := by
  induction a with
  | nil => rfl
  | cons c a ih => exact mad x (e_idem c p) ih
/-- How many numbers there are up to the last that is not 0. -/
def degN (p : Int) : List Int → Nat
  | [] => 0
  | c :: l => if degN p l = 0 then (if fof p c = 0 then 0 else 1) else degN p l + 1
def trimL (p : Int) (a : List Int) : List Int := (a.take (degN p a)).map (fof p)
theorem degN_le (p : Int) (a : List Int) : degN p a ≤ a.length := by
  induction a with
  | nil => exact Nat.le_refl _
  | cons c l ih => simp only [degN, List.length_cons]; split <;> (try split) <;> omega
theorem degN_none (p : Int) (a : List Int) (h : ∀ i, i < a.length → fof p (nth a i) = 0) : degN p a = 0 := by
  induction a with
  | nil => rfl
  | cons c l ih =>
    have h0 : fof p c = 0 := h 0 (by simp)
    have := ih fun i hi => h (i + 1) (by simpa using hi)
    simp only [degN]; rw [if_pos this, if_pos h0]
theorem degN_at (p : Int) (a : List Int) (i : Nat) (hi : i < a.length) (h0 : fof p (nth a i) ≠ 0) (h : ∀ j, i < j → j < a.length → fof p (nth a j) = 0) : degN p a = i + 1 := by
  induction a generalizing i with
  | nil => simp at hi
  | cons c l ih =>
    cases i with
    | zero =>
      have h1 : fof p c ≠ 0 := h0
      have := degN_none p l fun j hj => h (j + 1) (by omega) (by simpa using hj)
      simp only [degN]; rw [if_pos this, if_neg h1]
    | succ i =>
      have := ih i (by simpa using hi) h0 fun j hj hl => h (j + 1) (by omega) (by simpa using hl)
      simp only [degN]; rw [if_neg (by omega), this]
theorem ev_trim (p : Int) (a : List Int) (x : Int) : ev (trimL p a) x % p = ev a x % p := by
  induction a with
  | nil => rfl
  | cons c l ih =>
    unfold trimL at *
    simp only [degN]
    by_cases h : degN p l = 0
    · rw [if_pos h]
      rw [h] at ih
      simp only [List.take_zero, List.map_nil] at ih
      split
      · rename_i hc
        exact (by rw [List.take_zero, List.map_nil]; show (0 : Int) % p = (c + x * ev l x) % p; rw [← mad (a := c % p) x (e_idem c p) ih]; rw [show c % p = 0 from hc]; simp [ev])
      · exact mad x (e_idem c p) ih
    · rw [if_neg h]
      exact mad x (e_idem c p) ih
theorem trimL_length (p : Int) (a : List Int) : (trimL p a).length ≤ a.length := by
  unfold trimL; rw [List.length_map, List.length_take]; omega
/-- The sum. -/
def addL (p : Int) (a b : List Int) : List Int := (List.range (max a.length b.length)).map fun i => fadd p (nth a i) (nth b i)
def plusL (p : Int) (a b : List Int) : List Int := trimL p (addL p a b)
theorem ev_plus (p : Int) (a b : List Int) (x : Int) : ev (plusL p a b) x % p = (ev a x + ev b x) % p := by
  unfold plusL addL
  rw [ev_trim, ev_range, ev_sumN a x (max a.length b.length) (by omega), ev_sumN b x (max a.length b.length) (by omega), sumN_plus]
  refine sumN_mod p _ fun i _ => ?_
  rw [fadd, em_l]; congr 1; grind
theorem plusL_length (p : Int) (a b : List Int) : (plusL p a b).length ≤ max a.length b.length := by
  have := trimL_length p (addL p a b)
  unfold plusL; unfold addL at this ⊢; simpa using this
/-- .. times an element, and times x^k. -/
def sclL (p : Int) (a : List Int) (c : Int) (k : Nat) : List Int := List.replicate k 0 ++ a.map (fmul p · c)
def scaledL (p : Int) (a : List Int) (c : Int) (k : Nat) : List Int := trimL p (sclL p a c k)
theorem ev_shift (k : Nat) (a : List Int) (x : Int) : ev (List.replicate k 0 ++ a) x = x ^ k * ev a x := by
  induction k with
  | zero => simp
  | succ k ih => rw [List.replicate_succ, List.cons_append, ev, ih, Int.pow_succ]; grind
theorem ev_map_mulmod (p c : Int) (a : List Int) (x : Int) : ev (a.map (fmul p · c)) x % p = (c * ev a x) % p := by
  induction a with
  | nil => simp [ev]
  | cons d a ih =>
    show (fmul p d c + x * ev (a.map (fmul p · c)) x) % p = (c * (d + x * ev a x)) % p
    refine (mad (a := fmul p d c) (b := d * c) x (e_idem (d * c) p) ih).trans ?_
    congr 1; grind
theorem ev_scaled (p : Int) (a : List Int) (c : Int) (k : Nat) (x : Int) : ev (scaledL p a c k) x % p = (x ^ k * (c * ev a x)) % p := by
  unfold scaledL sclL
  rw [ev_trim, ev_shift]
  exact mmul rfl (ev_map_mulmod p c a x)
theorem scaledL_length (p : Int) (a : List Int) (c : Int) (k : Nat) : (scaledL p a c k).length ≤ k + a.length := by
  have := trimL_length p (sclL p a c k)
  unfold scaledL; unfold sclL at this ⊢; simpa using this
/-- The product. -/
def timesS (p : Int) (a b : List Int) : Nat → List Int
  | 0 => []
  | i + 1 => plusL p (timesS p a b i) (scaledL p b (nth a i) i)
def timesL (p : Int) (a b : List Int) : List Int := timesS p a b a.length
theorem ev_timesS (p : Int) (a b : List Int) (x : Int) (n : Nat) : ev (timesS p a b n) x % p = (sumN (fun i => nth a i * x ^ i) n * ev b x) % p := by
  induction n with
  | zero => simp [timesS, ev, sumN]
  | succ n ih =>
    simp only [timesS, sumN]
    rw [ev_plus, madd ih (ev_scaled p b (nth a n) n x)]; congr 1; grind
theorem ev_times (p : Int) (a b : List Int) (x : Int) : ev (timesL p a b) x % p = (ev a x * ev b x) % p := by
  unfold timesL
  rw [ev_timesS, ev_sumN a x a.length (Nat.le_refl _)]
theorem timesS_length (p : Int) (a b : List Int) (n : Nat) : (timesS p a b n).length ≤ n - 1 + b.length := by
  induction n with
  | zero => simp [timesS]
  | succ n ih =>
    have h1 := plusL_length p (timesS p a b n) (scaledL p b (nth a n) n)
    have h2 := scaledL_length p b (nth a n) n
    simp only [timesS]; omega
/-- The product of x - xs[i], but for the place k. -/
def vanS (p : Int) (xs : List Int) (k : Int) : Nat → List Int
  | 0 => [1]
  | i + 1 => if (i : Int) = k then vanS p xs k i else timesL p (vanS p xs k i) [fsub p 0 (nth xs i), 1]
def vanP (xs : List Int) (k x : Int) : Nat → Int
  | 0 => 1
  | i + 1 => if (i : Int) = k then vanP xs k x i else vanP xs k x i * (x - nth xs i)
theorem ev_van (p : Int) (xs : List Int) (k x : Int) (n : Nat) : ev (vanS p xs k n) x % p = vanP xs k x n % p := by
  induction n with
  | zero => simp [vanS, vanP, ev]
  | succ n ih =>
    simp only [vanS, vanP]
    split
    · exact ih
    · rw [ev_times]
      refine mmul ih ?_
      simp only [ev, fsub, Int.mul_zero, Int.add_zero, Int.mul_one]
      rw [ea_l]; congr 1; omega
theorem vanS_length (p : Int) (xs : List Int) (k : Int) (n : Nat) : (vanS p xs k n).length ≤ n + 1 := by
  induction n with
  | zero => simp [vanS]
  | succ n ih =>
    simp only [vanS]
    split
    · omega
    · have := timesS_length p (vanS p xs k n) [fsub p 0 (nth xs n), 1] (vanS p xs k n).length
      unfold timesL; simp at this ⊢; omega
theorem vanS_length_but (p : Int) (xs : List Int) (k n : Nat) (h : k < n) : (vanS p xs k n).length ≤ n := by
  induction n with
  | zero => omega
  | succ n ih =>
    simp only [vanS]
    split
    · exact vanS_length p xs k n
    · rename_i hne
      have hk : k < n := by omega
      have := timesS_length p (vanS p xs k n) [fsub p 0 (nth xs n), 1] (vanS p xs k n).length
      have := ih hk
      unfold timesL; simp at *; omega
theorem vanP_zero (xs : List Int) (k m n : Nat) (hm : m < n) (hk : m ≠ k) : vanP xs k (nth xs m) n = 0 := by
  induction n with
  | zero => omega
  | succ n ih =>
    simp only [vanP]
    by_cases h : m = n
    · subst h; rw [if_neg (by omega)]; simp
    · rw [ih (by omega)]; split <;> simp
theorem vanP_unit {p : Int} (hp : Pr p) (xs : List Int) (k n : Nat) (h : ∀ i, i < n → i ≠ k → ¬ p ∣ nth xs k - nth xs i) : ¬ p ∣ vanP xs k (nth xs k) n := by
  induction n with
  | zero => intro hd; have h1 : p ∣ 1 := hd; have := Int.le_of_dvd (by decide) h1; have := hp.two; omega
  | succ n ih =>
    simp only [vanP]
    have := ih fun i hi => h i (by omega)
    split
    · exact this
    · rename_i hne
      exact fun hd => (hp.euclid hd).elim this (h n (by omega) (by omega))
/-- The polynomial through points. -/
def fitC (p : Int) (xs ys : List Int) (i : Nat) : Int := fdiv p (nth ys i) (ev (vanS p xs i xs.length) (nth xs i) % p)
def fitS (p : Int) (xs ys : List Int) : Nat → List Int
  | 0 => []
  | i + 1 => plusL p (fitS p xs ys i) (scaledL p (vanS p xs i xs.length) (fitC p xs ys i) 0)
def fitL (p : Int) (xs ys : List Int) : List Int := fitS p xs ys xs.length
theorem fitS_length (p : Int) (xs ys : List Int) (n : Nat) (h : n ≤ xs.length) : (fitS p xs ys n).length ≤ xs.length := by
  induction n with
  | zero => simp [fitS]
  | succ n ih =>
    have h1 := plusL_length p (fitS p xs ys n) (scaledL p (vanS p xs n xs.length) (fitC p xs ys n) 0)
    have h2 := scaledL_length p (vanS p xs n xs.length) (fitC p xs ys n) 0
    have h3 := vanS_length_but p xs n xs.length (by omega)
    have h4 := ih (by omega)
    simp only [fitS]; omega
theorem fitL_length (p : Int) (xs ys : List Int) : (fitL p xs ys).length ≤ xs.length := fitS_length p xs ys _ (Nat.le_refl _)
theorem ev_fitS (p : Int) (xs ys : List Int) (x : Int) (n : Nat) : ev (fitS p xs ys n) x % p = sumN (fun i => fitC p xs ys i * vanP xs i x xs.length) n % p := by
  induction n with
  | zero => simp [fitS, ev, sumN]
  | succ n ih =>
    simp only [fitS, sumN]
    rw [ev_plus]
    refine madd ih ?_
    rw [ev_scaled, Int.pow_zero, Int.one_mul]
    exact mmul rfl (ev_van p xs n x xs.length)
theorem finv_mul {p : Int} (hp : Pr p) {a : Int} (ha : ¬ p ∣ a) : (finv p a * a) % p = 1 := by
  have h2 := hp.two
  unfold finv
  rw [em_l, ← Int.pow_succ, show (p - 2).toNat.succ = (p - 1).toNat by omega]
  exact fermat hp ha
/-- It goes through them. -/
theorem fit_at {p : Int} (hp : Pr p) (xs ys : List Int) (m : Nat) (hm : m < xs.length) (h : ∀ i, i < xs.length → i ≠ m → ¬ p ∣ nth xs m - nth xs i) : ev (fitL p xs ys) (nth xs m) % p = nth ys m % p := by
  unfold fitL
  rw [ev_fitS, sumN_one _ _ m (fun i hi hne => by rw [vanP_zero xs i m xs.length hm (fun e => hne e.symm), Int.mul_zero]), if_pos hm]
  have hv := ev_van p xs m (nth xs m) xs.length
  have hu := vanP_unit hp xs m xs.length h
  have hw : ¬ p ∣ ev (vanS p xs m xs.length) (nth xs m) % p := by
    rw [hv]; exact fun hd => hu (Int.dvd_of_emod_eq_zero (by rw [← e_idem]; exact Int.emod_eq_zero_of_dvd hd))
  have hi := finv_mul hp hw
  unfold fitC fdiv
  rw [em_l, Int.mul_assoc]
  have e : (finv p (ev (vanS p xs m xs.length) (nth xs m) % p) * vanP xs m (nth xs m) xs.length) % p = 1 % p := by
    rw [← em_r, ← hv, hi, one_mod hp.two]
  rw [mmul rfl e, Int.mul_one]
/-- How many of the first n numbers are such. -/
def cntN (P : Nat → Bool) : Nat → Nat
  | 0 => 0
  | n + 1 => cntN P n + (if P n then 1 else 0)
theorem cntN_le (P : Nat → Bool) (n : Nat) : cntN P n ≤ n := by
  induction n with
  | zero => exact Nat.le_refl _
  | succ n ih => simp only [cntN]; split <;> omega
theorem cntN_all {P : Nat → Bool} {n : Nat} (h : ∀ i, i < n → P i = true) : cntN P n = n := by
  induction n with
  | zero => rfl
  | succ n ih => simp only [cntN]; rw [ih fun i hi => h i (by omega), h n (by omega)]; rfl
theorem cntN_lt {P : Nat → Bool} {n i : Nat} (hi : i < n) (h : P i = false) : cntN P n < n := by
  induction n with
  | zero => omega
  | succ n ih =>
    simp only [cntN]
    by_cases e : i = n
    · subst e; have := cntN_le P i; rw [h]; simp; omega
    · have := ih (by omega); split <;> omega
def such (P : Nat → Bool) (n : Nat) : List Int := ((List.range n).filter P).map (fun (i : Nat) => (i : Int))
theorem such_length (P : Nat → Bool) (n : Nat) : (such P n).length = cntN P n := by
  induction n with
  | zero => rfl
  | succ n ih =>
    simp only [cntN, such, List.length_map] at *
    rw [List.range_succ, List.filter_append, List.length_append, ih]
    congr 1
    cases h : P n <;> simp [h]
/-- A polynomial has few roots, or each number is one. -/
theorem few_roots {p : Int} (hp : Pr p) {m : Nat} {f : Int → Int} (h : PolyN m f) (P : Nat → Bool) (n : Nat) (hn : (n : Int) ≤ p) (hP : ∀ i, i < n → P i = true → f i % p = 0) : cntN P n < m ∨ ∀ x, f x % p = 0 := by
  obtain ⟨q, rfl, he⟩ := h
  by_cases hc : ∃ c ∈ q, ¬ p ∣ c
  · left
    rw [← such_length]
    refine roots hp q hc (such P n) ?_ ?_
    · unfold such
      rw [List.pairwise_map]
      refine List.Pairwise.imp_of_mem ?_ ((List.nodup_range (n := n)).filter P)
      intro a b ha hb hab hd
      have ha' := List.mem_range.1 (List.mem_filter.1 ha).1
      have hb' := List.mem_range.1 (List.mem_filter.1 hb).1
      obtain ⟨k, hk⟩ := hd
      have hp2 := hp.two
      have h1 : ((a : Int) - b) < p := by omega
      have h2 : -p < ((a : Int) - b) := by omega
      rw [hk] at h1 h2
      have k0 : k = 0 := by
        rcases Int.lt_trichotomy k 0 with h | h | h
        · have : p * k ≤ p * (-1) := Int.mul_le_mul_of_nonneg_left (by omega) (by omega)
          omega
        · exact h
        · have : p * 1 ≤ p * k := Int.mul_le_mul_of_nonneg_left (by omega) (by omega)
          omega
      rw [k0] at hk
      exact hab (by omega)
    · intro x hx
      obtain ⟨i, hi, rfl⟩ := List.mem_map.1 hx
      obtain ⟨h1, h2⟩ := List.mem_filter.1 hi
      rw [he]
      exact Int.dvd_of_emod_eq_zero (hP i (List.mem_range.1 h1) h2)
  · right
    intro x
    rw [← he]
    have : ∀ c ∈ q, p ∣ c := fun c h => Classical.byContradiction fun hn => hc ⟨c, h, hn⟩
    apply Int.emod_eq_zero_of_dvd
    clear he hc hP
    induction q with
    | nil => exact Int.dvd_zero _
    | cons c q ih => exact Int.dvd_add (this c (by simp)) (Int.dvd_mul_of_dvd_right (ih fun d hd => this d (by simp [hd])))
end Go.Att
end
section
namespace Go.Att
/-- An instruction. -/
structure In4 where
  op : Int
  a : Int
  b : Int
  c : Int
/-- The registers; what was told; what the step has looked at. -/
structure Ms where
  pc : Int
  fp : Int
  ap : Int
  rv : Int
  mem : List (Int × Int)
  acc : List (Int × Int)
/-- A number and what comes of the machine, or why it stops. -/
inductive Rs where
  | go (v : Int) (s : Ms)
  | no (e : Int)
def Rs.bind : Rs → (Int → Ms → Rs) → Rs
  | .go v s, f => f v s
  | .no e, _ => .no e
/-- What a cell was told. -/
def lk (m : List (Int × Int)) (at_ : Int) : Option Int := (m.find? fun c => c.1 == at_).map Prod.snd
def Ms.look (s : Ms) (at_ : Int) : Rs := match lk s.mem at_ with
  | none => .no 10
  | some v => .go v { s with acc := s.acc ++ [(at_, v)] }
def Ms.tell (s : Ms) (at_ is : Int) : Rs := match lk s.mem at_ with
  | some v => if v = is then .go 0 { s with acc := s.acc ++ [(at_, is)] } else .no 7
  | none => .go 0 { s with mem := s.mem ++ [(at_, is)], acc := s.acc ++ [(at_, is)] }
def isCmp (op : Int) : Bool := op == 1 || op == 2 || op == 3 || op == 4 || op == 6
def reck (p op x y : Int) : Int := if op = 1 then fadd p x y else if op = 2 then fsub p x y else if op = 3 then fmul p x y else if op = 4 then fdiv p x y else if x = y then 1 else 0
def Ms.comp (p : Int) (s : Ms) (x : In4) : Rs := (s.look (fadd p s.fp x.a)).bind fun u s => (s.look (fadd p s.fp x.b)).bind fun v s =>
  if x.op = 4 ∧ v = 0 then .no 7 else s.tell (fadd p s.fp x.c) (reck p x.op u v)
def Ms.call (p : Int) (s : Ms) (x : In4) : Rs := (s.tell s.ap s.fp).bind fun _ s => (s.tell (fadd p s.ap 1) (fadd p s.pc 1)).bind fun _ s =>
  .go 0 { s with fp := fadd p s.ap 2, ap := fadd p (fadd p s.ap 2) x.b, pc := fof p x.a }
def Ms.back (p : Int) (s : Ms) (x : In4) : Rs := (s.look (fadd p s.fp (-2))).bind fun f s => (s.look (fadd p s.fp (-1))).bind fun q s => (s.look (fadd p s.fp x.a)).bind fun r s =>
  .go 0 { s with rv := r, fp := f, pc := q }
/-- On at a place. -/
def Ms.to (n : Int) (_ : Int) (s : Ms) : Rs := .go 0 { s with pc := n }
def Ms.one (p : Int) (s : Ms) (x : In4) : Rs :=
  if isCmp x.op then (s.comp p x).bind (Ms.to (fadd p s.pc 1))
  else if x.op = 5 then (s.tell (fadd p s.fp x.a) (fof p x.b)).bind (Ms.to (fadd p s.pc 1))
  else if x.op = 7 then (s.look (fadd p s.fp x.a)).bind fun u t => (t.look (fadd p s.fp x.b)).bind fun v t => if u = v then Ms.to (fadd p s.pc 1) 0 t else .no 7
  else if x.op = 8 then Ms.to (fof p x.a) 0 s
  else if x.op = 9 then (s.look (fadd p s.fp x.a)).bind fun u t => Ms.to (if u = 0 then fof p x.b else fadd p s.pc 1) 0 t
  else if x.op = 10 then s.call p x
  else if x.op = 11 then s.back p x
  else if x.op = 12 then (s.tell (fadd p s.fp x.a) s.rv).bind (Ms.to (fadd p s.pc 1))
  else if x.op = 13 then (s.look (fadd p s.fp x.a)).bind fun u t => (t.tell (fadd p (fadd p s.ap 2) x.b) u).bind (Ms.to (fadd p s.pc 1))
  else .no 7
/-- A step, as it is noted. -/
structure Stp where
  pc : Int
  fp : Int
  ap : Int
  rv : Int
  acc : List (Int × Int)
/-- Its numbers. -/
def Stp.nums (t : Stp) : List Int := [t.pc, t.fp, t.ap, t.rv, (t.acc.getD 0 (0, 0)).1, (t.acc.getD 1 (0, 0)).1, (t.acc.getD 2 (0, 0)).1, (t.acc.getD 0 (0, 0)).2, (t.acc.getD 1 (0, 0)).2, (t.acc.getD 2 (0, 0)).2]
def Ms.note (s : Ms) (acc : List (Int × Int)) : Stp := ⟨s.pc, s.fp, s.ap, s.rv, acc⟩
def Ms.blank (s : Ms) : Ms := { s with acc := [] }
/-- What a run comes to: its steps, its outcome, what was told; or why there is none. -/
inductive Rw where
  | done (l : List Stp) (out : Int) (mem : List (Int × Int))
  | no (e : Int)
def nthI (l : List In4) (i : Nat) : In4 := l.getD i ⟨0, 0, 0, 0⟩
/-- n more steps may be. -/
def runM (p : Int) (code : List In4) : Nat → List Stp → Ms → Rw
  | 0, l, s => if (code.length : Int) ≤ s.pc then .no 7 else
      if (nthI code s.pc.toNat).op = 0 then (match s.blank.look (fadd p s.fp (nthI code s.pc.toNat).a) with
        | .no e => .no e
        | .go v s' => .done (l ++ [s.note s'.acc]) v s'.mem) else .no 8
  | n + 1, l, s => if (code.length : Int) ≤ s.pc then .no 7 else
      if (nthI code s.pc.toNat).op = 0 then (match s.blank.look (fadd p s.fp (nthI code s.pc.toNat).a) with
        | .no e => .no e
        | .go v s' => .done (l ++ [s.note s'.acc]) v s'.mem)
      else match s.blank.one p (nthI code s.pc.toNat) with
        | .no e => .no e
        | .go _ s' => runM p code n (l ++ [s.note s'.acc]) s'
def startM (p size : Int) : Ms := ⟨0, fof p 1, fof p (1 + size), 0, [(0, 0)], []⟩
def faultM (p size : Int) (n : Nat) (limit : Int) : Int := if size < 0 ∨ 65536 < size ∨ n = 0 ∨ 4096 < n ∨ p < n then 2 else if limit < 0 ∨ 16384 < limit then 3 else 0
def walkM (p size : Int) (code : List In4) (limit : Int) : Rw := if faultM p size code.length limit = 0 then runM p code limit.toNat [] (startM p size) else .no (faultM p size code.length limit)

/-- What holds of it always. -/
structure Okm (p : Int) (s : Ms) : Prop where
  pc : 0 ≤ s.pc ∧ s.pc < p
  fp : 0 ≤ s.fp ∧ s.fp < p
  ap : 0 ≤ s.ap ∧ s.ap < p
  rv : 0 ≤ s.rv ∧ s.rv < p
  mem : ∀ c ∈ s.mem, (0 ≤ c.1 ∧ c.1 < p) ∧ (0 ≤ c.2 ∧ c.2 < p)
  acc : ∀ c ∈ s.acc, lk s.mem c.1 = some c.2
theorem lk_mem {m : List (Int × Int)} {i v : Int} (h : lk m i = some v) : (i, v) ∈ m := by
  unfold lk at h
  rw [Option.map_eq_some_iff] at h
  obtain ⟨⟨a, b⟩, h1, h2⟩ := h
  have h3 := List.find?_some h1
  simp at h3 h2
  subst h3 h2
  exact List.mem_of_find?_eq_some h1
theorem lk_app (m : List (Int × Int)) (i j v : Int) : lk (m ++ [(i, v)]) j = match lk m j with | some x => some x | none => if i = j then some v else none := by
  unfold lk
  rw [List.find?_append]
  cases h : m.find? (fun c => c.1 == j) with
  | some x => simp
  | none => by_cases e : i = j <;> simp [e]
theorem lk_keep {m : List (Int × Int)} {i j v x : Int} (h : lk m j = some x) : lk (m ++ [(i, v)]) j = some x := by rw [lk_app, h]
theorem lk_new {m : List (Int × Int)} {i v : Int} (h : lk m i = none) : lk (m ++ [(i, v)]) i = some v := by rw [lk_app, h]; simp
section
variable {p : Int} {s s' : Ms} {i v x : Int}
theorem Okm.val (h : Okm p s) (hl : lk s.mem i = some v) : 0 ≤ v ∧ v < p := (h.mem _ (lk_mem hl)).2
theorem look_ok (h : Okm p s) (hr : s.look i = .go v s') : Okm p s' ∧ lk s.mem i = some v ∧ s' = { s with acc := s.acc ++ [(i, v)] } := by
  unfold Ms.look at hr
  cases hl : lk s.mem i with
  | none => rw [hl] at hr; cases hr
  | some u =>
    rw [hl] at hr
    simp only [Rs.go.injEq] at hr
    obtain ⟨rfl, rfl⟩ := hr
    refine ⟨⟨h.pc, h.fp, h.ap, h.rv, h.mem, fun c hc => ?_⟩, rfl, rfl⟩
    simp only [List.mem_append, List.mem_singleton] at hc
    rcases hc with hc | rfl
    · exact h.acc c hc
    · exact hl
theorem tell_ok (h : Okm p s) (hi : 0 ≤ i ∧ i < p) (hx : 0 ≤ x ∧ x < p) (hr : s.tell i x = .go v s') : Okm p s' ∧ v = 0 ∧ s'.acc = s.acc ++ [(i, x)] ∧ s'.pc = s.pc ∧ s'.fp = s.fp ∧ s'.ap = s.ap ∧ s'.rv = s.rv ∧ lk s'.mem i = some x ∧ (∀ j y, lk s.mem j = some y → lk s'.mem j = some y) ∧ ((s'.mem = s.mem ∧ lk s.mem i = some x) ∨ (s'.mem = s.mem ++ [(i, x)] ∧ lk s.mem i = none)) := by
  unfold Ms.tell at hr
  cases hl : lk s.mem i with
  | some u =>
    rw [hl] at hr
    dsimp only at hr
    split at hr
    · rename_i hu
      subst hu
      simp only [Rs.go.injEq] at hr
      obtain ⟨rfl, rfl⟩ := hr
      refine ⟨⟨h.pc, h.fp, h.ap, h.rv, h.mem, fun c hc => ?_⟩, rfl, rfl, rfl, rfl, rfl, rfl, hl, fun j y hj => hj, .inl ⟨rfl, rfl⟩⟩
      simp only [List.mem_append, List.mem_singleton] at hc
      rcases hc with hc | rfl
      · exact h.acc c hc
      · exact hl
    · cases hr
  | none =>
    rw [hl] at hr
    simp only [Rs.go.injEq] at hr
    obtain ⟨rfl, rfl⟩ := hr
    refine ⟨⟨h.pc, h.fp, h.ap, h.rv, fun c hc => ?_, fun c hc => ?_⟩, rfl, rfl, rfl, rfl, rfl, rfl, lk_new hl, fun j y hj => lk_keep hj, .inr ⟨rfl, rfl⟩⟩
    · simp only [List.mem_append, List.mem_singleton] at hc
      rcases hc with hc | rfl
      · exact h.mem c hc
      · exact ⟨hi, hx⟩
    · simp only [List.mem_append, List.mem_singleton] at hc
      rcases hc with hc | rfl
      · exact lk_keep (h.acc c hc)
      · exact lk_new hl
end
theorem bind_go {r : Rs} {f : Int → Ms → Rs} {v : Int} {s' : Ms} (h : r.bind f = .go v s') : ∃ u t, r = .go u t ∧ f u t = .go v s' := by
  cases r with
  | go u t => exact ⟨u, t, rfl, h⟩
  | no e => cases h
/-- What a step leaves. -/
structure Aft (p : Int) (s s' : Ms) (k : Nat) : Prop where
  ok : Okm p s'
  len : s'.acc.length ≤ s.acc.length + k
  keep : ∀ j y, lk s.mem j = some y → lk s'.mem j = some y
  size : s'.mem.length ≤ s.mem.length + k
theorem Aft.trans {p : Int} {s t u : Ms} {j k : Nat} (h1 : Aft p s t j) (h2 : Aft p t u k) : Aft p s u (j + k) :=
  ⟨h2.ok, by have := h1.len; have := h2.len; omega, fun i y hy => h2.keep _ _ (h1.keep _ _ hy), by have := h1.size; have := h2.size; omega⟩
theorem Aft.le {p : Int} {s t : Ms} {j k : Nat} (h1 : Aft p s t j) (h : j ≤ k) : Aft p s t k := ⟨h1.ok, by have := h1.len; omega, h1.keep, by have := h1.size; omega⟩
theorem look_aft {p : Int} {s s' : Ms} {i v : Int} (h : Okm p s) (hr : s.look i = .go v s') : Aft p s s' 1 ∧ (0 ≤ v ∧ v < p) ∧ s'.pc = s.pc ∧ s'.fp = s.fp ∧ s'.ap = s.ap ∧ s'.rv = s.rv := by
  obtain ⟨h1, h2, rfl⟩ := look_ok h hr
  exact ⟨⟨h1, by simp, fun _ _ hy => hy, by simp⟩, h.val h2, rfl, rfl, rfl, rfl⟩
theorem tell_aft {p : Int} {s s' : Ms} {i v x : Int} (h : Okm p s) (hi : 0 ≤ i ∧ i < p) (hx : 0 ≤ x ∧ x < p) (hr : s.tell i x = .go v s') : Aft p s s' 1 ∧ s'.pc = s.pc ∧ s'.fp = s.fp ∧ s'.ap = s.ap ∧ s'.rv = s.rv := by
  obtain ⟨h1, _, h2, h3, h4, h5, h6, _, h8, h9⟩ := tell_ok h hi hx hr
  exact ⟨⟨h1, by rw [h2]; simp, h8, by rcases h9 with ⟨e, _⟩ | ⟨e, _⟩ <;> rw [e] <;> simp⟩, h3, h4, h5, h6⟩
theorem to_aft {p : Int} {s s' : Ms} {n u v : Int} (h : Okm p s) (hn : 0 ≤ n ∧ n < p) (hr : Ms.to n u s = .go v s') : Aft p s s' 0 := by
  unfold Ms.to at hr
  simp only [Rs.go.injEq] at hr
  obtain ⟨_, rfl⟩ := hr
  exact ⟨⟨hn, h.fp, h.ap, h.rv, h.mem, h.acc⟩, Nat.le_refl _, fun _ _ hy => hy, Nat.le_refl _⟩
theorem reck_bd {p : Int} (hp : 2 ≤ p) (op x y : Int) : 0 ≤ reck p op x y ∧ reck p op x y < p := by
  unfold reck
  split
  · exact fadd_bd hp _ _
  split
  · exact fsub_bd hp _ _
  split
  · exact fmul_bd hp _ _
  split
  · exact fdiv_bd hp _ _
  split <;> omega
theorem one_aft {p : Int} (hp : 2 ≤ p) {s s' : Ms} {x : In4} {v : Int} (h : Okm p s) (hr : s.one p x = .go v s') : Aft p s s' 3 := by
  have ha := fadd_bd hp
  have ho := fof_bd hp
  have hnx : 0 ≤ fadd p s.pc 1 ∧ fadd p s.pc 1 < p := ha _ _
  unfold Ms.one at hr
  split at hr
  · obtain ⟨u, t, h1, h2⟩ := bind_go hr
    unfold Ms.comp at h1
    obtain ⟨u1, t1, g1, h1⟩ := bind_go h1
    obtain ⟨u2, t2, g2, h1⟩ := bind_go h1
    obtain ⟨k1, b1, _⟩ := look_aft h g1
    obtain ⟨k2, b2, _⟩ := look_aft k1.ok g2
    split at h1
    · cases h1
    · obtain ⟨k3, _⟩ := tell_aft k2.ok (ha _ _) (reck_bd hp _ _ _) h1
      exact ((k1.trans k2).trans k3).trans (to_aft k3.ok hnx h2)
  split at hr
  · obtain ⟨u, t, h1, h2⟩ := bind_go hr
    obtain ⟨k1, _⟩ := tell_aft h (ha _ _) (ho _) h1
    exact (k1.trans (to_aft k1.ok hnx h2)).le (by omega)
  split at hr
  · obtain ⟨u, t, h1, h2⟩ := bind_go hr
    obtain ⟨u2, t2, h2, h3⟩ := bind_go h2
    obtain ⟨k1, _⟩ := look_aft h h1
    obtain ⟨k2, _⟩ := look_aft k1.ok h2
    split at h3
    · exact ((k1.trans k2).trans (to_aft k2.ok hnx h3)).le (by omega)
    · cases h3
  split at hr
  · exact (to_aft h (ho _) hr).le (by omega)
  split at hr
  · obtain ⟨u, t, h1, h2⟩ := bind_go hr
    obtain ⟨k1, _⟩ := look_aft h h1
    exact (k1.trans (to_aft k1.ok (by split; exact ho _; exact hnx) h2)).le (by omega)
  split at hr
  · unfold Ms.call at hr
    obtain ⟨u, t, h1, h2⟩ := bind_go hr
    obtain ⟨u2, t2, h2, h3⟩ := bind_go h2
    obtain ⟨k1, e1, e2, e3, e4⟩ := tell_aft h h.ap h.fp h1
    obtain ⟨k2, f1, f2, f3, f4⟩ := tell_aft k1.ok (ha _ _) (ha _ _) h2
    simp only [Rs.go.injEq] at h3
    obtain ⟨_, h5⟩ := h3
    have k3 : Aft p t2 s' 0 := by subst h5; exact ⟨⟨ho _, ha _ _, ha _ _, k2.ok.rv, k2.ok.mem, k2.ok.acc⟩, Nat.le_refl _, fun _ _ hy => hy, Nat.le_refl _⟩
    exact ((k1.trans k2).trans k3).le (by omega)
  split at hr
  · unfold Ms.back at hr
    obtain ⟨u, t, h1, h2⟩ := bind_go hr
    obtain ⟨u2, t2, h2, h3⟩ := bind_go h2
    obtain ⟨u3, t3, h3, h4⟩ := bind_go h3
    obtain ⟨k1, b1, _⟩ := look_aft h h1
    obtain ⟨k2, b2, _⟩ := look_aft k1.ok h2
    obtain ⟨k3, b3, _⟩ := look_aft k2.ok h3
    simp only [Rs.go.injEq] at h4
    obtain ⟨_, h5⟩ := h4
    have k4 : Aft p t3 s' 0 := by subst h5; exact ⟨⟨b2, b1, k3.ok.ap, b3, k3.ok.mem, k3.ok.acc⟩, Nat.le_refl _, fun _ _ hy => hy, Nat.le_refl _⟩
    exact (((k1.trans k2).trans k3).trans k4).le (by omega)
  split at hr
  · obtain ⟨u, t, h1, h2⟩ := bind_go hr
    obtain ⟨k1, _⟩ := tell_aft h (ha _ _) h.rv h1
    exact (k1.trans (to_aft k1.ok hnx h2)).le (by omega)
  split at hr
  · obtain ⟨u, t, h1, h2⟩ := bind_go hr
    obtain ⟨u2, t2, h2, h3⟩ := bind_go h2
    obtain ⟨k1, b1, _⟩ := look_aft h h1
    obtain ⟨k2, _⟩ := tell_aft k1.ok (ha _ _) b1 h2
    exact ((k1.trans k2).trans (to_aft k2.ok hnx h3)).le (by omega)
  cases hr
theorem blank_ok {p : Int} {s : Ms} (h : Okm p s) : Okm p s.blank := ⟨h.pc, h.fp, h.ap, h.rv, h.mem, fun c hc => by simp [Ms.blank] at hc⟩
theorem start_ok {p size : Int} (hp : 2 ≤ p) : Okm p (startM p size) :=
  ⟨by simp [startM]; omega, fof_bd hp _, fof_bd hp _, by simp [startM]; omega, fun c hc => by simp [startM] at hc; subst hc; simp; omega, fun c hc => by simp [startM] at hc⟩
end Go.Att
end
section
namespace Go.Att
open Go.Maps Go.RowKit
/-- A map's datum that reads as what was told. -/
structure MemD {H : Type} (D : DataW H) (mem : List (Int × Int)) : Prop where
  tidy : Tidy D
  has : ∀ k : Int, Maps.has D (.int .i64 k) = (lk mem k).isSome
  at_ : ∀ (k v : Int) (z : DataW H), lk mem k = some v → D.atKey (.int .i64 k) z = .lit (.int .i64 v)
section
variable {H : Type} {D : DataW H} {mem : List (Int × Int)}
theorem MemD.nil : MemD (.map [] : DataW H) [] := ⟨tidy_empty, fun k => rfl, fun k v z h => by cases h⟩
theorem lit_ne {k k' : Int} (h : k' ≠ k) : (Lit.int .i64 k' : Lit) ≠ .int .i64 k := fun e => h (by injection e)
/-- A cell is told what it was not told yet. -/
theorem MemD.tell (h : MemD D mem) {k v : Int} (hk : WideAt.IsKeyLit (Lit.int .i64 k)) (hl : lk mem k = none) : MemD (D.put (.int .i64 k) (.lit (.int .i64 v))) (mem ++ [(k, v)]) := by
  refine ⟨h.tidy.put hk _, fun j => ?_, fun j u z hj => ?_⟩
  · by_cases e : j = k
    · subst e; rw [has_put_same h.tidy.isMap hk, lk_new hl]; rfl
    · rw [has_put_other (lit_ne e), h.has, lk_app]
      cases hj : lk mem j with
      | some x => rfl
      | none => simp [Ne.symm e]
  · by_cases e : j = k
    · subst e
      rw [lk_new hl] at hj; cases hj
      exact atKey_put_same h.tidy.isMap hk _ _
    · rw [atKey_put_other (lit_ne e)]
      rw [lk_app] at hj
      cases hx : lk mem j with
      | some x => rw [hx] at hj; cases hj; exact h.at_ _ _ _ hx
      | none => rw [hx] at hj; simp [Ne.symm e] at hj
/-- A cell is told again what it was told. -/
theorem MemD.again (h : MemD D mem) {k v : Int} (hk : WideAt.IsKeyLit (Lit.int .i64 k)) (hl : lk mem k = some v) : MemD (D.put (.int .i64 k) (.lit (.int .i64 v))) mem := by
  refine ⟨h.tidy.put hk _, fun j => ?_, fun j u z hj => ?_⟩
  · by_cases e : j = k
    · subst e; rw [has_put_same h.tidy.isMap hk, hl]; rfl
    · rw [has_put_other (lit_ne e), h.has]
  · by_cases e : j = k
    · subst e
      rw [hl] at hj; cases hj
      exact atKey_put_same h.tidy.isMap hk _ _
    · rw [atKey_put_other (lit_ne e)]; exact h.at_ _ _ _ hj
end
/-- What a map's block was told; n bounds how many entries it has. -/
def Tmem (P : Program) (K : TypeId) (w : World) (mb : Nat) (n : Int) (mem : List (Int × Int)) : Prop := ∃ (c : Nat) (D : DataW Unit), (c : Int) ≤ n ∧ w.ownsMap P K (plainElem P K) mb c D ∧ MemD D mem
section
variable {P : Program} {K T : TypeId} {w w' : World} {mb : Nat} {n : Int} {mem : List (Int × Int)}
theorem wf_small {k : Int} (h0 : 0 ≤ k) (h1 : k ≤ 2147483647) : (Lit.int .i64 k).wf = true := WalkArith.wf_i64 (by omega)
theorem Tmem.lt (h : Tmem P K w mb n mem) : mb < w.heap.size := by obtain ⟨c, D, _, h2, _⟩ := h; exact h2.lt
theorem Tmem.kept (h : Tmem P K w mb n mem) {row : Option Nat} (hg : w.grownBy w' row) (hne : some mb ≠ row) : Tmem P K w' mb n mem := by
  obtain ⟨c, D, h1, h2, h3⟩ := h; exact ⟨c, D, h1, h2.kept hg hne, h3⟩
theorem Tmem.mono (h : Tmem P K w mb n mem) {m : Int} (hm : n ≤ m) : Tmem P K w mb m mem := by
  obtain ⟨c, D, h1, h2, h3⟩ := h; exact ⟨c, D, Int.le_trans h1 hm, h2, h3⟩
variable (hk : P.underlying K = some (.int .i64)) (ht : P.underlying T = some (.map K K)) (hz : ∀ w, (zeroValue K).run P w = .ok (.int .i64 0) w)
include hk ht hz
theorem Tmem.look (h : Tmem P K w mb n mem) {k v : Int} (h0 : 0 ≤ k) (h1 : k ≤ 2147483647) (hl : lk mem k = some v) : (Instr.lookup T (.map (some mb)) (.int .i64 k) false).run P w = .ok (.int .i64 v) w := by
  obtain ⟨c, D, _, h2, h3⟩ := h
  obtain ⟨u, hr, ha, _⟩ := h2.lookup_int (int_keyed hk) ht hk (hz w) (keyOf_int_mk hk (wf_small h0 h1))
  rw [h3.at_ _ _ _ hl] at ha
  injection ha with ha
  injection ha with _ ha
  rw [ha]; exact hr
theorem Tmem.look_yes (h : Tmem P K w mb n mem) {k v : Int} (h0 : 0 ≤ k) (h1 : k ≤ 2147483647) (hl : lk mem k = some v) : (Instr.lookup T (.map (some mb)) (.int .i64 k) true).run P w = .ok (.tuple #[.int .i64 v, .bool true]) w := by
  obtain ⟨c, D, _, h2, h3⟩ := h
  obtain ⟨u, ps, hr, hu⟩ := h2.look_ok (int_keyed hk) ht (hz w) (plainElem_int hk (by decide)) (keyOf_int_mk hk (wf_small h0 h1))
  rw [h3.at_ _ _ _ hl] at hu
  obtain ⟨c, rfl, hc, _⟩ := plainElem_int_inv hk hu
  have e : v = c := by
    have := congrArg Prod.fst hc
    dsimp only at this
    injection this with this
    injection this with _ this
  rw [h3.has, hl] at hr
  rw [e]; exact hr
theorem Tmem.look_no (h : Tmem P K w mb n mem) {k : Int} (h0 : 0 ≤ k) (h1 : k ≤ 2147483647) (hl : lk mem k = none) : ∃ u : Int, (Instr.lookup T (.map (some mb)) (.int .i64 k) true).run P w = .ok (.tuple #[.int .i64 u, .bool false]) w := by
  obtain ⟨c, D, _, h2, h3⟩ := h
  obtain ⟨u, ps, hr, hu⟩ := h2.look_ok (int_keyed hk) ht (hz w) (plainElem_int hk (by decide)) (keyOf_int_mk hk (wf_small h0 h1))
  obtain ⟨c, rfl, hc, _⟩ := plainElem_int_inv hk hu
  rw [h3.has, hl] at hr
  exact ⟨c, hr⟩
omit hz in
theorem Tmem.store (h : Tmem P K w mb n mem) (hn : n < 9223372036854775807) {k v : Int} (h0 : 0 ≤ k) (h1 : k ≤ 2147483647) (h2 : 0 ≤ v) (h3 : v ≤ 2147483647) {mem' : List (Int × Int)} (hm : (lk mem k = none ∧ mem' = mem ++ [(k, v)]) ∨ (lk mem k = some v ∧ mem' = mem)) :
    ∃ w', (Instr.mapUpdate T (.map (some mb)) (.int .i64 k) (.int .i64 v)).run P w = .ok () w' ∧ Tmem P K w' mb (n + 1) mem' ∧ w.grownBy w' (some mb) := by
  obtain ⟨c, D, hc, ho, hd⟩ := h
  obtain ⟨w', hr, ho', hg⟩ := ho.update (int_keyed hk) ht (by unfold maxLen; omega) (keyOf_int_mk hk (wf_small h0 h1)) (plainElem_int hk (wf_small h2 h3))
  refine ⟨w', hr, ⟨c + 1, _, by omega, ho', ?_⟩, hg⟩
  rcases hm with ⟨hl, rfl⟩ | ⟨hl, rfl⟩
  · exact hd.tell trivial hl
  · exact hd.again trivial hl
end
/-- A block's cells, all of them. -/
def BlkOf (w : World) (b : Nat) (cs : List Value) (t : TypeId) : Prop := w.heap[b]? = some (.cells cs.toArray t (0, 0))
section
variable {w w' : World} {b : Nat} {cs : List Value} {t : TypeId}
theorem BlkOf.cell (h : BlkOf w b cs t) (i : Nat) : w.cell? ⟨b, i, none⟩ = cs[i]? := by unfold BlkOf at h; simp [World.cell?, h]
theorem BlkOf.free (h : BlkOf w b cs t) (i : Nat) : w.frozen? ⟨b, i, none⟩ = false := by unfold BlkOf at h; simp [World.frozen?, h]
theorem BlkOf.lt (h : BlkOf w b cs t) : b < w.heap.size := lt_of_block h
theorem BlkOf.set (h : BlkOf w b cs t) (i : Nat) (v : Value) : BlkOf (w.setCell ⟨b, i, none⟩ v) b (cs.set i v) t := by
  have hlt := h.lt
  unfold BlkOf at *
  have h' : w.heap[b] = .cells cs.toArray t (0, 0) := by simpa [Array.getElem?_eq_getElem hlt] using h
  show (w.heap.modify b _)[b]? = _
  rw [Array.getElem?_eq_getElem (by simpa using hlt), Array.getElem_modify_self, h']
  simp
theorem BlkOf.grown (h : BlkOf w b cs t) {row : Option Nat} (hg : w.grownBy w' row) (hne : some b ≠ row) : BlkOf w' b cs t := by
  unfold BlkOf at *; rw [hg.block b (lt_of_block h) hne]; exact h
theorem BlkOf.ext (h : BlkOf w b cs t) (hx : Ext w w') : BlkOf w' b cs t := h.grown (hx.grownBy none) (by simp)
theorem BlkOf.new (w : World) (cs : List Value) (t : TypeId) : BlkOf (w.alloc (.cells cs.toArray t)) w.heap.size cs t := by
  unfold BlkOf; exact heap_alloc_new _ _
end
theorem grown_one {W w w' : World} {b : Option Nat} (h : W.grownBy w b) (k : w.grownBy w' b) : W.grownBy w' b :=
  ⟨k.os.trans h.os, k.tape.trans h.tape, k.output.trans h.output, Nat.le_trans h.size k.size, fun q hq hne => by rw [k.block q (Nat.lt_of_lt_of_le hq h.size) hne]; exact h.block q hq hne⟩
/-- Two blocks may have changed, and new ones are there. -/
structure Turned (b c : Nat) (w w' : World) : Prop where
  os : w'.os = w.os
  tape : w'.tape = w.tape
  output : w'.output = w.output
  size : w.heap.size ≤ w'.heap.size
  block : ∀ q, q < w.heap.size → q ≠ b → q ≠ c → w'.heap[q]? = w.heap[q]?
section
variable {b c : Nat} {w w' w'' : World}
theorem Turned.refl (b c : Nat) (w : World) : Turned b c w w := ⟨rfl, rfl, rfl, Nat.le_refl _, fun _ _ _ _ => rfl⟩
theorem Turned.trans (h : Turned b c w w') (k : Turned b c w' w'') : Turned b c w w'' :=
  ⟨k.os.trans h.os, k.tape.trans h.tape, k.output.trans h.output, Nat.le_trans h.size k.size, fun q h1 h2 h3 => (k.block q (Nat.lt_of_lt_of_le h1 h.size) h2 h3).trans (h.block q h1 h2 h3)⟩
theorem Turned.one (hg : w.grownBy w' (some b)) : Turned b c w w' := ⟨hg.os, hg.tape, hg.output, hg.size, fun q h1 h2 _ => hg.block q h1 (fun e => h2 (Option.some.inj e))⟩
theorem Turned.two (hg : w.grownBy w' (some c)) : Turned b c w w' := ⟨hg.os, hg.tape, hg.output, hg.size, fun q h1 _ h3 => hg.block q h1 (fun e => h3 (Option.some.inj e))⟩
theorem Turned.of_ext (hx : Ext w w') : Turned b c w w' := Turned.one (hx.grownBy _)
theorem Turned.ext {w0 : World} (h : Turned b c w w') (hx : Ext w0 w) (hb : w0.heap.size ≤ b) (hc : w0.heap.size ≤ c) : Ext w0 w' :=
  ⟨h.os.trans hx.below.os, h.tape.trans hx.below.tape, h.output.trans hx.below.output, Nat.le_trans hx.size h.size, fun q hq => (h.block q (Nat.lt_of_lt_of_le hq hx.size) (by omega) (by omega)).trans (hx.below.block q hq)⟩
theorem Turned.blk (h : Turned b c w w') {q : Nat} {cs : List Value} {t : TypeId} (hk : BlkOf w q cs t) (h1 : q ≠ b) (h2 : q ≠ c) : BlkOf w' q cs t := by
  unfold BlkOf at *; rw [h.block q (lt_of_block hk) h1 h2]; exact hk
theorem Turned.cell (h : Turned b c w w') {a : Addr} {v : Value} (hk : w.cell? a = some v) (h1 : a.block ≠ b) (h2 : a.block ≠ c) : w'.cell? a = some v := by
  rw [World.cell?_of_block (h.block a.block (World.block_lt_of_cell? w a hk) h1 h2)]; exact hk
theorem Turned.own (h : Turned b c w w') {B e sz n : Nat} {v : Value} {xs : List Value} (ho : w.ownsRow B e sz v n xs) (h1 : v.ownBlock ≠ some b) (h2 : v.ownBlock ≠ some c) : w'.ownsRow B e sz v n xs := by
  refine ⟨ho.1, ?_⟩
  rcases ho.2 with h3 | ⟨g, cap, cur, hv, hb, hg, hr⟩
  · exact .inl h3
  · subst hv
    exact .inr ⟨g, cap, cur, rfl, hb, by rw [h.block g (lt_of_block hg) (fun e => h1 (by simp [Value.ownBlock, e])) (fun e => h2 (by simp [Value.ownBlock, e]))]; exact hg, hr⟩
end
end Go.Att
end
section
namespace Go.Att
open Go.Maps Go.RowKit
/-- How an element reads: as itself. -/
def selfR (v : Value) : Option (DataW Value × List MemPlace) := some (.held v, [])
/-- A map's block that has at each key what M says; n bounds how many entries it has. -/
def Mpv (P : Program) (K : TypeId) (w : World) (mb n : Nat) (M : Value → Option Value) : Prop :=
  ∃ D : DataW Value, w.ownsMap P K selfR mb n D ∧ ∀ key l, keyOf P K key = some l → ∀ z, D.atKey l (.held z) = .held ((M key).getD z)
section
variable {P : Program} {K E T : TypeId} {w w' : World} {mb n : Nat} {M : Value → Option Value}
theorem Mpv.lt (h : Mpv P K w mb n M) : mb < w.heap.size := by obtain ⟨D, h2, _⟩ := h; exact h2.lt
theorem Mpv.kept (h : Mpv P K w mb n M) {row : Option Nat} (hg : w.grownBy w' row) (hne : some mb ≠ row) : Mpv P K w' mb n M := by
  obtain ⟨D, h2, h3⟩ := h; exact ⟨D, h2.kept hg hne, h3⟩
theorem Mpv.ext (h : Mpv P K w mb n M) (hx : Ext w w') : Mpv P K w' mb n M := h.kept (hx.grownBy none) (by simp)
theorem Mpv.turned (h : Mpv P K w mb n M) {b c : Nat} (ht : Turned b c w w') (h1 : mb ≠ b) (h2 : mb ≠ c) : Mpv P K w' mb n M := by
  obtain ⟨D, ⟨es, clock, hb, F, hs, hD⟩, h3⟩ := h
  exact ⟨D, ⟨es, clock, (ht.block mb (Array.getElem?_eq_some_iff.1 hb).1 h1 h2).trans hb, F, hs, hD⟩, h3⟩
theorem Mpv.mono (h : Mpv P K w mb n M) {m : Nat} (hm : n ≤ m) : Mpv P K w mb m M := by
  obtain ⟨D, h2, h3⟩ := h; exact ⟨D, h2.mono hm, h3⟩
theorem Mpv.congr (h : Mpv P K w mb n M) {M' : Value → Option Value} (he : ∀ key l, keyOf P K key = some l → M' key = M key) : Mpv P K w mb n M' := by
  obtain ⟨D, h2, h3⟩ := h; exact ⟨D, h2, fun key l hk z => by rw [he key l hk]; exact h3 key l hk z⟩
theorem Mpv.made (w : World) : Mpv P K (w.alloc (.map #[] 0)) w.heap.size 0 (fun _ => none) := ⟨.map [], World.ownsMap_made _ _ _ _, fun _ _ _ _ => rfl⟩
theorem Mpv.notCells (h : Mpv P K w mb n M) : ∀ r, some mb = some r → ∃ o : Obj, w.heap[r]? = some o ∧ o.isCells = false := by
  obtain ⟨D, ⟨es, clock, hb, _⟩, _⟩ := h
  intro r hr
  cases hr
  exact ⟨_, hb, rfl⟩
variable (hk : Keyed P K) (ht : P.underlying T = some (.map K E))
include hk ht
theorem Mpv.look (h : Mpv P K w mb n M) {z : Value} (hz : (zeroValue E).run P w = .ok z w) {key : Value} {l : Lit} (hkey : keyOf P K key = some l) : (Instr.lookup T (.map (some mb)) key false).run P w = .ok ((M key).getD z) w := by
  obtain ⟨D, h2, h3⟩ := h
  obtain ⟨v, ps, hr, hv⟩ := h2.lookup hk ht hz (zd := .held z) (zp := []) rfl hkey
  rw [h3 key l hkey z] at hv
  unfold selfR at hv
  injection hv with hv
  injection hv with hv _
  injection hv with hv
  rw [hr, hv]
theorem Mpv.put (h : Mpv P K w mb n M) (hn : n < 9223372036854775807) {key v : Value} {l : Lit} (hkey : keyOf P K key = some l) {M' : Value → Option Value} (h1 : M' key = some v) (h2 : ∀ key' l', keyOf P K key' = some l' → key' ≠ key → M' key' = M key') :
    ∃ w', (Instr.mapUpdate T (.map (some mb)) key v).run P w = .ok () w' ∧ Mpv P K w' mb (n + 1) M' ∧ w.grownBy w' (some mb) := by
  obtain ⟨D, ho, hd⟩ := h
  obtain ⟨w', hr, ho', hg⟩ := ho.update hk ht (by unfold maxLen; omega) hkey (show selfR v = some (.held v, []) from rfl)
  refine ⟨w', hr, ⟨_, ho', fun key' l' hk' z => ?_⟩, hg⟩
  by_cases e : l' = l
  · subst e
    rw [hk.inj hk' hkey, h1, atKey_put_same (ho.isMap) (hk.key hk')]
    rfl
  · rw [atKey_put_other e, h2 key' l' hk' (fun e2 => e (by rw [e2, hkey] at hk'; exact (Option.some.inj hk').symm)), hd key' l' hk' z]
end
/-- What a map keyed by pairs of numbers has, as a function of values. -/
def grpL (m : Int → Int → Option Value) : List Value → Option Value
  | [.int .i64 a, .int .i64 b] => m a b
  | _ => none
def grpM (m : Int → Int → Option Value) : Value → Option Value
  | .agg xs => grpL m xs.toList
  | _ => none
theorem grpM_at (m : Int → Int → Option Value) (a b : Int) : grpM m (.agg #[.int .i64 a, .int .i64 b]) = m a b := rfl
theorem grpL_upd {m m' : Int → Int → Option Value} {a b : Int} (hm : ∀ x y, ¬ (x = a ∧ y = b) → m' x y = m x y) {l : List Value} (hne : l ≠ [.int .i64 a, .int .i64 b]) : grpL m' l = grpL m l := by
  unfold grpL
  split
  · rename_i x y
    exact hm x y (fun h => hne (by rw [h.1, h.2]))
  · rfl
end Go.Att
end
