/- What a table is at a point: the plain laws. No program in sight. A voucher as bytes: numbers seven bits a byte, lists, openings; written and read again; read and written again. No program in sight. A voucher's bytes are written: contracts. Pairs of rows; their products: the plain words; the document's side: contracts. A run's table: its pairs in order have no gaps; sums over one mark: plain. What an instruction did breaks no rule: plain. A run's table breaks no rule: plain. A run's table breaks no rule, and its pairs are alike: plain. -/
import Derived.Test.YtainhfnanamobaaVc
import Derived.Test.YtainhfnanamobaaPl
import Derived.Test.YtainhfnanamobaaQt
import Derived.Test.YtainhfnanamobaaProg
import Derived.Test.YtainhfnanamobaaGa
import Derived.Test.YtainhfnanamobaaHa
import Derived.Test.YtainhfnanamobaaTd
import Derived.Test.YtainhfnanamobaaK2
section
/-! What a table is at a point: the plain laws. No program in sight. -/
namespace Go.Att
/-- Is the k-th of v digits of i, the greatest first, a 1? -/
def dig (v i k : Nat) : Nat := i / 2 ^ (v - 1 - k) % 2
/-- What the k-th number of a point gives to the place i. -/
def wf (l : List Int) (i k : Nat) : Int := if dig l.length i k = 1 then nth l k else 1 - nth l k
/-- The product of the first k, of the last m. -/
def wU (l : List Int) (i : Nat) : Nat → Int
  | 0 => 1
  | k + 1 => wU l i k * wf l i k
def wD (l : List Int) (i : Nat) : Nat → Int
  | 0 => 1
  | m + 1 => wD l i m * wf l i (l.length - 1 - m)
/-- The weight of the place i at a point. -/
def wgt (l : List Int) (i : Nat) : Int := wU l i l.length
theorem wU_wD (l : List Int) (i m : Nat) (h : m ≤ l.length) : wU l i (l.length - m) * wD l i m = wgt l i := by
  induction m with
  | zero => simp [wD, wgt]
  | succ m ih =>
    rw [← ih (by omega)]
    obtain ⟨q, hq⟩ : ∃ q, l.length - m = q + 1 := ⟨l.length - m - 1, by omega⟩
    have h1 : l.length - (m + 1) = q := by omega
    have h2 : l.length - 1 - m = q := by omega
    rw [hq, h1]
    show wU l i q * (wD l i m * wf l i (l.length - 1 - m)) = wU l i q * wf l i q * wD l i m
    rw [h2]; grind
theorem wD_all (l : List Int) (i : Nat) : wD l i l.length = wgt l i := by
  have := wU_wD l i l.length (Nat.le_refl _)
  rw [Nat.sub_self] at this
  rw [← this]; simp [wU]
/-- The sum of a table's first n numbers, each times its place's weight. -/
def exS (t at_ : List Int) : Nat → Int
  | 0 => 0
  | n + 1 => exS t at_ n + nth t n * wgt at_ n
/-- What a table Extends to at a point. -/
def ext (t at_ : List Int) : Int := exS t at_ t.length
/-- A table that is 1 at a place. -/
def unitT (n i : Nat) : List Int := (List.replicate n (0 : Int)).set i 1
theorem unitT_length (n i : Nat) : (unitT n i).length = n := by simp [unitT]
theorem unitT_nth (n i j : Nat) (h : j < n) : nth (unitT n i) j = if i = j then 1 else 0 := by
  unfold nth unitT
  simp only [List.getD_eq_getElem?_getD, List.getElem?_set, List.getElem?_replicate, List.length_replicate]
  by_cases e : i = j
  · subst e; simp [h]
  · simp [e, h]
theorem exS_unit (n i : Nat) (at_ : List Int) (m : Nat) (hm : m ≤ n) : exS (unitT n i) at_ m = if i < m then wgt at_ i else 0 := by
  induction m with
  | zero => simp [exS]
  | succ m ih =>
    simp only [exS]
    rw [ih (by omega), unitT_nth n i m (by omega)]
    by_cases h1 : i < m
    · rw [if_pos h1, if_neg (by omega), if_pos (by omega)]; simp
    · rw [if_neg h1]
      by_cases h2 : i = m
      · subst h2; rw [if_pos rfl, if_pos (by omega)]; simp
      · rw [if_neg h2, if_neg (by omega)]; simp
theorem ext_unit (n i : Nat) (at_ : List Int) (h : i < n) : ext (unitT n i) at_ = wgt at_ i := by
  unfold ext
  rw [unitT_length, exS_unit n i at_ n (Nat.le_refl _), if_pos h]
/-- .. by the point's first number: the weights of the two halves. -/
theorem dig_cons (v i k : Nat) : dig (v + 1) i (k + 1) = dig v i k := by
  unfold dig; rw [show v + 1 - 1 - (k + 1) = v - 1 - k by omega]
theorem wf_cons (r : Int) (l : List Int) (i k : Nat) : wf (r :: l) i (k + 1) = wf l i k := by
  unfold wf
  rw [List.length_cons, dig_cons]
  rfl
theorem wU_cons (r : Int) (l : List Int) (i k : Nat) : wU (r :: l) i (k + 1) = wf (r :: l) i 0 * wU l i k := by
  induction k with
  | zero => simp [wU]
  | succ k ih =>
    have e : wU (r :: l) i (k + 1 + 1) = wU (r :: l) i (k + 1) * wf (r :: l) i (k + 1) := rfl
    rw [e, ih, wf_cons, Int.mul_assoc]; rfl
theorem wgt_nil (i : Nat) : wgt [] i = 1 := rfl
theorem wgt_cons (r : Int) (l : List Int) (i : Nat) : wgt (r :: l) i = (if i / 2 ^ l.length % 2 = 1 then r else 1 - r) * wgt l i := by
  unfold wgt
  rw [List.length_cons, wU_cons]
  congr 1
theorem dig_mod (v i k : Nat) (hk : k < v) : dig v (i % 2 ^ v) k = dig v i k := by
  unfold dig
  have h1 : v - 1 - k + 1 + k = v := by omega
  have e : (2 : Nat) ^ v = 2 ^ (v - 1 - k) * (2 * 2 ^ k) := by
    rw [← Nat.mul_assoc, ← Nat.pow_succ, ← Nat.pow_add, h1]
  rw [e, Nat.mod_mul_right_div_self, Nat.mod_mul_right_mod]
theorem wU_mod (l : List Int) (i k : Nat) (hk : k ≤ l.length) : wU l (i % 2 ^ l.length) k = wU l i k := by
  induction k with
  | zero => rfl
  | succ k ih =>
    simp only [wU]
    rw [ih (by omega)]
    congr 1
    unfold wf; rw [dig_mod _ _ _ (by omega)]
theorem wgt_mod (l : List Int) (i : Nat) : wgt l (i % 2 ^ l.length) = wgt l i := wU_mod l i _ (Nat.le_refl _)
end Go.Att
/-! Tables with their first variables fixed; sums over wires: plain laws. No program in sight. -/
namespace Go.Att
/-- The sum of the first n. -/
def sumN (f : Nat → Int) : Nat → Int
  | 0 => 0
  | n + 1 => sumN f n + f n
theorem sumN_congr {f g : Nat → Int} (n : Nat) (h : ∀ i, i < n → f i = g i) : sumN f n = sumN g n := by
  induction n with
  | zero => rfl
  | succ n ih => simp only [sumN]; rw [ih (fun i hi => h i (by omega)), h n (by omega)]
theorem sumN_split (f : Nat → Int) (n m : Nat) : sumN f (n + m) = sumN f n + sumN (fun i => f (i + n)) m := by
  induction m with
  | zero => simp [sumN]
  | succ m ih => rw [← Nat.add_assoc]; simp only [sumN]; rw [ih, Nat.add_comm m n]; omega
theorem sumN_plus (f g : Nat → Int) (n : Nat) : sumN f n + sumN g n = sumN (fun i => f i + g i) n := by
  induction n with
  | zero => rfl
  | succ n ih => simp only [sumN]; rw [← ih]; omega
theorem sumN_mod (p : Int) {f g : Nat → Int} (n : Nat) (h : ∀ i, i < n → f i % p = g i % p) : sumN f n % p = sumN g n % p := by
  induction n with
  | zero => rfl
  | succ n ih =>
    simp only [sumN]
    rw [Int.add_emod, ih (fun i hi => h i (by omega)), h n (by omega), ← Int.add_emod]
theorem sumN_one (f : Nat → Int) (n k : Nat) (h : ∀ i, i < n → i ≠ k → f i = 0) : sumN f n = if k < n then f k else 0 := by
  induction n with
  | zero => simp [sumN]
  | succ n ih =>
    simp only [sumN]
    rw [ih (fun i hi => h i (by omega))]
    by_cases h1 : k < n
    · rw [if_pos h1, if_pos (by omega), h n (by omega) (by omega)]; omega
    · rw [if_neg h1]
      by_cases h2 : k = n
      · subst h2; rw [if_pos (by omega)]; omega
      · rw [if_neg (by omega), h n (by omega) (by omega)]; rfl
theorem exS_sumN (t l : List Int) (n : Nat) : exS t l n = sumN (fun i => nth t i * wgt l i) n := by
  induction n with
  | zero => rfl
  | succ n ih => simp only [exS, sumN]; rw [ih]
/-- The first variable of a point, apart. -/
theorem ext_cons (t : List Int) (r : Int) (l : List Int) (h : t.length = 2 ^ (l.length + 1)) :
    ext t (r :: l) = sumN (fun i => ((1 - r) * nth t i + r * nth t (i + 2 ^ l.length)) * wgt l i) (2 ^ l.length) := by
  unfold ext
  rw [exS_sumN, h, Nat.pow_succ, Nat.mul_two, sumN_split, sumN_plus]
  refine sumN_congr _ fun i hi => ?_
  have e1 : wgt (r :: l) i = (1 - r) * wgt l i := by
    rw [wgt_cons, Nat.div_eq_of_lt hi]; rfl
  have e2 : wgt (r :: l) (i + 2 ^ l.length) = r * wgt l i := by
    rw [wgt_cons, Nat.add_div_right _ (Nat.two_pow_pos _), Nat.div_eq_of_lt hi]
    rw [← wgt_mod l (i + 2 ^ l.length), Nat.add_mod_right, wgt_mod]; rfl
  rw [e1, e2]; grind
/-- The table over one variable less. -/
def fixL (p : Int) (t : List Int) (r : Int) : List Int := (List.range (t.length / 2)).map fun i => fadd p (fmul p (nth t i) (fsub p 1 r)) (fmul p (nth t (i + t.length / 2)) r)
theorem fixL_length (p : Int) (t : List Int) (r : Int) : (fixL p t r).length = t.length / 2 := by simp [fixL]
theorem nth_map_range (f : Nat → Int) (n i : Nat) (h : i < n) : nth ((List.range n).map f) i = f i := by
  simp [nth, List.getD_eq_getElem?_getD, h]
theorem fixL_nth (p : Int) (t : List Int) (r : Int) (i : Nat) (h : i < t.length / 2) : nth (fixL p t r) i = ((1 - r) * nth t i + r * nth t (i + t.length / 2)) % p := by
  unfold fixL
  rw [nth_map_range _ _ _ h]
  simp only [fadd, fmul, fsub, em_r, ea_l, ea_r]
  congr 1; grind
theorem ext_fixL (p : Int) (t : List Int) (r : Int) (l : List Int) (h : t.length = 2 ^ (l.length + 1)) : ext (fixL p t r) l % p = ext t (r :: l) % p := by
  rw [ext_cons t r l h]
  have hh : t.length / 2 = 2 ^ l.length := by rw [h, Nat.pow_succ]; omega
  unfold ext
  rw [exS_sumN, fixL_length, hh]
  refine sumN_mod p _ fun i hi => ?_
  rw [fixL_nth p t r i (by omega), hh, em_l]
/-- .. all of some. -/
def fixAll (p : Int) : List Int → List Int → List Int
  | t, [] => t
  | t, r :: s => fixAll p (fixL p t r) s
theorem fixAll_snoc (p : Int) (t s : List Int) (r : Int) : fixAll p t (s ++ [r]) = fixL p (fixAll p t s) r := by
  induction s generalizing t with
  | nil => rfl
  | cons x s ih => exact ih _
theorem fixAll_length (p : Int) (t s : List Int) (n : Nat) (h : t.length = 2 ^ (s.length + n)) : (fixAll p t s).length = 2 ^ n := by
  induction s generalizing t with
  | nil => show t.length = _; simpa using h
  | cons x s ih => exact ih _ (by rw [fixL_length, h, List.length_cons, show s.length + 1 + n = s.length + n + 1 by omega, Nat.pow_succ]; omega)
theorem ext_fixAll (p : Int) (t s l : List Int) (h : t.length = 2 ^ (s.length + l.length)) : ext (fixAll p t s) l % p = ext t (s ++ l) % p := by
  induction s generalizing t with
  | nil => rfl
  | cons x s ih =>
    have h2 : t.length = 2 ^ ((s ++ l).length + 1) := by rw [h, List.length_append, List.length_cons]; congr 1; omega
    show ext (fixAll p (fixL p t x) s) l % p = _
    rw [ih (fixL p t x) (by rw [fixL_length, h2, Nat.pow_succ, List.length_append]; omega), ext_fixL p t x (s ++ l) h2]
    rfl
/-- The digits of a number, the greatest first. -/
def bitsL : Nat → Nat → List Int
  | 0, _ => []
  | v + 1, i => ((i / 2 ^ v % 2 : Nat) : Int) :: bitsL v i
theorem bitsL_length (v i : Nat) : (bitsL v i).length = v := by
  induction v with
  | zero => rfl
  | succ v ih => simp [bitsL, ih]
theorem bitsL_nth (v i k : Nat) (h : k < v) : nth (bitsL v i) k = (dig v i k : Nat) := by
  induction v generalizing k with
  | zero => omega
  | succ v ih =>
    cases k with
    | zero => simp [nth, bitsL, dig]
    | succ k => rw [dig_cons, ← ih k (by omega)]; rfl
theorem bitsL_drop (v i k : Nat) (h : k ≤ v) : (bitsL v i).drop k = bitsL (v - k) i := by
  induction v generalizing k with
  | zero => simp [bitsL]
  | succ v ih =>
    cases k with
    | zero => rfl
    | succ k => rw [bitsL, List.drop_succ_cons, ih k (by omega)]; congr 1; omega
theorem wgt_bits (v i j : Nat) : wgt (bitsL v i) j = if j % 2 ^ v = i % 2 ^ v then 1 else 0 := by
  induction v with
  | zero => simp [bitsL, wgt_nil, Nat.mod_one]
  | succ v ih =>
    rw [bitsL, wgt_cons, bitsL_length, ih]
    have hi := Nat.mod_pow_succ (x := i) (b := 2) (k := v)
    have hj := Nat.mod_pow_succ (x := j) (b := 2) (k := v)
    have hp := Nat.two_pow_pos v
    have li := Nat.mod_lt i hp
    have lj := Nat.mod_lt j hp
    rw [hi, hj]
    rcases Nat.mod_two_eq_zero_or_one (i / 2 ^ v) with a | a <;> rcases Nat.mod_two_eq_zero_or_one (j / 2 ^ v) with b | b <;> rw [a, b] <;> simp
    · intro h; omega
    · intro h; omega
theorem ext_bits (t : List Int) (v i : Nat) (h : t.length = 2 ^ v) : ext t (bitsL v i) = nth t (i % 2 ^ v) := by
  unfold ext
  have hp := Nat.two_pow_pos v
  have hl := Nat.mod_lt i hp
  rw [exS_sumN, sumN_one _ _ (i % 2 ^ v) (fun j hj hne => by
    rw [wgt_bits, Nat.mod_eq_of_lt (by omega), if_neg hne, Int.mul_zero]), h, if_pos hl, wgt_bits, Nat.mod_mod, if_pos rfl, Int.mul_one]
/-- What a table is where its first variables are fixed. -/
theorem half_is (p : Int) (t s : List Int) (n i : Nat) (hs : s.length ≤ n) (h : t.length = 2 ^ n) : nth (fixAll p t s) (i % 2 ^ (n - s.length)) % p = ext t (s ++ bitsL (n - s.length) i) % p := by
  have e : t.length = 2 ^ (s.length + (n - s.length)) := by rw [h]; congr 1; omega
  rw [← ext_bits _ _ _ (fixAll_length p t s (n - s.length) e), ext_fixAll p t s _ (by rw [bitsL_length]; exact e)]

/-! The wires. -/
/-- The factors of the numbers at a place's digits. -/
def facN (at0 xs : List Int) : Nat → Int
  | 0 => 1
  | k + 1 => facN at0 xs k * (if nth at0 k = 0 then 1 - nth xs k else nth xs k)
/-- The share of one side of a wire. -/
def sh (n : Nat) (s : List Int) (A : Nat) : Int := wgt s (A / 2 ^ (n - s.length))
/-- What the values are at one side. -/
def sd (n : Nat) (t s : List Int) (A : Nat) : Int := ext t (s ++ bitsL (n - s.length) A)
theorem nth_take (l : List Int) (m k : Nat) (h : k < m) : nth (l.take m) k = nth l k := by
  simp [nth, List.getD_eq_getElem?_getD, h]
theorem nth_drop (l : List Int) (m k : Nat) : nth (l.drop m) k = nth l (m + k) := by
  simp [nth, List.getD_eq_getElem?_getD, List.getElem?_drop]
theorem nth_app_l (a b : List Int) (k : Nat) (h : k < a.length) : nth (a ++ b) k = nth a k := by
  simp [nth, List.getD_eq_getElem?_getD, List.getElem?_append_left h]
theorem nth_app_r (a b : List Int) (k : Nat) : nth (a ++ b) (a.length + k) = nth b k := by
  simp [nth, List.getD_eq_getElem?_getD, List.getElem?_append_right]
theorem dig_shift (v i m k : Nat) (hm : m ≤ v) (hk : k < m) : dig m (i / 2 ^ (v - m)) k = dig v i k := by
  unfold dig
  rw [Nat.div_div_eq_div_mul, ← Nat.pow_add]
  congr 3; omega
/-- The product of the first factors is a share. -/
theorem fac_share (at0 xs : List Int) (off n m i : Nat) (hm : m ≤ n) (hl : off + m ≤ xs.length) (hd : ∀ k, k < m → nth at0 (off + k) = (dig n i k : Nat)) (k : Nat) (hk : k ≤ m) :
    facN at0 xs (off + k) = facN at0 xs off * wU ((xs.drop off).take m) (i / 2 ^ (n - m)) k := by
  have len : ((xs.drop off).take m).length = m := by simp; omega
  induction k with
  | zero => simp [wU]
  | succ k ih =>
    rw [← Nat.add_assoc]
    simp only [facN, wU]
    rw [ih (by omega), hd k (by omega)]
    have e : wf ((xs.drop off).take m) (i / 2 ^ (n - m)) k = if ((dig n i k : Nat) : Int) = 0 then 1 - nth xs (off + k) else nth xs (off + k) := by
      unfold wf
      rw [len, dig_shift n i m k hm (by omega), nth_take _ _ _ (by omega), nth_drop]
      have : dig n i k = 0 ∨ dig n i k = 1 := by unfold dig; omega
      rcases this with h | h <;> rw [h] <;> simp
    rw [e, Int.mul_assoc]
theorem fac_shs (n A B : Nat) (xs : List Int) (h : xs.length ≤ 2 * n) : facN (bitsL n A ++ bitsL n B) xs xs.length = sh n (xs.take n) A * sh n (xs.drop n) B := by
  have h1 := fac_share (bitsL n A ++ bitsL n B) xs 0 n (min n xs.length) A (by omega) (by omega) (fun k hk => by
    rw [Nat.zero_add, nth_app_l _ _ _ (by rw [bitsL_length]; omega), bitsL_nth _ _ _ (by omega)]) (min n xs.length) (Nat.le_refl _)
  have e1 : facN (bitsL n A ++ bitsL n B) xs (min n xs.length) = sh n (xs.take n) A := by
    have ht : xs.take (min n xs.length) = xs.take n := by
      by_cases hn : n ≤ xs.length
      · rw [Nat.min_eq_left hn]
      · rw [Nat.min_eq_right (by omega), List.take_length, List.take_of_length_le (by omega)]
    rw [Nat.zero_add] at h1
    rw [h1, facN, Int.one_mul, List.drop_zero, ht, sh, wgt, List.length_take]
  by_cases hn : xs.length ≤ n
  · have hm : min n xs.length = xs.length := by omega
    rw [hm] at e1
    rw [e1, List.drop_of_length_le hn]
    show _ = _ * wgt [] _
    rw [wgt_nil, Int.mul_one]
  · have hm : min n xs.length = n := by omega
    rw [hm] at e1
    have h2 := fac_share (bitsL n A ++ bitsL n B) xs n n (xs.length - n) B (by omega) (by omega) (fun k hk => by
      have := nth_app_r (bitsL n A) (bitsL n B) k
      rw [bitsL_length] at this
      rw [this, bitsL_nth _ _ _ (by omega)]) (xs.length - n) (Nat.le_refl _)
    rw [show n + (xs.length - n) = xs.length by omega] at h2
    have ht : (xs.drop n).take (xs.length - n) = xs.drop n := List.take_of_length_le (by simp)
    rw [h2, e1, ht]; congr 1; unfold sh wgt; rw [List.length_drop]
/-- What a gate is at its wires' values, unreduced. -/
def gop (k a b : Int) : Int := if k = 1 then a * b else a + b
abbrev Gt := Int × Int × Int
def partT (n : Nat) (t z xs : List Int) (i : Nat) (g : Gt) : Int := wgt z i * (sh n (xs.take n) g.2.1.toNat * sh n (xs.drop n) g.2.2.toNat) * gop g.1 (sd n t (xs.take n) g.2.1.toNat) (sd n t (xs.drop n) g.2.2.toNat)
/-- The sum over the places whose first variables are fixed. -/
def partS (l : List Gt) (n : Nat) (t z xs : List Int) (k : Nat) : Int := sumN (fun i => partT n t z xs i (l.getD i (0, 0, 0))) k
end Go.Att
/-! Sums over wires: nothing fixed; one variable more; one variable as a number. Plain laws. -/
namespace Go.Att
/-! Nothing fixed. -/
theorem sh_nil (n A : Nat) : sh n [] A = 1 := rfl
theorem sd_nil (n : Nat) (t : List Int) (A : Nat) (h : t.length = 2 ^ n) (hA : A < 2 ^ n) : sd n t [] A = nth t A := by
  show ext t (bitsL (n - 0) A) = _
  rw [Nat.sub_zero, ext_bits t n A h, Nat.mod_eq_of_lt hA]
theorem partT_nil (n : Nat) (t z : List Int) (i : Nat) (g : Gt) (h : t.length = 2 ^ n) (hA : g.2.1.toNat < 2 ^ n) (hB : g.2.2.toNat < 2 ^ n) :
    partT n t z [] i g = wgt z i * gop g.1 (nth t g.2.1.toNat) (nth t g.2.2.toNat) := by
  unfold partT
  rw [List.take_nil, List.drop_nil, sh_nil, sh_nil, sd_nil n t _ h hA, sd_nil n t _ h hB, Int.mul_one, Int.mul_one]
/-- The table of the layer above at a point. -/
theorem partS_nil (p : Int) (l : List Gt) (n : Nat) (t z u : List Int) (h : t.length = 2 ^ n) (hl : ∀ i, i < l.length → (l.getD i (0, 0, 0)).2.1.toNat < 2 ^ n ∧ (l.getD i (0, 0, 0)).2.2.toNat < 2 ^ n) (hu : u.length = l.length)
    (hv : ∀ i, i < l.length → nth u i = gop (l.getD i (0, 0, 0)).1 (nth t (l.getD i (0, 0, 0)).2.1.toNat) (nth t (l.getD i (0, 0, 0)).2.2.toNat) % p) :
    partS l n t z [] l.length % p = ext u z % p := by
  unfold partS ext
  rw [exS_sumN, hu]
  refine sumN_mod p _ fun i hi => ?_
  rw [partT_nil n t z i _ h (hl i hi).1 (hl i hi).2, hv i hi, em_l, Int.mul_comm]
/-! One variable more. -/
theorem wgt_snoc (l : List Int) (b : Int) (i : Nat) : wgt (l ++ [b]) i = wgt l (i / 2) * (if i % 2 = 1 then b else 1 - b) := by
  induction l with
  | nil => simp [wgt_cons, wgt_nil, Nat.div_one]
  | cons r l ih =>
    rw [List.cons_append, wgt_cons, wgt_cons, ih, List.length_append, List.length_singleton, Nat.div_div_eq_div_mul, Nat.mul_comm 2, ← Nat.pow_succ, Int.mul_assoc]
theorem sh_snoc (n : Nat) (s : List Int) (b : Int) (A : Nat) (h : s.length < n) : sh n (s ++ [b]) A = sh n s A * (if A / 2 ^ (n - s.length - 1) % 2 = 1 then b else 1 - b) := by
  unfold sh
  rw [wgt_snoc, List.length_append, List.length_singleton, Nat.div_div_eq_div_mul, ← Nat.pow_succ, show n - (s.length + 1) = n - s.length - 1 by omega, show (n - s.length - 1).succ = n - s.length by omega]
theorem sd_snoc (n : Nat) (t s : List Int) (A : Nat) (h : s.length < n) : sd n t (s ++ [((A / 2 ^ (n - s.length - 1) % 2 : Nat) : Int)]) A = sd n t s A := by
  unfold sd
  rw [List.length_append, List.length_singleton, List.append_assoc, show n - (s.length + 1) = n - s.length - 1 by omega]
  congr 2
  obtain ⟨m, hm⟩ : ∃ m, n - s.length = m + 1 := ⟨n - s.length - 1, by omega⟩
  rw [hm]; rfl
/-- What both sides make of a variable. -/
theorem side_snoc (n : Nat) (t s : List Int) (A : Nat) (h : s.length < n) (G : Int → Int) :
    sh n (s ++ [0]) A * G (sd n t (s ++ [0]) A) + sh n (s ++ [1]) A * G (sd n t (s ++ [1]) A) = sh n s A * G (sd n t s A) := by
  have hd := sd_snoc n t s A h
  rw [sh_snoc n s 0 A h, sh_snoc n s 1 A h]
  rcases Nat.mod_two_eq_zero_or_one (A / 2 ^ (n - s.length - 1)) with e | e <;> rw [e] at hd ⊢
  · rw [show ((0 : Nat) : Int) = 0 from rfl] at hd; rw [hd]; simp
  · rw [show ((1 : Nat) : Int) = 1 from rfl] at hd; rw [hd]; simp
theorem partT_snoc (n : Nat) (t z xs : List Int) (i : Nat) (g : Gt) (h : xs.length < 2 * n) : partT n t z xs i g = partT n t z (xs ++ [0]) i g + partT n t z (xs ++ [1]) i g := by
  unfold partT
  by_cases hn : xs.length < n
  · have e1 : ∀ b : Int, (xs ++ [b]).take n = xs ++ [b] := fun b => List.take_of_length_le (by simp; omega)
    have e2 : ∀ b : Int, (xs ++ [b]).drop n = [] := fun b => List.drop_of_length_le (by simp; omega)
    rw [e1, e1, e2, e2, List.take_of_length_le (by omega), List.drop_of_length_le (by omega)]
    have := side_snoc n t xs g.2.1.toNat hn (fun X => wgt z i * sh n [] g.2.2.toNat * gop g.1 X (sd n t [] g.2.2.toNat))
    grind
  · have e1 : ∀ b : Int, (xs ++ [b]).take n = xs.take n := fun b => List.take_append_of_le_length (by omega)
    have e2 : ∀ b : Int, (xs ++ [b]).drop n = xs.drop n ++ [b] := fun b => List.drop_append_of_le_length (by omega)
    rw [e1, e1, e2, e2]
    have := side_snoc n t (xs.drop n) g.2.2.toNat (by simp; omega) (fun X => wgt z i * sh n (xs.take n) g.2.1.toNat * gop g.1 (sd n t (xs.take n) g.2.1.toNat) X)
    grind
theorem partS_snoc (l : List Gt) (n : Nat) (t z xs : List Int) (k : Nat) (h : xs.length < 2 * n) : partS l n t z xs k = partS l n t z (xs ++ [0]) k + partS l n t z (xs ++ [1]) k := by
  unfold partS
  rw [sumN_plus]
  exact sumN_congr _ fun i _ => partT_snoc n t z xs i _ h
/-! Polynomials of so many numbers. -/
def PolyN (m : Nat) (f : Int → Int) : Prop := ∃ q : List Int, q.length = m ∧ ∀ t, ev q t = f t
theorem PolyN.congr {m : Nat} {f g : Int → Int} (h : PolyN m f) (e : ∀ t, f t = g t) : PolyN m g := by
  obtain ⟨q, h1, h2⟩ := h; exact ⟨q, h1, fun t => by rw [h2, e]⟩
theorem ev_zipAdd (a b : List Int) (h : a.length = b.length) (t : Int) : ev (List.zipWith (· + ·) a b) t = ev a t + ev b t := by
  induction a generalizing b with
  | nil => cases b with
    | nil => rfl
    | cons y b => simp at h
  | cons x a ih =>
    cases b with
    | nil => simp at h
    | cons y b => simp only [List.zipWith_cons_cons, ev]; rw [ih b (by simpa using h)]; grind
theorem ev_map_mul (c : Int) (a : List Int) (t : Int) : ev (a.map (c * ·)) t = c * ev a t := by
  induction a with
  | nil => simp [ev]
  | cons x a ih => simp only [List.map_cons, ev]; rw [ih]; grind
theorem ev_zs (m : Nat) (t : Int) : ev (List.replicate m 0) t = 0 := by
  induction m with
  | zero => rfl
  | succ m ih => simp only [List.replicate_succ, ev]; rw [ih]; simp
theorem ev_app_zs (a : List Int) (m : Nat) (t : Int) : ev (a ++ List.replicate m 0) t = ev a t := by
  induction a with
  | nil => rw [List.nil_append, ev_zs]; rfl
  | cons x a ih => simp only [List.cons_append, ev]; rw [ih]
theorem PolyN.add {m : Nat} {f g : Int → Int} (h1 : PolyN m f) (h2 : PolyN m g) : PolyN m fun t => f t + g t := by
  obtain ⟨a, ha, ea⟩ := h1
  obtain ⟨b, hb, eb⟩ := h2
  exact ⟨List.zipWith (· + ·) a b, by simp [ha, hb], fun t => by rw [ev_zipAdd a b (by omega), ea, eb]⟩
theorem PolyN.smul {m : Nat} {f : Int → Int} (c : Int) (h : PolyN m f) : PolyN m fun t => c * f t := by
  obtain ⟨a, ha, ea⟩ := h
  exact ⟨a.map (c * ·), by simp [ha], fun t => by rw [ev_map_mul, ea]⟩
theorem PolyN.mono {m n : Nat} {f : Int → Int} (h : PolyN m f) (hn : m ≤ n) : PolyN n f := by
  obtain ⟨a, ha, ea⟩ := h
  exact ⟨a ++ List.replicate (n - m) 0, by simp; omega, fun t => by rw [ev_app_zs, ea]⟩
theorem PolyN.const (c : Int) {m : Nat} (h : 1 ≤ m) : PolyN m fun _ => c := PolyN.mono ⟨[c], rfl, fun t => by simp [ev]⟩ h
theorem PolyN.zero (m : Nat) : PolyN m fun _ => 0 := ⟨List.replicate m 0, by simp, fun t => ev_zs m t⟩
theorem PolyN.var {m : Nat} {f : Int → Int} (h : PolyN m f) : PolyN (m + 1) fun t => t * f t := by
  obtain ⟨a, ha, ea⟩ := h
  exact ⟨0 :: a, by simp [ha], fun t => by simp only [ev]; rw [ea]; omega⟩
theorem PolyN.lin {m : Nat} {f : Int → Int} (c d : Int) (h : PolyN m f) : PolyN (m + 1) fun t => (c + d * t) * f t :=
  (((h.smul c).mono (Nat.le_succ m)).add (h.smul d).var).congr fun t => by grind
theorem PolyN.sum {m : Nat} {F : Nat → Int → Int} (n : Nat) (h : ∀ i, i < n → PolyN m (F i)) : PolyN m fun t => sumN (fun i => F i t) n := by
  induction n with
  | zero => exact PolyN.zero m
  | succ n ih => exact (ih fun i hi => h i (by omega)).add (h n (by omega))
/-! A point of a line: the table there is a polynomial. -/
def lineZ (x y : List Int) (t : Int) : List Int := List.zipWith (fun a b => a + t * (b - a)) x y
theorem wgt_line (x y : List Int) (h : x.length = y.length) (i : Nat) : PolyN (x.length + 1) fun t => wgt (lineZ x y t) i := by
  induction x generalizing y with
  | nil => exact PolyN.const 1 (Nat.le_refl _)
  | cons a x ih =>
    cases y with
    | nil => simp at h
    | cons b y =>
      have hl : x.length = y.length := by simpa using h
      have hz : ∀ t, (lineZ x y t).length = x.length := fun t => by simp [lineZ, hl]
      have := ih y hl
      by_cases e : i / 2 ^ x.length % 2 = 1
      · refine (this.lin a (b - a)).congr fun t => ?_
        show _ = wgt ((a + t * (b - a)) :: lineZ x y t) i
        rw [wgt_cons, hz, if_pos e]; grind
      · refine (this.lin (1 - a) (a - b)).congr fun t => ?_
        show _ = wgt ((a + t * (b - a)) :: lineZ x y t) i
        rw [wgt_cons, hz, if_neg e]; grind
theorem ext_line (T x y : List Int) (h : x.length = y.length) : PolyN (x.length + 1) fun t => ext T (lineZ x y t) := by
  refine (PolyN.sum (F := fun i t => nth T i * wgt (lineZ x y t) i) T.length fun i _ => (wgt_line x y h i).smul _).congr fun t => ?_
  unfold ext; rw [exS_sumN]
/-! One variable of a layer's sum as a number. -/
theorem wgt_aff (l : List Int) (i : Nat) (r : Int) : wgt (r :: l) i = (1 - r) * wgt (0 :: l) i + r * wgt (1 :: l) i := by
  simp only [wgt_cons]
  split <;> grind
theorem ext_aff (T l : List Int) (r : Int) : ext T (r :: l) = (1 - r) * ext T (0 :: l) + r * ext T (1 :: l) := by
  unfold ext
  generalize T.length = n
  induction n with
  | zero => simp [exS]
  | succ n ih => simp only [exS]; rw [ih, wgt_aff l n r]; grind
theorem partT_one (n : Nat) (t z : List Int) (i : Nat) (g : Gt) (h : 1 ≤ n) : PolyN 3 fun r => partT n t z [r] i g := by
  have e : ∀ r : Int, partT n t z [r] i g = (wgt z i * sh n [] g.2.2.toNat) * (((1 - r) * sh n [0] g.2.1.toNat + r * sh n [1] g.2.1.toNat) * ((1 - r) * gop g.1 (sd n t [0] g.2.1.toNat) (sd n t [] g.2.2.toNat) + r * gop g.1 (sd n t [1] g.2.1.toNat) (sd n t [] g.2.2.toNat))) := by
    intro r
    unfold partT
    rw [List.take_of_length_le (by simpa using h), List.drop_of_length_le (by simpa using h)]
    have e1 : sh n [r] g.2.1.toNat = (1 - r) * sh n [0] g.2.1.toNat + r * sh n [1] g.2.1.toNat := wgt_aff [] _ r
    have e2 : sd n t [r] g.2.1.toNat = (1 - r) * sd n t [0] g.2.1.toNat + r * sd n t [1] g.2.1.toNat := ext_aff t _ r
    have e3 : ∀ X Y Z : Int, gop g.1 ((1 - r) * X + r * Y) Z = (1 - r) * gop g.1 X Z + r * gop g.1 Y Z := by intro X Y Z; unfold gop; split <;> grind
    rw [e1, e2, e3]; grind
  generalize wgt z i * sh n [] g.2.2.toNat = W at e
  generalize sh n [0] g.2.1.toNat = S0 at e
  generalize sh n [1] g.2.1.toNat = S1 at e
  generalize gop g.1 (sd n t [0] g.2.1.toNat) (sd n t [] g.2.2.toNat) = G0 at e
  generalize gop g.1 (sd n t [1] g.2.1.toNat) (sd n t [] g.2.2.toNat) = G1 at e
  exact ⟨[W * (S0 * G0), W * ((S1 - S0) * G0 + S0 * (G1 - G0)), W * ((S1 - S0) * (G1 - G0))], rfl, fun r => by show _ = partT n t z [r] i g; rw [e]; simp only [ev]; grind⟩
theorem partS_one (l : List Gt) (n : Nat) (t z : List Int) (k : Nat) (h : 1 ≤ n) : PolyN 3 fun r => partS l n t z [r] k :=
  PolyN.sum (F := fun i r => partT n t z [r] i (l.getD i (0, 0, 0))) k fun i _ => partT_one n t z i _ h
end Go.Att
/-! The document's polynomials: plain laws. No program in sight. -/
namespace Go.Att
theorem mad {p a b c d : Int} (x : Int) (h1 : a % p = b % p) (h2 : c % p = d % p) : (a + x * c) % p = (b + x * d) % p := by
  rw [Int.add_emod, Int.mul_emod, h1, h2, ← Int.mul_emod, ← Int.add_emod]
theorem mmul {p a b c d : Int} (h1 : a % p = b % p) (h2 : c % p = d % p) : (a * c) % p = (b * d) % p := by
  rw [Int.mul_emod, h1, h2, ← Int.mul_emod]
theorem madd {p a b c d : Int} (h1 : a % p = b % p) (h2 : c % p = d % p) : (a + c) % p = (b + d) % p := by
  rw [Int.add_emod, h1, h2, ← Int.add_emod]
theorem sumN_mul (c : Int) (f : Nat → Int) (n : Nat) : c * sumN f n = sumN (fun i => c * f i) n := by
  induction n with
  | zero => simp [sumN]
  | succ n ih => simp only [sumN]; rw [Int.mul_add, ih]
theorem sumN_succ' (f : Nat → Int) (n : Nat) : sumN f (n + 1) = f 0 + sumN (fun i => f (i + 1)) n := by
  induction n with
  | zero => simp [sumN]
  | succ n ih => rw [sumN, ih, sumN]; omega
theorem sumN_zero (n : Nat) : sumN (fun _ => 0) n = 0 := by
  induction n with
  | zero => rfl
  | succ n ih => simp only [sumN]; rw [ih]; rfl
/-- What a list of coefficients comes to, as a sum. -/
theorem ev_sumN (a : List Int) (x : Int) (m : Nat) (h : a.length ≤ m) : ev a x = sumN (fun i => nth a i * x ^ i) m := by
  induction a generalizing m with
  | nil =>
    rw [sumN_congr (g := fun _ => 0) m (fun i _ => by simp [nth]), sumN_zero]; rfl
  | cons c a ih =>
    obtain ⟨k, rfl⟩ : ∃ k, m = k + 1 := ⟨m - 1, by simp at h; omega⟩
    rw [sumN_succ', ev, ih k (by simpa using h), sumN_mul]
    congr 1
    · simp [nth]
    · refine sumN_congr _ fun i _ => ?_
      show x * (nth a i * x ^ i) = nth a i * x ^ (i + 1)
      rw [Int.pow_succ]; grind
theorem ev_range (f : Nat → Int) (n : Nat) (x : Int) : ev ((List.range n).map f) x = sumN (fun i => f i * x ^ i) n := by
  rw [ev_sumN _ x n (by simp)]
  exact sumN_congr _ fun i hi => by rw [nth_map_range _ _ _ hi]
theorem ev_map_mod (p : Int) (a : List Int) (x : Int) : ev (a.map (fof p)) x % p = ev a x % p := by
  induction a with
  | nil => rfl
  | cons c a ih => exact mad x (e_idem c p) ih
/-- How many numbers there are up to the last that is not 0. -/
def degN (p : Int) : List Int → Nat
  | [] => 0
  | c :: l => if degN p l = 0 then (if fof p c = 0 then 0 else 1) else degN p l + 1
def trimL (p : Int) (a : List Int) : List Int := (a.take (degN p a)).map (fof p)
theorem degN_le (p : Int) (a : List Int) : degN p a ≤ a.length := by
  induction a with
  | nil => exact Nat.le_refl _
  | cons c l ih => simp only [degN, List.length_cons]; split <;> (try split) <;> omega
theorem degN_none (p : Int) (a : List Int) (h : ∀ i, i < a.length → fof p (nth a i) = 0) : degN p a = 0 := by
  induction a with
  | nil => rfl
  | cons c l ih =>
    have h0 : fof p c = 0 := h 0 (by simp)
    have := ih fun i hi => h (i + 1) (by simpa using hi)
    simp only [degN]; rw [if_pos this, if_pos h0]
theorem degN_at (p : Int) (a : List Int) (i : Nat) (hi : i < a.length) (h0 : fof p (nth a i) ≠ 0) (h : ∀ j, i < j → j < a.length → fof p (nth a j) = 0) : degN p a = i + 1 := by
  induction a generalizing i with
  | nil => simp at hi
  | cons c l ih =>
    cases i with
    | zero =>
      have h1 : fof p c ≠ 0 := h0
      have := degN_none p l fun j hj => h (j + 1) (by omega) (by simpa using hj)
      simp only [degN]; rw [if_pos this, if_neg h1]
    | succ i =>
      have := ih i (by simpa using hi) h0 fun j hj hl => h (j + 1) (by omega) (by simpa using hl)
      simp only [degN]; rw [if_neg (by omega), this]
theorem ev_trim (p : Int) (a : List Int) (x : Int) : ev (trimL p a) x % p = ev a x % p := by
  induction a with
  | nil => rfl
  | cons c l ih =>
    unfold trimL at *
    simp only [degN]
    by_cases h : degN p l = 0
    · rw [if_pos h]
      rw [h] at ih
      simp only [List.take_zero, List.map_nil] at ih
      split
      · rename_i hc
        exact (by rw [List.take_zero, List.map_nil]; show (0 : Int) % p = (c + x * ev l x) % p; rw [← mad (a := c % p) x (e_idem c p) ih]; rw [show c % p = 0 from hc]; simp [ev])
      · exact mad x (e_idem c p) ih
    · rw [if_neg h]
      exact mad x (e_idem c p) ih
theorem trimL_length (p : Int) (a : List Int) : (trimL p a).length ≤ a.length := by
  unfold trimL; rw [List.length_map, List.length_take]; omega
/-- The sum. -/
def addL (p : Int) (a b : List Int) : List Int := (List.range (max a.length b.length)).map fun i => fadd p (nth a i) (nth b i)
def plusL (p : Int) (a b : List Int) : List Int := trimL p (addL p a b)
theorem ev_plus (p : Int) (a b : List Int) (x : Int) : ev (plusL p a b) x % p = (ev a x + ev b x) % p := by
  unfold plusL addL
  rw [ev_trim, ev_range, ev_sumN a x (max a.length b.length) (by omega), ev_sumN b x (max a.length b.length) (by omega), sumN_plus]
  refine sumN_mod p _ fun i _ => ?_
  rw [fadd, em_l]; congr 1; grind
theorem plusL_length (p : Int) (a b : List Int) : (plusL p a b).length ≤ max a.length b.length := by
  have := trimL_length p (addL p a b)
  unfold plusL; unfold addL at this ⊢; simpa using this
/-- .. times an element, and times x^k. -/
def sclL (p : Int) (a : List Int) (c : Int) (k : Nat) : List Int := List.replicate k 0 ++ a.map (fmul p · c)
def scaledL (p : Int) (a : List Int) (c : Int) (k : Nat) : List Int := trimL p (sclL p a c k)
theorem ev_shift (k : Nat) (a : List Int) (x : Int) : ev (List.replicate k 0 ++ a) x = x ^ k * ev a x := by
  induction k with
  | zero => simp
  | succ k ih => rw [List.replicate_succ, List.cons_append, ev, ih, Int.pow_succ]; grind
theorem ev_map_mulmod (p c : Int) (a : List Int) (x : Int) : ev (a.map (fmul p · c)) x % p = (c * ev a x) % p := by
  induction a with
  | nil => simp [ev]
  | cons d a ih =>
    show (fmul p d c + x * ev (a.map (fmul p · c)) x) % p = (c * (d + x * ev a x)) % p
    refine (mad (a := fmul p d c) (b := d * c) x (e_idem (d * c) p) ih).trans ?_
    congr 1; grind
theorem ev_scaled (p : Int) (a : List Int) (c : Int) (k : Nat) (x : Int) : ev (scaledL p a c k) x % p = (x ^ k * (c * ev a x)) % p := by
  unfold scaledL sclL
  rw [ev_trim, ev_shift]
  exact mmul rfl (ev_map_mulmod p c a x)
theorem scaledL_length (p : Int) (a : List Int) (c : Int) (k : Nat) : (scaledL p a c k).length ≤ k + a.length := by
  have := trimL_length p (sclL p a c k)
  unfold scaledL; unfold sclL at this ⊢; simpa using this
/-- The product. -/
def timesS (p : Int) (a b : List Int) : Nat → List Int
  | 0 => []
  | i + 1 => plusL p (timesS p a b i) (scaledL p b (nth a i) i)
def timesL (p : Int) (a b : List Int) : List Int := timesS p a b a.length
theorem ev_timesS (p : Int) (a b : List Int) (x : Int) (n : Nat) : ev (timesS p a b n) x % p = (sumN (fun i => nth a i * x ^ i) n * ev b x) % p := by
  induction n with
  | zero => simp [timesS, ev, sumN]
  | succ n ih =>
    simp only [timesS, sumN]
    rw [ev_plus, madd ih (ev_scaled p b (nth a n) n x)]; congr 1; grind
theorem ev_times (p : Int) (a b : List Int) (x : Int) : ev (timesL p a b) x % p = (ev a x * ev b x) % p := by
  unfold timesL
  rw [ev_timesS, ev_sumN a x a.length (Nat.le_refl _)]
theorem timesS_length (p : Int) (a b : List Int) (n : Nat) : (timesS p a b n).length ≤ n - 1 + b.length := by
  induction n with
  | zero => simp [timesS]
  | succ n ih =>
    have h1 := plusL_length p (timesS p a b n) (scaledL p b (nth a n) n)
    have h2 := scaledL_length p b (nth a n) n
    simp only [timesS]; omega
/-- The product of x - xs[i], but for the place k. -/
def vanS (p : Int) (xs : List Int) (k : Int) : Nat → List Int
  | 0 => [1]
  | i + 1 => if (i : Int) = k then vanS p xs k i else timesL p (vanS p xs k i) [fsub p 0 (nth xs i), 1]
def vanP (xs : List Int) (k x : Int) : Nat → Int
  | 0 => 1
  | i + 1 => if (i : Int) = k then vanP xs k x i else vanP xs k x i * (x - nth xs i)
theorem ev_van (p : Int) (xs : List Int) (k x : Int) (n : Nat) : ev (vanS p xs k n) x % p = vanP xs k x n % p := by
  induction n with
  | zero => simp [vanS, vanP, ev]
  | succ n ih =>
    simp only [vanS, vanP]
    split
    · exact ih
    · rw [ev_times]
      refine mmul ih ?_
      simp only [ev, fsub, Int.mul_zero, Int.add_zero, Int.mul_one]
      rw [ea_l]; congr 1; omega
theorem vanS_length (p : Int) (xs : List Int) (k : Int) (n : Nat) : (vanS p xs k n).length ≤ n + 1 := by
  induction n with
  | zero => simp [vanS]
  | succ n ih =>
    simp only [vanS]
    split
    · omega
    · have := timesS_length p (vanS p xs k n) [fsub p 0 (nth xs n), 1] (vanS p xs k n).length
      unfold timesL; simp at this ⊢; omega
theorem vanS_length_but (p : Int) (xs : List Int) (k n : Nat) (h : k < n) : (vanS p xs k n).length ≤ n := by
  induction n with
  | zero => omega
  | succ n ih =>
    simp only [vanS]
    split
    · exact vanS_length p xs k n
    · rename_i hne
      have hk : k < n := by omega
      have := timesS_length p (vanS p xs k n) [fsub p 0 (nth xs n), 1] (vanS p xs k n).length
      have := ih hk
      unfold timesL; simp at *; omega
theorem vanP_zero (xs : List Int) (k m n : Nat) (hm : m < n) (hk : m ≠ k) : vanP xs k (nth xs m) n = 0 := by
  induction n with
  | zero => omega
  | succ n ih =>
    simp only [vanP]
    by_cases h : m = n
    · subst h; rw [if_neg (by omega)]; simp
    · rw [ih (by omega)]; split <;> simp
theorem vanP_unit {p : Int} (hp : Pr p) (xs : List Int) (k n : Nat) (h : ∀ i, i < n → i ≠ k → ¬ p ∣ nth xs k - nth xs i) : ¬ p ∣ vanP xs k (nth xs k) n := by
  induction n with
  | zero => intro hd; have h1 : p ∣ 1 := hd; have := Int.le_of_dvd (by decide) h1; have := hp.two; omega
  | succ n ih =>
    simp only [vanP]
    have := ih fun i hi => h i (by omega)
    split
    · exact this
    · rename_i hne
      exact fun hd => (hp.euclid hd).elim this (h n (by omega) (by omega))
/-- The polynomial through points. -/
def fitC (p : Int) (xs ys : List Int) (i : Nat) : Int := fdiv p (nth ys i) (ev (vanS p xs i xs.length) (nth xs i) % p)
def fitS (p : Int) (xs ys : List Int) : Nat → List Int
  | 0 => []
  | i + 1 => plusL p (fitS p xs ys i) (scaledL p (vanS p xs i xs.length) (fitC p xs ys i) 0)
def fitL (p : Int) (xs ys : List Int) : List Int := fitS p xs ys xs.length
theorem fitS_length (p : Int) (xs ys : List Int) (n : Nat) (h : n ≤ xs.length) : (fitS p xs ys n).length ≤ xs.length := by
  induction n with
  | zero => simp [fitS]
  | succ n ih =>
    have h1 := plusL_length p (fitS p xs ys n) (scaledL p (vanS p xs n xs.length) (fitC p xs ys n) 0)
    have h2 := scaledL_length p (vanS p xs n xs.length) (fitC p xs ys n) 0
    have h3 := vanS_length_but p xs n xs.length (by omega)
    have h4 := ih (by omega)
    simp only [fitS]; omega
theorem fitL_length (p : Int) (xs ys : List Int) : (fitL p xs ys).length ≤ xs.length := fitS_length p xs ys _ (Nat.le_refl _)
theorem ev_fitS (p : Int) (xs ys : List Int) (x : Int) (n : Nat) : ev (fitS p xs ys n) x % p = sumN (fun i => fitC p xs ys i * vanP xs i x xs.length) n % p := by
  induction n with
  | zero => simp [fitS, ev, sumN]
  | succ n ih =>
    simp only [fitS, sumN]
    rw [ev_plus]
    refine madd ih ?_
    rw [ev_scaled, Int.pow_zero, Int.one_mul]
    exact mmul rfl (ev_van p xs n x xs.length)
theorem finv_mul {p : Int} (hp : Pr p) {a : Int} (ha : ¬ p ∣ a) : (finv p a * a) % p = 1 := by
  have h2 := hp.two
  unfold finv
  rw [em_l, ← Int.pow_succ, show (p - 2).toNat.succ = (p - 1).toNat by omega]
  exact fermat hp ha
/-- It goes through them. -/
theorem fit_at {p : Int} (hp : Pr p) (xs ys : List Int) (m : Nat) (hm : m < xs.length) (h : ∀ i, i < xs.length → i ≠ m → ¬ p ∣ nth xs m - nth xs i) : ev (fitL p xs ys) (nth xs m) % p = nth ys m % p := by
  unfold fitL
  rw [ev_fitS, sumN_one _ _ m (fun i hi hne => by rw [vanP_zero xs i m xs.length hm (fun e => hne e.symm), Int.mul_zero]), if_pos hm]
  have hv := ev_van p xs m (nth xs m) xs.length
  have hu := vanP_unit hp xs m xs.length h
  have hw : ¬ p ∣ ev (vanS p xs m xs.length) (nth xs m) % p := by
    rw [hv]; exact fun hd => hu (Int.dvd_of_emod_eq_zero (by rw [← e_idem]; exact Int.emod_eq_zero_of_dvd hd))
  have hi := finv_mul hp hw
  unfold fitC fdiv
  rw [em_l, Int.mul_assoc]
  have e : (finv p (ev (vanS p xs m xs.length) (nth xs m) % p) * vanP xs m (nth xs m) xs.length) % p = 1 % p := by
    rw [← em_r, ← hv, hi, one_mod hp.two]
  rw [mmul rfl e, Int.mul_one]
/-- How many of the first n numbers are such. -/
def cntN (P : Nat → Bool) : Nat → Nat
  | 0 => 0
  | n + 1 => cntN P n + (if P n then 1 else 0)
theorem cntN_le (P : Nat → Bool) (n : Nat) : cntN P n ≤ n := by
  induction n with
  | zero => exact Nat.le_refl _
  | succ n ih => simp only [cntN]; split <;> omega
theorem cntN_all {P : Nat → Bool} {n : Nat} (h : ∀ i, i < n → P i = true) : cntN P n = n := by
  induction n with
  | zero => rfl
  | succ n ih => simp only [cntN]; rw [ih fun i hi => h i (by omega), h n (by omega)]; rfl
theorem cntN_lt {P : Nat → Bool} {n i : Nat} (hi : i < n) (h : P i = false) : cntN P n < n := by
  induction n with
  | zero => omega
  | succ n ih =>
    simp only [cntN]
    by_cases e : i = n
    · subst e; have := cntN_le P i; rw [h]; simp; omega
    · have := ih (by omega); split <;> omega
def such (P : Nat → Bool) (n : Nat) : List Int := ((List.range n).filter P).map (fun (i : Nat) => (i : Int))
theorem such_length (P : Nat → Bool) (n : Nat) : (such P n).length = cntN P n := by
  induction n with
  | zero => rfl
  | succ n ih =>
    simp only [cntN, such, List.length_map] at *
    rw [List.range_succ, List.filter_append, List.length_append, ih]
    congr 1
    cases h : P n <;> simp [h]
/-- A polynomial has few roots, or each number is one. -/
theorem few_roots {p : Int} (hp : Pr p) {m : Nat} {f : Int → Int} (h : PolyN m f) (P : Nat → Bool) (n : Nat) (hn : (n : Int) ≤ p) (hP : ∀ i, i < n → P i = true → f i % p = 0) : cntN P n < m ∨ ∀ x, f x % p = 0 := by
  obtain ⟨q, rfl, he⟩ := h
  by_cases hc : ∃ c ∈ q, ¬ p ∣ c
  · left
    rw [← such_length]
    refine roots hp q hc (such P n) ?_ ?_
    · unfold such
      rw [List.pairwise_map]
      refine List.Pairwise.imp_of_mem ?_ ((List.nodup_range (n := n)).filter P)
      intro a b ha hb hab hd
      have ha' := List.mem_range.1 (List.mem_filter.1 ha).1
      have hb' := List.mem_range.1 (List.mem_filter.1 hb).1
      obtain ⟨k, hk⟩ := hd
      have hp2 := hp.two
      have h1 : ((a : Int) - b) < p := by omega
      have h2 : -p < ((a : Int) - b) := by omega
      rw [hk] at h1 h2
      have k0 : k = 0 := by
        rcases Int.lt_trichotomy k 0 with h | h | h
        · have : p * k ≤ p * (-1) := Int.mul_le_mul_of_nonneg_left (by omega) (by omega)
          omega
        · exact h
        · have : p * 1 ≤ p * k := Int.mul_le_mul_of_nonneg_left (by omega) (by omega)
          omega
      rw [k0] at hk
      exact hab (by omega)
    · intro x hx
      obtain ⟨i, hi, rfl⟩ := List.mem_map.1 hx
      obtain ⟨h1, h2⟩ := List.mem_filter.1 hi
      rw [he]
      exact Int.dvd_of_emod_eq_zero (hP i (List.mem_range.1 h1) h2)
  · right
    intro x
    rw [← he]
    have : ∀ c ∈ q, p ∣ c := fun c h => Classical.byContradiction fun hn => hc ⟨c, h, hn⟩
    apply Int.emod_eq_zero_of_dvd
    clear he hc hP
    induction q with
    | nil => exact Int.dvd_zero _
    | cons c q ih => exact Int.dvd_add (this c (by simp)) (Int.dvd_mul_of_dvd_right (ih fun d hd => this d (by simp [hd])))
end Go.Att
end
section
namespace Go.Att
open Go.RowKit
/-- A number's bytes. -/
def encU (u : Nat) : List Int := if u < 128 then [(u : Int)] else ((u % 128 + 128 : Nat) : Int) :: encU (u / 128)
termination_by u
decreasing_by omega
/-- What is read from bytes as one number, with s bits behind, u their number. -/
def rdU : Nat → Nat → List Int → Option (Nat × List Int)
  | _, _, [] => none
  | s, u, c :: t => if 63 < s then none else if (s = 63 ∧ 1 < c) ∨ (0 < s ∧ c = 0) then none
    else if c < 128 then some (u + c.toNat % 128 * 2 ^ s, t) else rdU (s + 7) (u + c.toNat % 128 * 2 ^ s) t
def BytesIn (b : List Int) : Prop := ∀ c ∈ b, 0 ≤ c ∧ c < 256
theorem rdU_back : ∀ (b : List Int) (k u v : Nat) (t : List Int), BytesIn b → rdU (7 * k) u b = some (v, t) → ∃ q, v = u + q * 2 ^ (7 * k) ∧ b = encU q ++ t ∧ (0 < k → q ≠ 0) ∧ (q + 1) * 2 ^ (7 * k) ≤ 2 ^ 64
  | [], k, u, v, t, _, h => by simp [rdU] at h
  | c :: b, k, u, v, t, hb, h => by
    obtain ⟨c0, c1⟩ := hb c (by simp)
    rw [rdU] at h
    split at h
    · cases h
    · rename_i h63
      split at h
      · cases h
      · rename_i hno
        simp only [not_or, not_and] at hno
        split at h
        · rename_i hc
          simp only [Option.some.injEq, Prod.mk.injEq] at h
          obtain ⟨rfl, rfl⟩ := h
          have e : c.toNat % 128 = c.toNat := Nat.mod_eq_of_lt (by omega)
          refine ⟨c.toNat, by rw [e], ?_, ?_, ?_⟩
          · rw [encU, if_pos (by omega), Int.toNat_of_nonneg c0]; rfl
          · intro hk hq; exact hno.2 (by omega) (by omega)
          · by_cases h9 : 7 * k = 63
            · have h10 := hno.1 h9
              rw [h9]
              have : c.toNat + 1 ≤ 2 := by omega
              calc (c.toNat + 1) * 2 ^ 63 ≤ 2 * 2 ^ 63 := Nat.mul_le_mul_right _ this
                _ = 2 ^ 64 := by decide
            · have h11 : (2 : Nat) ^ (7 * k) ≤ 2 ^ 56 := Nat.pow_le_pow_right (by decide) (by omega)
              calc (c.toNat + 1) * 2 ^ (7 * k) ≤ 128 * 2 ^ 56 := Nat.mul_le_mul (by omega) h11
                _ ≤ 2 ^ 64 := by decide
        · rename_i hc
          have h' : rdU (7 * (k + 1)) (u + c.toNat % 128 * 2 ^ (7 * k)) b = some (v, t) := by rw [Nat.mul_succ]; exact h
          obtain ⟨q, e1, e2, e3, e4⟩ := rdU_back b (k + 1) _ v t (fun x hx => hb x (by simp [hx])) h'
          have hq := e3 (by omega)
          have e7 : (2 : Nat) ^ (7 * (k + 1)) = 128 * 2 ^ (7 * k) := by rw [Nat.mul_succ, Nat.pow_add]; omega
          rw [e7] at e1 e4
          refine ⟨c.toNat % 128 + 128 * q, ?_, ?_, fun _ => by omega, ?_⟩
          · rw [e1, Nat.add_mul, Nat.add_assoc]; congr 2; rw [Nat.mul_assoc, Nat.mul_comm q, Nat.mul_comm q, Nat.mul_assoc]
          · rw [encU, if_neg (by omega), e2]
            have h1 : (c.toNat % 128 + 128 * q) % 128 + 128 = c.toNat := by omega
            have h2 : (c.toNat % 128 + 128 * q) / 128 = q := by omega
            rw [h1, h2, Int.toNat_of_nonneg c0]; rfl
          · refine Nat.le_trans (Nat.mul_le_mul_right _ (show c.toNat % 128 + 128 * q + 1 ≤ (q + 1) * 128 by omega)) ?_
            rw [Nat.mul_assoc]; exact e4
theorem rdU_forth : ∀ (q k u : Nat) (t : List Int), k ≤ 9 → q < 2 ^ (64 - 7 * k) → (0 < k → q ≠ 0) → rdU (7 * k) u (encU q ++ t) = some (u + q * 2 ^ (7 * k), t) := by
  intro q
  induction q using Nat.strongRecOn with
  | _ q ih =>
    intro k u t h9 h hz
    rw [encU]
    by_cases hq : q < 128
    · rw [if_pos hq, List.singleton_append, rdU, if_neg (by omega), if_neg, if_pos (by omega)]
      · rw [Int.toNat_natCast, Nat.mod_eq_of_lt hq]
      · rintro (⟨h1, h2⟩ | ⟨h1, h2⟩)
        · rw [h1] at h; simp at h; omega
        · exact hz (by omega) (by omega)
    · have h8 : k ≤ 8 := by
        apply Classical.byContradiction
        intro hc
        obtain rfl : k = 9 := by omega
        simp at h; omega
      have e8 : (2 : Nat) ^ (64 - 7 * k) = 128 * 2 ^ (64 - 7 * (k + 1)) := by
        rw [show 64 - 7 * k = 7 + (64 - 7 * (k + 1)) by omega, Nat.pow_add]
      rw [if_neg hq, List.cons_append, rdU, if_neg (by omega), if_neg, if_neg (by omega)]
      · rw [Int.toNat_natCast, show (q % 128 + 128) % 128 = q % 128 by omega, ← Nat.mul_succ]
        have e7 : (2 : Nat) ^ (7 * (k + 1)) = 128 * 2 ^ (7 * k) := by rw [Nat.mul_succ, Nat.pow_add]; omega
        rw [ih (q / 128) (by omega) (k + 1) _ t (by omega) (Nat.div_lt_of_lt_mul (by rw [← e8]; exact h)) (fun _ => by omega)]
        rw [e7, Nat.add_assoc, ← Nat.mul_assoc, ← Nat.add_mul]; congr 4; omega
      · rintro (⟨h1, h2⟩ | ⟨h1, h2⟩) <;> omega
theorem encU_pos (u : Nat) : 1 ≤ (encU u).length := by rw [encU]; split <;> simp
theorem encU_len : ∀ (n u : Nat), u < 128 ^ (n + 1) → (encU u).length ≤ n + 1
  | 0, u, h => by rw [encU, if_pos (by omega)]; simp
  | n + 1, u, h => by
    rw [encU]; split
    · simp
    · have := encU_len n (u / 128) (by rw [Nat.pow_succ] at h; exact Nat.div_lt_of_lt_mul (by rw [Nat.mul_comm]; exact h))
      simpa using this
theorem encU_ten (u : Nat) (h : u < 2 ^ 64) : (encU u).length ≤ 10 := encU_len 9 u (Nat.lt_of_lt_of_le h (by decide))
theorem encU_in (u : Nat) : BytesIn (encU u) := by
  induction u using Nat.strongRecOn with
  | _ u ih =>
    rw [encU]; split
    · intro c hc; simp at hc; omega
    · intro c hc
      simp only [List.mem_cons] at hc
      rcases hc with rfl | hc
      · omega
      · exact ih (u / 128) (by omega) c hc
/-- A number of 64 bits, as it is counted. -/
def u64 (x : Int) : Nat := (x % 18446744073709551616).toNat
theorem u64_lt (x : Int) : u64 x < 2 ^ 64 := by unfold u64; omega
def I64 (x : Int) : Prop := -9223372036854775808 ≤ x ∧ x ≤ 9223372036854775807
theorem i64_u64 {x : Int} (h : I64 x) : wrap64 (u64 x) = x := by unfold u64 wrap64 I64 at *; omega
theorem u64_i64 (u : Nat) (h : u < 2 ^ 64) : u64 (wrap64 u) = u := by unfold u64 wrap64 at *; omega
theorem i64_wrap (x : Int) : I64 (wrap64 x) := by unfold wrap64 I64; omega
/-- A number's bytes; a number that is read. -/
def encI (x : Int) : List Int := encU (u64 x)
def rdI (b : List Int) : Option (Int × List Int) := (rdU 0 0 b).map fun q => (wrap64 q.1, q.2)
theorem rdI_back {b t : List Int} {x : Int} (hb : BytesIn b) (h : rdI b = some (x, t)) : b = encI x ++ t ∧ I64 x := by
  unfold rdI at h
  rw [Option.map_eq_some_iff] at h
  obtain ⟨⟨v, t'⟩, h1, h2⟩ := h
  simp only [Prod.mk.injEq] at h2
  obtain ⟨rfl, rfl⟩ := h2
  obtain ⟨q, e1, e2, _, e4⟩ := rdU_back b 0 0 v t' hb h1
  have : v = q := by simpa using e1
  subst this
  refine ⟨?_, i64_wrap _⟩
  rw [encI, u64_i64 _ (by simp at e4; omega)]; exact e2
theorem rdI_forth {x : Int} (h : I64 x) (t : List Int) : rdI (encI x ++ t) = some (x, t) := by
  have h1 := u64_lt x
  have := rdU_forth (u64 x) 0 0 t (by omega) (by simp; omega) (fun h => absurd h (by omega))
  unfold rdI encI
  rw [show (7 * 0 : Nat) = 0 from rfl] at this
  rw [this]
  simp [i64_u64 h]

section
variable {α : Type}
/-- So many, one behind the other. -/
def rdN (one : List Int → Option (α × List Int)) : Nat → List Int → Option (List α × List Int)
  | 0, b => some ([], b)
  | n + 1, b => (one b).bind fun q => (rdN one n q.2).map fun p => (q.1 :: p.1, p.2)
def rdL (one : List Int → Option (α × List Int)) (b : List Int) : Option (List α × List Int) :=
  (rdI b).bind fun q => if q.1 < 0 ∨ (q.2.length : Int) < q.1 then none else rdN one q.1.toNat q.2
def encL (e : α → List Int) (l : List α) : List Int := encI l.length ++ l.flatMap e
theorem BytesIn.right {a b : List Int} (h : BytesIn (a ++ b)) : BytesIn b := fun c hc => h c (by simp [hc])
/-- What reads, if anything, is what it is written as. -/
def Back (one : List Int → Option (α × List Int)) (e : α → List Int) (V : α → Prop) : Prop := ∀ b x t, BytesIn b → one b = some (x, t) → b = e x ++ t ∧ V x
def Forth (one : List Int → Option (α × List Int)) (e : α → List Int) (V : α → Prop) : Prop := ∀ x t, V x → one (e x ++ t) = some (x, t)
theorem rdN_back {one : List Int → Option (α × List Int)} {e : α → List Int} {V : α → Prop} (h : Back one e V) : ∀ n b l t, BytesIn b → rdN one n b = some (l, t) → b = l.flatMap e ++ t ∧ l.length = n ∧ ∀ x ∈ l, V x
  | 0, b, l, t, _, hr => by simp [rdN] at hr; obtain ⟨rfl, rfl⟩ := hr; simp
  | n + 1, b, l, t, hb, hr => by
    simp only [rdN, Option.bind_eq_some_iff, Option.map_eq_some_iff, Prod.exists, Prod.mk.injEq] at hr
    obtain ⟨x, b', h1, l', t', h2, rfl, rfl⟩ := hr
    obtain ⟨rfl, hv⟩ := h b x b' hb h1
    obtain ⟨rfl, h3, h4⟩ := rdN_back h n b' l' t' hb.right h2
    refine ⟨by simp, by simp [h3], ?_⟩
    intro y hy
    simp only [List.mem_cons] at hy
    rcases hy with rfl | hy
    · exact hv
    · exact h4 y hy
theorem rdN_forth {one : List Int → Option (α × List Int)} {e : α → List Int} {V : α → Prop} (h : Forth one e V) : ∀ (l : List α) t, (∀ x ∈ l, V x) → rdN one l.length (l.flatMap e ++ t) = some (l, t)
  | [], t, _ => by simp [rdN]
  | x :: l, t, hv => by
    simp only [List.length_cons, rdN, List.flatMap_cons, List.append_assoc]
    rw [h x _ (hv x (by simp)), Option.bind_some, rdN_forth h l t (fun y hy => hv y (by simp [hy]))]
    rfl
theorem u64_nat (n : Nat) (h : n < 2 ^ 64) : u64 n = n := by unfold u64; omega
theorem encI_pos (x : Int) : 1 ≤ (encI x).length := encU_pos _
theorem rdL_back {one : List Int → Option (α × List Int)} {e : α → List Int} {V : α → Prop} (h : Back one e V) : Back (rdL one) (encL e) (fun l => (l.length : Int) ≤ 9223372036854775807 ∧ ∀ x ∈ l, V x) := by
  intro b l t hb hr
  simp only [rdL, Option.bind_eq_some_iff, Prod.exists] at hr
  obtain ⟨n, b', h1, h2⟩ := hr
  obtain ⟨rfl, hi⟩ := rdI_back hb h1
  split at h2
  · cases h2
  · rename_i hc
    obtain ⟨rfl, h3, h4⟩ := rdN_back h _ _ _ _ hb.right h2
    have : (l.length : Int) = n := by omega
    refine ⟨by rw [encL, this, List.append_assoc], by unfold I64 at hi; omega, h4⟩
theorem flat_len {e : α → List Int} {V : α → Prop} (he : ∀ x, V x → 1 ≤ (e x).length) : ∀ l : List α, (∀ x ∈ l, V x) → l.length ≤ (l.flatMap e).length
  | [], _ => by simp
  | x :: l, hv => by
    have h1 := he x (hv x (by simp))
    have h2 := flat_len he l (fun y hy => hv y (by simp [hy]))
    simp only [List.length_cons, List.flatMap_cons, List.length_append]; omega
theorem rdL_forth {one : List Int → Option (α × List Int)} {e : α → List Int} {V : α → Prop} (h : Forth one e V) (he : ∀ x, V x → 1 ≤ (e x).length) : Forth (rdL one) (encL e) (fun l => (l.length : Int) ≤ 9223372036854775807 ∧ ∀ x ∈ l, V x) := by
  intro l t hv
  unfold rdL encL
  rw [List.append_assoc, rdI_forth (by unfold I64; omega), Option.bind_some]
  have h1 := flat_len he l hv.2
  dsimp only
  rw [if_neg (by rw [List.length_append]; omega), Int.toNat_natCast]
  exact rdN_forth h l t hv.2
end
abbrev Opn := List Int × List (List Int) × List (List Int)
def encIs : List Int → List Int := encL encI
def encRs : List (List Int) → List Int := encL encIs
def encO (o : Opn) : List Int := encIs o.1 ++ encRs o.2.1 ++ encRs o.2.2
def rdIs : List Int → Option (List Int × List Int) := rdL rdI
def rdRs : List Int → Option (List (List Int) × List Int) := rdL rdIs
def rdO (b : List Int) : Option (Opn × List Int) := (rdIs b).bind fun p => (rdRs p.2).bind fun q => (rdRs q.2).map fun r => ((p.1, q.1, r.1), r.2)
def IsV (l : List Int) : Prop := (l.length : Int) ≤ 9223372036854775807 ∧ ∀ x ∈ l, I64 x
def RsV (l : List (List Int)) : Prop := (l.length : Int) ≤ 9223372036854775807 ∧ ∀ x ∈ l, IsV x
def OpV (o : Opn) : Prop := IsV o.1 ∧ RsV o.2.1 ∧ RsV o.2.2
theorem rdIs_back : Back rdIs encIs IsV := rdL_back fun _ _ _ hb h => rdI_back hb h
theorem rdRs_back : Back rdRs encRs RsV := rdL_back rdIs_back
theorem rdIs_forth : Forth rdIs encIs IsV := rdL_forth (fun _ t h => rdI_forth h t) (fun x _ => encI_pos x)
theorem encL_pos {α : Type} (e : α → List Int) (l : List α) : 1 ≤ (encL e l).length := by unfold encL; have := encI_pos l.length; rw [List.length_append]; omega
theorem rdRs_forth : Forth rdRs encRs RsV := rdL_forth rdIs_forth (fun l _ => encL_pos _ l)
theorem rdO_back : Back rdO encO OpV := by
  intro b o t hb h
  simp only [rdO, Option.bind_eq_some_iff, Option.map_eq_some_iff, Prod.exists, Prod.mk.injEq] at h
  obtain ⟨l, b1, h1, r, b2, h2, s, b3, h3, rfl, rfl⟩ := h
  obtain ⟨rfl, v1⟩ := rdIs_back _ _ _ hb h1
  obtain ⟨rfl, v2⟩ := rdRs_back _ _ _ hb.right h2
  obtain ⟨rfl, v3⟩ := rdRs_back _ _ _ hb.right.right h3
  exact ⟨by simp [encO], v1, v2, v3⟩
theorem rdO_forth : Forth rdO encO OpV := by
  intro o t ⟨v1, v2, v3⟩
  unfold rdO encO
  rw [List.append_assoc, List.append_assoc, rdIs_forth _ _ v1, Option.bind_some]
  dsimp only
  rw [rdRs_forth _ _ v2, Option.bind_some]
  dsimp only
  rw [rdRs_forth _ _ v3]; rfl
theorem encO_pos (o : Opn) : 1 ≤ (encO o).length := by unfold encO encIs; have := encL_pos encI o.1; rw [List.length_append, List.length_append]; omega
def encOs : List Opn → List Int := encL encO
def rdOs : List Int → Option (List Opn × List Int) := rdL rdO
def OsV (l : List Opn) : Prop := (l.length : Int) ≤ 9223372036854775807 ∧ ∀ x ∈ l, OpV x
theorem rdOs_back : Back rdOs encOs OsV := rdL_back rdO_back
theorem rdOs_forth : Forth rdOs encOs OsV := rdL_forth rdO_forth (fun o _ => encO_pos o)
structure Vch where
  main : List Int
  aux : List Int
  tries : Int
  roots : List (List Int)
  last : List Int
  opens : List Opn
  rows : Opn
  fin : Opn
def encV (v : Vch) : List Int := encIs v.main ++ encIs v.aux ++ encI v.tries ++ encRs v.roots ++ encIs v.last ++ encOs v.opens ++ encO v.rows ++ encO v.fin
def rdV (b : List Int) : Option (Vch × List Int) :=
  (rdIs b).bind fun a => (rdIs a.2).bind fun c => (rdI c.2).bind fun d => (rdRs d.2).bind fun e => (rdIs e.2).bind fun f => (rdOs f.2).bind fun g => (rdO g.2).bind fun h => (rdO h.2).map fun i =>
    (⟨a.1, c.1, d.1, e.1, f.1, g.1, h.1, i.1⟩, i.2)
def VcV (v : Vch) : Prop := IsV v.main ∧ IsV v.aux ∧ I64 v.tries ∧ RsV v.roots ∧ IsV v.last ∧ OsV v.opens ∧ OpV v.rows ∧ OpV v.fin
theorem rdV_back : Back rdV encV VcV := by
  intro b v t hb h
  simp only [rdV, Option.bind_eq_some_iff, Option.map_eq_some_iff, Prod.exists, Prod.mk.injEq] at h
  obtain ⟨l1, b1, h1, l2, b2, h2, l3, b3, h3, l4, b4, h4, l5, b5, h5, l6, b6, h6, o1, o2, o3, b7, h7, o4, o5, o6, b8, h8, rfl, rfl⟩ := h
  obtain ⟨rfl, v1⟩ := rdIs_back _ _ _ hb h1
  replace hb := hb.right
  obtain ⟨rfl, v2⟩ := rdIs_back _ _ _ hb h2
  replace hb := hb.right
  obtain ⟨rfl, v3⟩ := rdI_back hb h3
  replace hb := hb.right
  obtain ⟨rfl, v4⟩ := rdRs_back _ _ _ hb h4
  replace hb := hb.right
  obtain ⟨rfl, v5⟩ := rdIs_back _ _ _ hb h5
  replace hb := hb.right
  obtain ⟨rfl, v6⟩ := rdOs_back _ _ _ hb h6
  replace hb := hb.right
  obtain ⟨rfl, v7⟩ := rdO_back _ _ _ hb h7
  obtain ⟨rfl, v8⟩ := rdO_back _ _ _ hb.right h8
  exact ⟨by simp [encV], v1, v2, v3, v4, v5, v6, v7, v8⟩
theorem rdV_forth : Forth rdV encV VcV := by
  intro v t ⟨v1, v2, v3, v4, v5, v6, v7, v8⟩
  unfold rdV encV
  simp only [List.append_assoc]
  rw [rdIs_forth _ _ v1, Option.bind_some]; dsimp only
  rw [rdIs_forth _ _ v2, Option.bind_some]; dsimp only
  rw [rdI_forth v3, Option.bind_some]; dsimp only
  rw [rdRs_forth _ _ v4, Option.bind_some]; dsimp only
  rw [rdIs_forth _ _ v5, Option.bind_some]; dsimp only
  rw [rdOs_forth _ _ v6, Option.bind_some]; dsimp only
  rw [rdO_forth _ _ v7, Option.bind_some]; dsimp only
  rw [rdO_forth _ _ v8]; rfl
end Go.Att
end
section
namespace Go.Att
open Go.RowKit
/-- A slice of bytes that reads as l. -/
def Byts (w : World) (v : Value) (l : List Int) : Prop := Sl w 1 v l.length (l.map (Value.int .u8))
/-- Bytes of the call's own. -/
abbrev OwnB (w0 w : World) (e : TypeId) (v : Value) (l : List Int) : Prop := w.ownsRow w0.heap.size e 1 v l.length (l.map (Value.int .u8))
theorem or128 : ∀ m : Fin 256, bits .or .u8 ((m.val : Nat) : Int) 128 = ((m.val % 128 + 128 : Nat) : Int) := by decide +kernel
theorem or_byte (q : Nat) : bits .or .u8 ((q : Int) % 256) 128 = ((q % 128 + 128 : Nat) : Int) := by
  have := or128 ⟨q % 256, Nat.mod_lt _ (by decide)⟩
  simp only at this
  rw [show ((q : Int) % 256) = ((q % 256 : Nat) : Int) by omega, this, show q % 256 % 128 = q % 128 by omega]
theorem own_snoc {w0 w : World} {e : TypeId} {v : Value} {l : List Int} {c : Int} (h : w.ownsRow w0.heap.size e 1 v (l.length + 1) (l.map (Value.int .u8) ++ [Value.int .u8 c])) : OwnB w0 w e v (l ++ [c]) := by
  unfold OwnB; simpa using h
/-- From w, bytes v of its own (all behind w0), the call made the bytes l; but for v's block all is as it was. -/
def Wrote (w0 w : World) (e : TypeId) (v : Value) (l : List Int) (en : Ending) (w' : World) : Prop := ∃ v', en = .returned v' ∧ Ext w0 w' ∧ OwnB w0 w' e v' l ∧ w.grownBy w' v.ownBlock ∧ Moved w v v'
theorem Wrote.mk' {w0 w w' : World} {e : TypeId} {v v' : Value} {l l' : List Int} {en : Ending} (h1 : en = .returned v') (h2 : Ext w0 w) (h0 : OwnB w0 w e v l') (h3 : OwnB w0 w' e v' l) (h4 : w.grownBy w' v.ownBlock) (h5 : Moved w v v') : Wrote w0 w e v l en w' := ⟨v', h1, Ext.own_grown h2 h0 h4, h3, h4, h5⟩
end Go.Att
namespace Go.Proofs.Ytainhfnanamobaa
open Go.RowKit Go.Att
theorem slIntY : SlT Try.prog 46 3 1 8 (.int .i64 0) := .mk' Try.underlying46 (by kernel_rfl) (by decide)
theorem slRowY : SlT Try.prog 28 46 1 24 (.slice none 0 0) := .mk' Try.underlying28 (by kernel_rfl) (by decide)
end Go.Proofs.Ytainhfnanamobaa
end
section
namespace Go.Att
open Go.RowKit
/-- The pairs of a row that begin at two places, as elements. -/
def prsR (p : Int) (r : List Int) (a v : Nat) : List (Int × Int) := (List.range 4).map fun j => (fof p (nth r (a + j)), fof p (nth r (v + j)))
def prsL (p : Int) (L : List (List Int)) (a v : Nat) : List (Int × Int) := L.flatMap fun r => prsR p r a v
def shortB (L : List (List Int)) : Bool := L.any fun r => decide (r.length < 20)
noncomputable def alikeB (p : Int) (L : List (List Int)) : Bool := !shortB L && permB (prsL p L 3 7) (prsL p L 12 16)
theorem prsR_length (p : Int) (r : List Int) (a v : Nat) : (prsR p r a v).length = 4 := by simp [prsR]
theorem prsR_take {p : Int} {r : List Int} {a v j : Nat} (h : j < 4) : (prsR p r a v).take (j + 1) = (prsR p r a v).take j ++ [(fof p (nth r (a + j)), fof p (nth r (v + j)))] := by
  rw [List.take_succ_eq_append_getElem (by rw [prsR_length]; exact h)]
  congr 1
  simp [prsR]
theorem prsL_take {p : Int} {L : List (List Int)} {a v i : Nat} (h : i < L.length) : prsL p (L.take (i + 1)) a v = prsL p (L.take i) a v ++ prsR p (nthL L i) a v := by
  unfold prsL
  rw [List.take_succ_eq_append_getElem h, List.flatMap_append, nthL_eq h]
  simp
theorem prsL_length (p : Int) (L : List (List Int)) (a v : Nat) : (prsL p L a v).length = 4 * L.length := by
  induction L with
  | nil => rfl
  | cons r L ih =>
    have : prsL p (r :: L) a v = prsR p r a v ++ prsL p L a v := rfl
    rw [this, List.length_append, ih, prsR_length, List.length_cons]; omega
theorem short_no {L : List (List Int)} (h : shortB L = false) {i : Nat} (hi : i < L.length) : 20 ≤ (nthL L i).length := by
  unfold shortB at h
  rw [List.any_eq_false] at h
  have := h (nthL L i) (by rw [nthL_eq hi]; exact List.getElem_mem hi)
  simp at this; omega
theorem short_yes {L : List (List Int)} {i : Nat} (hi : i < L.length) (h : (nthL L i).length < 20) : shortB L = true := by
  unfold shortB
  rw [List.any_eq_true]
  exact ⟨nthL L i, by rw [nthL_eq hi]; exact List.getElem_mem hi, by simpa using h⟩
theorem short_all {L : List (List Int)} (h : ∀ i, i < L.length → 20 ≤ (nthL L i).length) : shortB L = false := by
  unfold shortB
  rw [List.any_eq_false]
  intro r hr
  obtain ⟨i, hi, rfl⟩ := List.getElem_of_mem hr
  have := h i hi
  rw [nthL_eq hi] at this
  simp; omega
/-- The products over a row's pairs, in both orders. -/
def facA (p x y : Int) (r : List Int) : Int := fprod p y x (prsR p r 3 7)
def facB (p x y : Int) (r : List Int) : Int := fprod p y x (prsR p r 12 16)
def zAt (p x y : Int) (L : List (List Int)) : Nat → Int
  | 0 => 1
  | i + 1 => fmul p (zAt p x y L i) (fdiv p (facA p x y (nthL L i)) (facB p x y (nthL L i)))
def zsL (p x y : Int) (L : List (List Int)) : List Int := (List.range L.length).map (zAt p x y L)
/-- Is there a last column? -/
def prodB (p x y : Int) (L : List (List Int)) : Bool := !L.isEmpty && !shortB L && L.all fun r => facA p x y r != 0 && facB p x y r != 0
theorem zsL_take {p x y : Int} {L : List (List Int)} {i : Nat} (h : i < L.length) : (zsL p x y L).take (i + 1) = (zsL p x y L).take i ++ [zAt p x y L i] := by
  rw [List.take_succ_eq_append_getElem (by simp [zsL]; exact h)]
  simp [zsL]
theorem zsL_length (p x y : Int) (L : List (List Int)) : (zsL p x y L).length = L.length := by simp [zsL]
theorem prod_empty {p x y : Int} {L : List (List Int)} (h : L.length = 0) : prodB p x y L = false := by
  have : L = [] := List.eq_nil_of_length_eq_zero h
  subst this; rfl
theorem prod_short {p x y : Int} {L : List (List Int)} (h : shortB L = true) : prodB p x y L = false := by unfold prodB; rw [h]; simp
theorem prod_zero {p x y : Int} {L : List (List Int)} {i : Nat} (hi : i < L.length) (h : facA p x y (nthL L i) = 0 ∨ facB p x y (nthL L i) = 0) : prodB p x y L = false := by
  unfold prodB
  have : (L.all fun r => facA p x y r != 0 && facB p x y r != 0) = false := by
    rw [List.all_eq_false]
    refine ⟨nthL L i, by rw [nthL_eq hi]; exact List.getElem_mem hi, ?_⟩
    rcases h with h | h <;> simp [h]
  rw [this]; simp
theorem prod_all {p x y : Int} {L : List (List Int)} (h0 : 0 < L.length) (hs : shortB L = false) (h : ∀ i, i < L.length → facA p x y (nthL L i) ≠ 0 ∧ facB p x y (nthL L i) ≠ 0) : prodB p x y L = true := by
  unfold prodB
  have h1 : L.isEmpty = false := by cases L <;> simp at *
  have : (L.all fun r => facA p x y r != 0 && facB p x y r != 0) = true := by
    rw [List.all_eq_true]
    intro r hr
    obtain ⟨i, hi, rfl⟩ := List.getElem_of_mem hr
    have := h i hi
    rw [nthL_eq hi] at this
    simp [this]
  rw [h1, hs, this]; rfl
/-- What is told of a last column. -/
def ColGot (p x y : Int) (L : List (List Int)) (v : Value) (w' : World) : Prop := ∃ u, v = .tuple #[u, .bool (prodB p x y L)] ∧ Ints w' u (if prodB p x y L = true then zsL p x y L else [])
theorem col_no {p x y : Int} {L : List (List Int)} {w' : World} (h : prodB p x y L = false) : ColGot p x y L (.tuple #[.slice none 0 0, .bool false]) w' := ⟨_, by rw [h], by rw [h]; exact Ints.nil _⟩
theorem col_yes {p x y : Int} {L : List (List Int)} {u : Value} {w' : World} (h : prodB p x y L = true) (hu : Ints w' u (zsL p x y L)) : ColGot p x y L (.tuple #[u, .bool true]) w' := ⟨u, by rw [h], by rw [h]; exact hu⟩
/-- One row, cut out. -/
theorem one_row {P : Program} {w : World} {v : Value} {L : List (List Int)} {R : Nat → Value} (h : RwsAt w v L R) {t e bytes : Nat} {z : Value} (ht : SlT P t e 1 bytes z) {i : Nat} (hi : i < L.length) :
    ∃ u, (∀ w', (Instr.sliceAt t v (some (.int .i64 i)) (some (.int .i64 ((i : Int) + 1))) none).run P w' = .ok u w') ∧ RwsAt w u [nthL L i] (fun _ => R i) := by
  obtain ⟨ao, cap, rfl, h2, h3, h4, h5⟩ := h.sl
  have hl1 : ((List.range L.length).map R).length = L.length := by simp
  obtain ⟨b, off, rfl, -⟩ := h5 0 (by rw [hl1]; omega)
  have hu : P.underlying t = some (.slice (P.elem t)) := by rw [ht.und, elem_of ht.und]
  refine ⟨.slice (some ⟨b, off + i, none⟩) 1 (cap - i), fun w' => ?_, ⟨⟨some ⟨b, off + i, none⟩, cap - i, rfl, by simp, by simp; omega, by omega, fun k hk => ?_⟩, fun k hk => ?_⟩⟩
  · rw [run_sliceAt_slice (h := hu), run_slice_lh (ht := hu) (h0 := by omega) (h1 := by omega) (h2 := by omega), elem_of ht.und, ht.run_size]
    have hne : ¬ cap = i := by omega
    have e1 : ((i : Int) + 1).toNat - i = 1 := by omega
    simp [Result.andThen, sliced, hne, Addr.add_lit]
  · simp at hk
    subst hk
    obtain ⟨b', off', e, hc⟩ := h5 i (by rw [hl1]; exact hi)
    simp only [Option.some.injEq, Addr.mk.injEq] at e
    obtain ⟨rfl, rfl, -⟩ := e
    exact ⟨b, off + i, rfl, by rw [Nat.add_zero, hc]; simp⟩
  · simp at hk
    subst hk
    exact h.row i hi
theorem prsL_one (p : Int) (r : List Int) (a v : Nat) : prsL p [r] a v = prsR p r a v := by simp [prsL]
end Go.Att
namespace Go.Proofs.Ytainhfnanamobaa
open Go.RowKit Go.Att
theorem slRowsA : SlT Try.prog 28 46 1 24 (.slice none 0 0) := .mk' Try.underlying28 (by kernel_rfl) (by decide)
end Go.Proofs.Ytainhfnanamobaa
end
section
namespace Go.Att
theorem nthP_mem {l : List (Int × Int)} {j : Nat} (h : j < l.length) : nthP l j ∈ l := by rw [nthP_eq h]; exact List.getElem_mem h
theorem mem_nthP {l : List (Int × Int)} {c : Int × Int} (h : c ∈ l) : ∃ j, j < l.length ∧ nthP l j = c := by
  obtain ⟨j, hj, rfl⟩ := List.getElem_of_mem h
  exact ⟨j, hj, nthP_eq hj⟩
/-- Pairs that tell each place once, with no gaps. -/
structure PrsOk (X : List (Int × Int)) (val : Int → Int) (top : Int) : Prop where
  is_ : ∀ c ∈ X, c.2 = val c.1
  bd : ∀ c ∈ X, 0 ≤ c.1 ∧ c.1 ≤ top
  all : ∀ a, 0 ≤ a → a ≤ top → ∃ c ∈ X, c.1 = a
  zero : val 0 = 0
  top0 : 0 ≤ top
section
variable {X : List (Int × Int)} {val : Int → Int} {top : Int}
theorem sortP_len (X : List (Int × Int)) : (sortP X).length = X.length := (sortP_perm X).length_eq
theorem order_first (h : PrsOk X val top) : nthP (sortP X) 0 = (0, 0) := by
  obtain ⟨c, hc, hc0⟩ := h.all 0 (Int.le_refl _) h.top0
  obtain ⟨k, hk, hkc⟩ := mem_nthP ((sortP_perm X).mem_iff.2 hc)
  have h0 : 0 < (sortP X).length := by omega
  have hm : nthP (sortP X) 0 ∈ X := (sortP_perm X).mem_iff.1 (nthP_mem h0)
  have h1 : (nthP (sortP X) 0).1 = 0 := by
    have hb := h.bd _ hm
    by_cases e : k = 0
    · subst e; rw [hkc]; exact hc0
    · have := sortP_ord X 0 k (by omega) hk
      rw [hkc] at this
      unfold ltP at this
      omega
  have h2 := h.is_ _ hm
  rw [h1, h.zero] at h2
  exact Prod.ext h1 h2
theorem order_next (h : PrsOk X val top) {j : Nat} (hj : j + 1 < X.length) : nthP (sortP X) (j + 1) = nthP (sortP X) j ∨ (nthP (sortP X) (j + 1)).1 = (nthP (sortP X) j).1 + 1 := by
  have hl := sortP_len X
  have hb : nthP (sortP X) j ∈ X := (sortP_perm X).mem_iff.1 (nthP_mem (by omega))
  have hc : nthP (sortP X) (j + 1) ∈ X := (sortP_perm X).mem_iff.1 (nthP_mem (by omega))
  have ho := sortP_ord X j (j + 1) (by omega) (by omega)
  have vb := h.is_ _ hb
  have vc := h.is_ _ hc
  have bb := h.bd _ hb
  have bc := h.bd _ hc
  by_cases e : (nthP (sortP X) (j + 1)).1 = (nthP (sortP X) j).1
  · refine .inl (Prod.ext e ?_)
    rw [vb, vc, e]
  · by_cases e1 : (nthP (sortP X) (j + 1)).1 = (nthP (sortP X) j).1 + 1
    · exact .inr e1
    · exfalso
      have hlt : (nthP (sortP X) j).1 + 1 < (nthP (sortP X) (j + 1)).1 := by unfold ltP at ho; omega
      obtain ⟨d, hd, hd1⟩ := h.all ((nthP (sortP X) j).1 + 1) (by omega) (by omega)
      obtain ⟨k, hk, hkd⟩ := mem_nthP ((sortP_perm X).mem_iff.2 hd)
      by_cases e2 : k ≤ j
      · by_cases e3 : k = j
        · subst e3; rw [hkd] at hd1; omega
        · have := sortP_ord X k j (by omega) (by omega)
          rw [hkd] at this
          unfold ltP at this
          omega
      · by_cases e3 : k = j + 1
        · subst e3; rw [hkd] at hlt; omega
        · have := sortP_ord X (j + 1) k (by omega) hk
          rw [hkd] at this
          unfold ltP at this
          omega
end
theorem mem_holes {xs : List Int} {g : Nat} {a : Int} : a ∈ holesUp xs g ↔ 0 ≤ a ∧ a < g ∧ a ∉ xs := by
  unfold holesUp
  rw [List.mem_map]
  constructor
  · rintro ⟨k, hk, rfl⟩
    rw [List.mem_filter, List.mem_range] at hk
    simp only [decide_eq_true_eq] at hk
    exact ⟨by simp, by simpa using hk.1, hk.2⟩
  · rintro ⟨h0, h1, h2⟩
    obtain ⟨k, rfl⟩ := Int.eq_ofNat_of_zero_le h0
    refine ⟨k, ?_, rfl⟩
    rw [List.mem_filter, List.mem_range]
    simp only [decide_eq_true_eq]
    exact ⟨by simpa using h1, h2⟩
theorem mem_ats {l : List Stp} {a : Int} : a ∈ atsAll l ↔ ∃ t ∈ l, ∃ j, j < 3 ∧ a = accA t.acc j := by
  unfold atsAll
  rw [List.mem_flatMap]
  constructor
  · rintro ⟨t, ht, h⟩
    unfold atsOf at h
    simp only [List.mem_cons, List.not_mem_nil, or_false] at h
    rcases h with rfl | rfl | rfl
    · exact ⟨t, ht, 0, by omega, rfl⟩
    · exact ⟨t, ht, 1, by omega, rfl⟩
    · exact ⟨t, ht, 2, by omega, rfl⟩
  · rintro ⟨t, ht, j, hj, rfl⟩
    refine ⟨t, ht, ?_⟩
    have h3 : j = 0 ∨ j = 1 ∨ j = 2 := by omega
    rcases h3 with rfl | rfl | rfl <;> simp [atsOf]
theorem mem_prsT {l : List Stp} {ms : List Int} {n : Nat} {c : Int × Int} : c ∈ prsT l ms n ↔ ∃ i, i < n ∧ ((∃ j, j < 3 ∧ c = (accA (stpAt l i).acc j, accI (stpAt l i).acc j)) ∨ c = (nth ms i, 0)) := by
  unfold prsT
  rw [List.mem_flatMap]
  constructor
  · rintro ⟨i, hi, h⟩
    refine ⟨i, List.mem_range.1 hi, ?_⟩
    unfold prs4 at h
    simp only [List.mem_cons, List.not_mem_nil, or_false] at h
    rcases h with rfl | rfl | rfl | rfl
    · exact .inl ⟨0, by omega, rfl⟩
    · exact .inl ⟨1, by omega, rfl⟩
    · exact .inl ⟨2, by omega, rfl⟩
    · exact .inr rfl
  · rintro ⟨i, hi, h⟩
    refine ⟨i, List.mem_range.2 hi, ?_⟩
    rcases h with ⟨j, hj, rfl⟩ | rfl
    · have h3 : j = 0 ∨ j = 1 ∨ j = 2 := by omega
      rcases h3 with rfl | rfl | rfl <;> simp [prs4]
    · simp [prs4]
theorem top_in {xs : List Int} (h : xs ≠ []) (h0 : ∀ x ∈ xs, 0 ≤ x) : topL xs ∈ xs := by
  have key : ∀ (xs : List Int) (m : Int), xs.foldl (fun x y => if y > x then y else x) m = m ∨ xs.foldl (fun x y => if y > x then y else x) m ∈ xs := by
    intro xs
    induction xs with
    | nil => intro m; exact .inl rfl
    | cons a xs ih =>
      intro m
      rw [List.foldl_cons]
      rcases ih (if a > m then a else m) with h | h
      · rw [h]
        split
        · exact .inr (by simp)
        · exact .inl rfl
      · exact .inr (by simp [h])
  rcases key xs 0 with h1 | h1
  · obtain ⟨a, ha⟩ := List.exists_mem_of_ne_nil xs h
    have h2 := topL_ge a ha
    have h3 := h0 a ha
    have h4 : topL xs = 0 := h1
    have : topL xs = a := by omega
    rw [this]; exact ha
  · exact h1
theorem prs_ok {p sz lim : Int} {cd : List In4} {l : List Stp} {out : Int} {mem : List (Int × Int)} {n : Nat} (hp : 2 ≤ p) (h : walkM p sz cd lim = .done l out mem) (hln : l.length ≤ n) (hmn : (missL l).length ≤ n) :
    ∃ val, PrsOk (prsT l (missL l) n) val (topL (atsAll l)) ∧ topL (atsAll l) < p := by
  have hok := walkM_ok hp h
  obtain ⟨ht, h0⟩ := walkM_told hp h
  have hpos : ∀ a ∈ atsAll l, 0 ≤ a := fun a ha => by
    obtain ⟨t, hm, j, _, rfl⟩ := mem_ats.1 ha
    exact (hok.at_ t hm j).1
  have hlt : ∀ a ∈ atsAll l, a ≤ p - 1 := fun a ha => by
    obtain ⟨t, hm, j, _, rfl⟩ := mem_ats.1 ha
    have := (hok.at_ t hm j).2
    omega
  have hbd := topL_bd hlt (by omega)
  have hne : atsAll l ≠ [] := fun e => by
    have := mem_ats.2 ⟨_, stpAt_mem hok.ne 0, 0, by omega, rfl⟩
    rw [e] at this; cases this
  have hmiss : ∀ a, a ∈ missL l ↔ 0 ≤ a ∧ a < topL (atsAll l) ∧ a ∉ atsAll l := fun a => by
    unfold missL
    rw [mem_holes, Int.toNat_of_nonneg hbd.1]
  refine ⟨fun a => if a ∈ missL l then 0 else (lk mem a).getD 0, ⟨fun c hc => ?_, fun c hc => ?_, fun a ha hat => ?_, ?_, hbd.1⟩, by omega⟩
  · obtain ⟨i, hi, ⟨j, hj, rfl⟩ | rfl⟩ := mem_prsT.1 hc
    · have hm := stpAt_mem hok.ne i
      have hnot : accA (stpAt l i).acc j ∉ missL l := fun hh => ((hmiss _).1 hh).2.2 (mem_ats.2 ⟨_, hm, j, hj, rfl⟩)
      simp only
      rw [if_neg hnot, ht _ hm j]; rfl
    · simp only
      by_cases hil : i < (missL l).length
      · rw [if_pos (by rw [nth_eq hil]; exact List.getElem_mem hil)]
      · have e : nth (missL l) i = 0 := by unfold nth; rw [List.getD_eq_getElem?_getD, List.getElem?_eq_none (by omega)]; rfl
        rw [e]
        split
        · rfl
        · rw [h0]; rfl
  · obtain ⟨i, hi, ⟨j, hj, rfl⟩ | rfl⟩ := mem_prsT.1 hc
    · have hm := stpAt_mem hok.ne i
      exact ⟨(hok.at_ _ hm j).1, topL_ge _ (mem_ats.2 ⟨_, hm, j, hj, rfl⟩)⟩
    · simp only
      by_cases hil : i < (missL l).length
      · have := (hmiss (nth (missL l) i)).1 (by rw [nth_eq hil]; exact List.getElem_mem hil)
        omega
      · have e : nth (missL l) i = 0 := by unfold nth; rw [List.getD_eq_getElem?_getD, List.getElem?_eq_none (by omega)]; rfl
        rw [e]; exact ⟨Int.le_refl _, hbd.1⟩
  · by_cases hin : a ∈ atsAll l
    · obtain ⟨t, hm, j, hj, rfl⟩ := mem_ats.1 hin
      obtain ⟨i, hi, rfl⟩ := List.getElem_of_mem hm
      have e : stpAt l i = l[i] := by
        unfold stpAt
        rw [show min i (l.length - 1) = i by omega, List.getD_eq_getElem?_getD, List.getElem?_eq_getElem hi]; rfl
      exact ⟨_, mem_prsT.2 ⟨i, by omega, .inl ⟨j, hj, rfl⟩⟩, by simp only; rw [e]⟩
    · have hne2 : a ≠ topL (atsAll l) := fun e => hin (by rw [e]; exact top_in hne hpos)
      obtain ⟨i, hi, hia⟩ := List.getElem_of_mem ((hmiss a).2 ⟨ha, by omega, hin⟩)
      exact ⟨_, mem_prsT.2 ⟨i, by omega, .inr rfl⟩, by simp only; rw [nth_eq hi, hia]⟩
  · split
    · rfl
    · rw [h0]; rfl
theorem ord_zero {p : Int} (hp : 2 ≤ p) {b c : Int × Int} (h : c = b ∨ c.1 = b.1 + 1) : ordK p b.1 b.2 c.1 c.2 = [0, 0] := by
  unfold ordK
  rcases h with rfl | h
  · simp [fsub, fmul]
  · have e : fsub p c.1 b.1 = 1 := by unfold fsub; rw [h, show b.1 + 1 - b.1 = 1 by omega]; exact Int.emod_eq_of_lt (by omega) (by omega)
    rw [e]
    simp [fsub, fmul]
/-- A row with one mark. -/
theorem sum_hot {p : Int} (_hp : 2 ≤ p) {r : List Int} {cd : List In4} {q : Nat} (hr : ∀ k, k < cd.length → nth r (20 + k) = if k = q then 1 else 0) (g : Nat → In4 → Int) :
    ∀ m, m ≤ cd.length → sumK p r cd g m = if q < m then g q (nthI cd q) % p else 0 := by
  intro m
  induction m with
  | zero => intro _; rfl
  | succ m ih =>
    intro hm
    rw [sumK, ih (by omega), hr m (by omega)]
    by_cases e : m = q
    · subst e
      rw [if_pos rfl, if_neg (by omega), if_pos (by omega)]
      simp [fadd, fmul]
    · rw [if_neg e]
      by_cases e2 : q < m
      · rw [if_pos e2, if_pos (by omega)]
        simp [fadd, fmul]
      · rw [if_neg e2, if_neg (by omega)]
        simp [fadd, fmul]
theorem num_hot {p : Int} (_hp : 2 ≤ p) {r : List Int} {L q : Nat} (hr : ∀ k, k < L → nth r (20 + k) = if k = q then 1 else 0) :
    ∀ m, m ≤ L → numK p r m = if q < m then (q : Int) % p else 0 := by
  intro m
  induction m with
  | zero => intro _; rfl
  | succ m ih =>
    intro hm
    rw [numK, ih (by omega), hr m (by omega)]
    by_cases e : m = q
    · subst e
      rw [if_pos rfl, if_neg (by omega), if_pos (by omega)]
      simp [fadd, fmul]
    · rw [if_neg e]
      by_cases e2 : q < m
      · rw [if_pos e2, if_pos (by omega)]
        simp [fadd, fmul]
      · rw [if_neg e2, if_neg (by omega)]
        simp [fadd, fmul]
end Go.Att
end
section
namespace Go.Att
/-- The cells of a row that rules ask of a step. -/
structure RowF (r : List Int) (t : Stp) (h : Int) : Prop where
  f0 : nth r 0 = t.fp
  f1 : nth r 1 = t.ap
  f2 : nth r 2 = t.rv
  f7 : nth r 7 = accI t.acc 0
  f8 : nth r 8 = accI t.acc 1
  f9 : nth r 9 = accI t.acc 2
  f11 : nth r 11 = h
/-- What the rules ask of an instruction, of a row and of the next one's registers. -/
structure DidR (p : Int) (x : In4) (k : Nat) (r : List Int) (t : Stp) (q fp ap rv : Int) : Prop where
  cell : ∀ j, j < 3 → accA t.acc j = cellK p r j k x
  does : doesK p r k x % p = 0
  more : moreK p r k x % p = 0
  goes : goesK p r k x % p = q
  fp : fpK p r k x % p = fp
  ap : apK p r k x % p = ap
  rv : rvK r k x % p = rv
section
variable {p : Int}
theorem fsub_self (a : Int) : fsub p a a = 0 := by simp [fsub]
theorem fsub_mod_l (a : Int) : fsub p (a % p) a = 0 := by unfold fsub; rw [Int.sub_emod, Int.emod_emod, Int.sub_self]; simp
theorem mod_small {a : Int} (h : 0 ≤ a ∧ a < p) : a % p = a := Int.emod_eq_of_lt h.1 h.2
theorem not_dvd {a : Int} (h : 0 ≤ a ∧ a < p) (hn : a ≠ 0) : ¬ p ∣ a := fun hd => hn (by have := Int.emod_eq_zero_of_dvd hd; rwa [mod_small h] at this)
theorem finv_l (hp : Pr p) {a : Int} (h : ¬ p ∣ a) : fmul p (finv p a) a = 1 := finv_mul hp h
theorem finv_r (hp : Pr p) {a : Int} (h : ¬ p ∣ a) : fmul p a (finv p a) = 1 := by rw [fmul_comm]; exact finv_mul hp h
theorem div_back (hp : Pr p) {u v : Int} (hu : 0 ≤ u ∧ u < p) (h : ¬ p ∣ v) : fmul p (fdiv p u v) v = u := by
  unfold fmul fdiv
  rw [Int.mul_emod, Int.emod_emod, ← Int.mul_emod, Int.mul_assoc, Int.mul_emod, finv_mul hp h, Int.mul_one, Int.emod_emod, mod_small hu]
theorem fsub_bd2 (hp : 2 ≤ p) (a b : Int) : 0 ≤ fsub p a b ∧ fsub p a b < p := fsub_bd hp a b
theorem fsub_zero {u v : Int} (hu : 0 ≤ u ∧ u < p) (hv : 0 ≤ v ∧ v < p) (h : fsub p u v = 0) : u = v := by
  unfold fsub at h
  have hd := Int.dvd_of_emod_eq_zero h
  obtain ⟨c, hc⟩ := hd
  rcases Int.lt_trichotomy c 0 with h1 | h1 | h1
  · have : p * c ≤ p * (-1) := Int.mul_le_mul_of_nonneg_left (by omega) (by omega)
    omega
  · subst h1; simp at hc; omega
  · have : p * 1 ≤ p * c := Int.mul_le_mul_of_nonneg_left (by omega) (by omega)
    omega
theorem finv_zero (hp3 : 3 ≤ p) : finv p 0 = 0 := by
  unfold finv
  rw [Int.zero_pow (by omega)]; simp
theorem one_mod3 (hp3 : 3 ≤ p) : (1 : Int) % p = 1 := Int.emod_eq_of_lt (by omega) (by omega)
theorem fmul_zero_l (a : Int) : fmul p 0 a = 0 := by simp [fmul]
theorem fmul_zero_r (a : Int) : fmul p a 0 = 0 := by simp [fmul]
theorem fsub_one_zero (hp3 : 3 ≤ p) : fsub p 1 0 = 1 := by unfold fsub; rw [Int.sub_zero]; exact one_mod3 hp3
theorem same_does (hp : Pr p) (hp3 : 3 ≤ p) {u v : Int} (hu : 0 ≤ u ∧ u < p) (hv : 0 ≤ v ∧ v < p) : fsub p (fmul p (fsub p u v) (finv p (fsub p u v))) (fsub p 1 (if u = v then 1 else 0)) = 0 ∧ fmul p (if u = v then 1 else 0) (fsub p u v) = 0 := by
  by_cases e : u = v
  · subst e
    rw [if_pos rfl, fsub_self, fmul_zero_l, fsub_self, fsub_self]
    exact ⟨rfl, fmul_zero_r _⟩
  · rw [if_neg e, finv_r hp (not_dvd (fsub_bd2 hp.two _ _) (fun h => e (fsub_zero hu hv h))), fsub_one_zero hp3, fsub_self]
    exact ⟨rfl, fmul_zero_l _⟩
theorem zero_does (hp : Pr p) (hp3 : 3 ≤ p) {u b : Int} {k : Nat} (hu : 0 ≤ u ∧ u < p) : fmul p u (fsub p 1 (fmul p (finv p u) u)) = 0 ∧
    fadd p (fmul p (fsub p 1 (fmul p (finv p u) u)) b) (fmul p (fmul p (finv p u) u) (k + 1)) % p = if u = 0 then fof p b else fadd p k 1 := by
  by_cases e : u = 0
  · subst e
    rw [if_pos rfl, fmul_zero_l, finv_zero hp3, fmul_zero_l, fsub_one_zero hp3, fmul_zero_l]
    exact ⟨rfl, by simp [fadd, fmul, fof]⟩
  · rw [if_neg e, finv_l hp (not_dvd hu e), fsub_self, fmul_zero_r, fmul_zero_l]
    exact ⟨rfl, by simp [fadd, fmul]⟩
end
theorem acc_one (a v : Int) : accA [(a, v)] 0 = a ∧ accI [(a, v)] 0 = v ∧ accA [(a, v)] 1 = 0 ∧ accA [(a, v)] 2 = 0 := ⟨rfl, rfl, rfl, rfl⟩
theorem three_cases {P : Nat → Prop} (h0 : P 0) (h1 : P 1) (h2 : P 2) : ∀ j, j < 3 → P j := fun j hj => by
  have h3 : j = 0 ∨ j = 1 ∨ j = 2 := by omega
  rcases h3 with rfl | rfl | rfl <;> assumption
/-- The last instruction. -/
theorem halt_did {p : Int} {s s' : Ms} {v : Int} {x : In4} {r : List Int} {k : Nat} (hs : Okm p s) (hx : x.op = 0) (hr : s.blank.look (fadd p s.fp x.a) = .go v s') (hk : s.pc = k)
    (hF : RowF r (s.note s'.acc) (hintM p x.op (accI s'.acc 0) (accI s'.acc 1))) : DidR p x k r (s.note s'.acc) s.pc s.fp s.ap s.rv ∧ accI s'.acc 0 = v := by
  obtain ⟨_, _, rfl⟩ := look_ok (blank_ok hs) hr
  obtain ⟨f0, f1, f2, f7, f8, f9, f11⟩ := hF
  have hpc := hs.pc
  refine ⟨⟨three_cases ?_ ?_ ?_, ?_, ?_, ?_, ?_, ?_, ?_⟩, rfl⟩
  · simp [cellK, cellsK, hx, f0, Ms.note, Ms.blank, accA]
  · simp [cellK, cellsK, hx, Ms.note, Ms.blank, accA]
  · simp [cellK, cellsK, hx, Ms.note, Ms.blank, accA]
  · simp [doesK, hx]
  · simp [moreK, hx]
  · simp only [goesK, hx, if_true]; rw [← hk]; exact mod_small hs.pc
  · simp only [fpK, hx]; simp [f0, Ms.note]; exact mod_small hs.fp
  · simp only [apK, hx]; simp [f1, Ms.note]; exact mod_small hs.ap
  · simp only [rvK, hx]; simp [f2, Ms.note]; exact mod_small hs.rv
/-- An instruction that goes on. -/
theorem one_did {p : Int} (hp : Pr p) (hp3 : 3 ≤ p) {s s' : Ms} {v : Int} {x : In4} {r : List Int} {k : Nat} (hs : Okm p s) (hr : s.blank.one p x = .go v s') (hk : s.pc = k)
    (hF : RowF r (s.note s'.acc) (hintM p x.op (accI s'.acc 0) (accI s'.acc 1))) : DidR p x k r (s.note s'.acc) s'.pc s'.fp s'.ap s'.rv := by
  have h2p := hp.two
  have hb := blank_ok hs
  obtain ⟨f0, f1, f2, f7, f8, f9, f11⟩ := hF
  have ha := fadd_bd h2p
  have ho := fof_bd h2p
  have kpc : ((k : Int) + 1) % p = fadd p s.pc 1 := by rw [hk]; rfl
  have mfp := mod_small hs.fp
  have map_ := mod_small hs.ap
  have mrv := mod_small hs.rv
  simp only [Ms.note] at f0 f1 f2 f7 f8 f9 f11 ⊢
  unfold Ms.one at hr
  split at hr
  · rename_i hc
    obtain ⟨w, t, h1, h2⟩ := bind_go hr
    unfold Ms.comp at h1
    obtain ⟨u1, t1, g1, h1⟩ := bind_go h1
    obtain ⟨u2, t2, g2, h1⟩ := bind_go h1
    obtain ⟨k1, l1, rfl⟩ := look_ok hb g1
    obtain ⟨k2, l2, rfl⟩ := look_ok k1 g2
    have b1 := hb.val l1
    have b2 := k1.val l2
    split at h1
    · cases h1
    · rename_i hz
      obtain ⟨k3, rfl, ea, e1, e2, e3, e4, _⟩ := tell_ok k2 (ha _ _) (reck_bd h2p _ _ _) h1
      unfold Ms.to at h2
      simp only [Rs.go.injEq] at h2
      obtain ⟨_, rfl⟩ := h2
      simp only [Ms.blank, List.nil_append, List.cons_append] at ea e1 e2 e3 e4 b1 b2 f7 f8 f9 f11 ⊢
      rw [ea] at f7 f8 f9 f11 ⊢
      rw [e2, e3, e4]
      simp only [accI, List.getD_cons_zero, List.getD_cons_succ] at f7 f8 f9 f11 ⊢
      have hop : x.op = 1 ∨ x.op = 2 ∨ x.op = 3 ∨ x.op = 4 ∨ x.op = 6 := by simp [isCmp] at hc; omega
      refine ⟨three_cases ?_ ?_ ?_, ?_, ?_, ?_, ?_, ?_, ?_⟩
      · rcases hop with h | h | h | h | h <;> simp [accA, cellK, cellsK, h, f0]
      · rcases hop with h | h | h | h | h <;> simp [accA, cellK, cellsK, h, f0]
      · rcases hop with h | h | h | h | h <;> simp [accA, cellK, cellsK, h, f0]
      · rcases hop with h | h | h | h | h
        · simp [doesK, h, f7, f8, f9, reck, fsub_self]
        · simp [doesK, h, f7, f8, f9, reck, fsub_self]
        · simp [doesK, h, f7, f8, f9, reck, fsub_self]
        · have hv2 : u2 ≠ 0 := fun e => hz ⟨h, e⟩
          simp [doesK, h, f7, f8, f9, reck, div_back hp b1 (not_dvd b2 hv2), fsub_self]
        · have := (same_does hp hp3 b1 b2).1
          simp [doesK, h, f7, f8, f9, f11, hintM, reck, this]
      · rcases hop with h | h | h | h | h
        · simp [moreK, h]
        · simp [moreK, h]
        · simp [moreK, h]
        · have hv2 : u2 ≠ 0 := fun e => hz ⟨h, e⟩
          simp [moreK, h, f8, f11, hintM, finv_l hp (not_dvd b2 hv2), fsub_self]
        · have := (same_does hp hp3 b1 b2).2
          simp [moreK, h, f7, f8, f9, reck, this]
      · rcases hop with h | h | h | h | h <;> simp [goesK, h, kpc]
      · rcases hop with h | h | h | h | h <;> simp [fpK, h, f0, mfp]
      · rcases hop with h | h | h | h | h <;> simp [apK, h, f1, map_]
      · rcases hop with h | h | h | h | h <;> simp [rvK, h, f2, mrv]
  split at hr
  · rename_i h
    obtain ⟨w, t, h1, h2⟩ := bind_go hr
    obtain ⟨k3, rfl, ea, e1, e2, e3, e4, _⟩ := tell_ok hb (ha _ _) (ho _) h1
    unfold Ms.to at h2
    simp only [Rs.go.injEq] at h2
    obtain ⟨_, rfl⟩ := h2
    simp only [Ms.blank, List.nil_append] at ea e1 e2 e3 e4
    simp only at f7 f8 f9 f11 ⊢
    rw [ea] at f7 f8 f9 f11 ⊢
    rw [e2, e3, e4]
    simp only [accI, List.getD_cons_zero, List.getD_cons_succ] at f7 f8 f9 f11 ⊢
    refine ⟨three_cases ?_ ?_ ?_, ?_, ?_, ?_, ?_, ?_, ?_⟩
    · simp [accA, cellK, cellsK, h, f0]
    · simp [accA, cellK, cellsK, h]
    · simp [accA, cellK, cellsK, h]
    · simp [doesK, h, f7, fof, fsub_mod_l]
    · simp [moreK, h]
    · simp [goesK, h, kpc, Ms.blank]
    · simp [fpK, h, f0, mfp]
    · simp [apK, h, f1, map_]
    · simp [rvK, h, f2, mrv]
  split at hr
  · rename_i h
    obtain ⟨u1, t1, g1, h1⟩ := bind_go hr
    obtain ⟨u2, t2, g2, h1⟩ := bind_go h1
    obtain ⟨k1, l1, rfl⟩ := look_ok hb g1
    obtain ⟨k2, l2, rfl⟩ := look_ok k1 g2
    split at h1
    · rename_i huv
      subst huv
      unfold Ms.to at h1
      simp only [Rs.go.injEq] at h1
      obtain ⟨_, rfl⟩ := h1
      simp only [Ms.blank, List.nil_append, List.cons_append, accI, List.getD_cons_zero, List.getD_cons_succ] at f7 f8 f9 f11 ⊢
      refine ⟨three_cases ?_ ?_ ?_, ?_, ?_, ?_, ?_, ?_, ?_⟩
      · simp [accA, cellK, cellsK, h, f0]
      · simp [accA, cellK, cellsK, h, f0]
      · simp [accA, cellK, cellsK, h]
      · simp [doesK, h, f7, f8, fsub_self]
      · simp [moreK, h]
      · simp [goesK, h, kpc]
      · simp [fpK, h, f0, mfp]
      · simp [apK, h, f1, map_]
      · simp [rvK, h, f2, mrv]
    · cases h1
  split at hr
  · rename_i h
    unfold Ms.to at hr
    simp only [Rs.go.injEq] at hr
    obtain ⟨_, rfl⟩ := hr
    simp only [Ms.blank, accI] at f7 f8 f9 f11 ⊢
    refine ⟨three_cases ?_ ?_ ?_, ?_, ?_, ?_, ?_, ?_, ?_⟩
    · simp [accA, cellK, cellsK, h]
    · simp [accA, cellK, cellsK, h]
    · simp [accA, cellK, cellsK, h]
    · simp [doesK, h]
    · simp [moreK, h]
    · simp [goesK, h, fof]
    · simp [fpK, h, f0, mfp]
    · simp [apK, h, f1, map_]
    · simp [rvK, h, f2, mrv]
  split at hr
  · rename_i h
    obtain ⟨u1, t1, g1, h1⟩ := bind_go hr
    obtain ⟨k1, l1, rfl⟩ := look_ok hb g1
    have b1 := hb.val l1
    unfold Ms.to at h1
    simp only [Rs.go.injEq] at h1
    obtain ⟨_, rfl⟩ := h1
    simp only [Ms.blank, List.nil_append, accI, List.getD_cons_zero, List.getD_cons_succ] at f7 f8 f9 f11 b1 ⊢
    have hz := zero_does (b := x.b) (k := k) hp hp3 b1
    refine ⟨three_cases ?_ ?_ ?_, ?_, ?_, ?_, ?_, ?_, ?_⟩
    · simp [accA, cellK, cellsK, h, f0]
    · simp [accA, cellK, cellsK, h]
    · simp [accA, cellK, cellsK, h]
    · simp [doesK, h, f7, f11, hintM, hz.1]
    · simp [moreK, h]
    · have e := hz.2
      simp only [goesK, h, f7, f11, hintM]
      simp
      rw [e, hk]
    · simp [fpK, h, f0, mfp]
    · simp [apK, h, f1, map_]
    · simp [rvK, h, f2, mrv]
  split at hr
  · rename_i h
    unfold Ms.call at hr
    obtain ⟨w1, t1, g1, h1⟩ := bind_go hr
    obtain ⟨w2, t2, g2, h1⟩ := bind_go h1
    obtain ⟨k1, rfl, a1, c1, c2, c3, c4, _⟩ := tell_ok hb hs.ap hs.fp g1
    obtain ⟨k2, rfl, a2, d1, d2, d3, d4, _⟩ := tell_ok k1 (ha _ _) (ha _ _) g2
    simp only [Rs.go.injEq] at h1
    obtain ⟨_, rfl⟩ := h1
    simp only [Ms.blank, List.nil_append] at a1 c1 c2 c3 c4
    rw [a1] at a2
    simp only [List.cons_append, List.nil_append] at a2
    simp only at f7 f8 f9 f11 ⊢
    rw [a2] at f7 f8 f9 f11 ⊢
    rw [c1] at *
    rw [c3] at *
    rw [c4] at d4
    rw [d4, d3, c3]
    simp only [accI, List.getD_cons_zero, List.getD_cons_succ] at f7 f8 f9 f11 ⊢
    refine ⟨three_cases ?_ ?_ ?_, ?_, ?_, ?_, ?_, ?_, ?_⟩
    · simp [accA, cellK, cellsK, h, f1]
    · simp [accA, cellK, cellsK, h, f1]
    · simp [accA, cellK, cellsK, h]
    · simp [doesK, h, f7, f0, fsub_self]
    · rw [hk] at f8
      simp [moreK, h, f8, fadd, fsub_mod_l]
    · simp [goesK, h, fof]
    · simp [fpK, h, f1, fadd]
    · simp [apK, h, f1, fadd]
    · simp [rvK, h, f2, mrv]
  split at hr
  · rename_i h
    unfold Ms.back at hr
    obtain ⟨u1, t1, g1, h1⟩ := bind_go hr
    obtain ⟨u2, t2, g2, h1⟩ := bind_go h1
    obtain ⟨u3, t3, g3, h1⟩ := bind_go h1
    obtain ⟨k1, l1, rfl⟩ := look_ok hb g1
    obtain ⟨k2, l2, rfl⟩ := look_ok k1 g2
    obtain ⟨k3, l3, rfl⟩ := look_ok k2 g3
    have b1 := hb.val l1
    have b2 := k1.val l2
    have b3 := k2.val l3
    simp only [Rs.go.injEq] at h1
    obtain ⟨_, rfl⟩ := h1
    simp only [Ms.blank, List.nil_append, List.cons_append, accI, List.getD_cons_zero, List.getD_cons_succ] at f7 f8 f9 f11 ⊢
    refine ⟨three_cases ?_ ?_ ?_, ?_, ?_, ?_, ?_, ?_, ?_⟩
    · simp [accA, cellK, cellsK, h, f0, fadd, fsub, Int.sub_eq_add_neg]
    · simp [accA, cellK, cellsK, h, f0, fadd, fsub, Int.sub_eq_add_neg]
    · simp [accA, cellK, cellsK, h, f0]
    · simp [doesK, h]
    · simp [moreK, h]
    · simp [goesK, h, f8, mod_small b2]
    · simp [fpK, h, f7, mod_small b1]
    · simp [apK, h, f1, map_]
    · simp [rvK, h, f9, mod_small b3]
  split at hr
  · rename_i h
    obtain ⟨w, t, h1, h2⟩ := bind_go hr
    obtain ⟨k3, rfl, ea, e1, e2, e3, e4, _⟩ := tell_ok hb (ha _ _) hs.rv h1
    unfold Ms.to at h2
    simp only [Rs.go.injEq] at h2
    obtain ⟨_, rfl⟩ := h2
    simp only [Ms.blank, List.nil_append] at ea e1 e2 e3 e4
    simp only at f7 f8 f9 f11 ⊢
    rw [ea] at f7 f8 f9 f11 ⊢
    rw [e2, e3, e4]
    simp only [accI, List.getD_cons_zero, List.getD_cons_succ] at f7 f8 f9 f11 ⊢
    refine ⟨three_cases ?_ ?_ ?_, ?_, ?_, ?_, ?_, ?_, ?_⟩
    · simp [accA, cellK, cellsK, h, f0]
    · simp [accA, cellK, cellsK, h]
    · simp [accA, cellK, cellsK, h]
    · simp [doesK, h, f7, f2, fsub_self]
    · simp [moreK, h]
    · simp [goesK, h, kpc, Ms.blank]
    · simp [fpK, h, f0, mfp]
    · simp [apK, h, f1, map_]
    · simp [rvK, h, f2, mrv]
  split at hr
  · rename_i h
    obtain ⟨u1, t1, g1, h1⟩ := bind_go hr
    obtain ⟨w2, t2, g2, h1⟩ := bind_go h1
    obtain ⟨k1, l1, rfl⟩ := look_ok hb g1
    have b1 := hb.val l1
    obtain ⟨k3, rfl, ea, e1, e2, e3, e4, _⟩ := tell_ok k1 (ha _ _) b1 g2
    unfold Ms.to at h1
    simp only [Rs.go.injEq] at h1
    obtain ⟨_, rfl⟩ := h1
    simp only [Ms.blank, List.nil_append, List.cons_append] at ea e1 e2 e3 e4
    simp only at f7 f8 f9 f11 ⊢
    rw [ea] at f7 f8 f9 f11 ⊢
    rw [e2, e3, e4]
    simp only [accI, List.getD_cons_zero, List.getD_cons_succ] at f7 f8 f9 f11 ⊢
    refine ⟨three_cases ?_ ?_ ?_, ?_, ?_, ?_, ?_, ?_, ?_⟩
    · simp [accA, cellK, cellsK, h, f0]
    · simp [accA, cellK, cellsK, h, f1]
    · simp [accA, cellK, cellsK, h]
    · simp [doesK, h, f7, f8, fsub_self]
    · simp [moreK, h]
    · simp [goesK, h, kpc, Ms.blank]
    · simp [fpK, h, f0, mfp]
    · simp [apK, h, f1, map_]
    · simp [rvK, h, f2, mrv]
  · cases hr
end Go.Att
end
section
namespace Go.Att
def nthS (l : List Stp) (i : Nat) : Stp := l.getD i ⟨0, 0, 0, 0, []⟩
/-- A step and the next one. -/
def Link (p : Int) (cd : List In4) (t t' : Stp) : Prop := ∃ (s s' : Ms) (v : Int), Okm p s ∧ s.pc < cd.length ∧ s.blank.one p (nthI cd s.pc.toNat) = .go v s' ∧ t = s.note s'.acc ∧ t'.pc = s'.pc ∧ t'.fp = s'.fp ∧ t'.ap = s'.ap ∧ t'.rv = s'.rv
/-- The last step. -/
def Halts (p : Int) (cd : List In4) (t : Stp) (out : Int) : Prop := ∃ (s s' : Ms), Okm p s ∧ s.pc < cd.length ∧ (nthI cd s.pc.toNat).op = 0 ∧ s.blank.look (fadd p s.fp (nthI cd s.pc.toNat).a) = .go out s' ∧ t = s.note s'.acc
structure Links (p : Int) (cd : List In4) (s : Ms) (l : List Stp) (out : Int) : Prop where
  ne : 1 ≤ l.length
  pc : (nthS l 0).pc = s.pc
  fp : (nthS l 0).fp = s.fp
  ap : (nthS l 0).ap = s.ap
  rv : (nthS l 0).rv = s.rv
  link : ∀ i, i + 1 < l.length → Link p cd (nthS l i) (nthS l (i + 1))
  halt : Halts p cd (nthS l (l.length - 1)) out
theorem runM_links {p : Int} (hp : 2 ≤ p) {cd : List In4} : ∀ (n : Nat) (L : List Stp) (s : Ms) (l : List Stp) (out : Int) (mem : List (Int × Int)), Okm p s → runM p cd n L s = .done l out mem → ∃ l2, l = L ++ l2 ∧ Links p cd s l2 out := by
  intro n
  have hh : ∀ (L : List Stp) (s : Ms) (l : List Stp) (out : Int) (mem : List (Int × Int)), Okm p s → ¬ (cd.length : Int) ≤ s.pc → (nthI cd s.pc.toNat).op = 0 → (match s.blank.look (fadd p s.fp (nthI cd s.pc.toNat).a) with
        | .no e => Rw.no e
        | .go v s' => .done (L ++ [s.note s'.acc]) v s'.mem) = .done l out mem → ∃ l2, l = L ++ l2 ∧ Links p cd s l2 out := by
    intro L s l out mem h h1 h2 hr
    obtain ⟨s', h3, rfl, _⟩ := halt_done hr
    exact ⟨_, rfl, by simp, rfl, rfl, rfl, rfl, fun i hi => by simp at hi, ⟨s, s', h, by omega, h2, h3, rfl⟩⟩
  induction n with
  | zero =>
    intro L s l out mem h hr
    rw [runM_eq] at hr
    by_cases h1 : (cd.length : Int) ≤ s.pc
    · rw [if_pos h1] at hr; cases hr
    rw [if_neg h1] at hr
    by_cases h2 : (nthI cd s.pc.toNat).op = 0
    · rw [if_pos h2] at hr; exact hh _ _ _ _ _ h h1 h2 hr
    · rw [if_neg h2] at hr; cases hr
  | succ n ih =>
    intro L s l out mem h hr
    rw [runM_eq] at hr
    by_cases h1 : (cd.length : Int) ≤ s.pc
    · rw [if_pos h1] at hr; cases hr
    rw [if_neg h1] at hr
    by_cases h2 : (nthI cd s.pc.toNat).op = 0
    · rw [if_pos h2] at hr; exact hh _ _ _ _ _ h h1 h2 hr
    · rw [if_neg h2] at hr
      dsimp only at hr
      cases ho : s.blank.one p (nthI cd s.pc.toNat) with
      | no e => rw [ho] at hr; cases hr
      | go v s' =>
        rw [ho] at hr
        obtain ⟨l2, rfl, k1, k2, k3, k4, k5, k6, k7⟩ := ih _ _ _ _ _ (one_aft hp (blank_ok h) ho).ok hr
        refine ⟨s.note s'.acc :: l2, by simp, by simp, rfl, rfl, rfl, rfl, fun i hi => ?_, ?_⟩
        · cases i with
          | zero => exact ⟨s, s', v, h, by omega, ho, rfl, k2, k3, k4, k5⟩
          | succ i => exact k6 i (by simpa using hi)
        · rw [show (s.note s'.acc :: l2).length - 1 = (l2.length - 1) + 1 by simp; omega]
          exact k7
theorem walkM_links {p sz lim : Int} {cd : List In4} {l : List Stp} {out : Int} {mem : List (Int × Int)} (hp : 2 ≤ p) (h : walkM p sz cd lim = .done l out mem) : Links p cd (startM p sz) l out := by
  unfold walkM at h
  split at h
  · obtain ⟨l2, hl, hk⟩ := runM_links hp _ _ _ _ _ _ (start_ok hp) h
    rw [List.nil_append] at hl
    subst hl
    exact hk
  · cases h
theorem stpAt_eq (l : List Stp) (i : Nat) : stpAt l i = nthS l (min i (l.length - 1)) := rfl
/-- What the rules ask of any row of a run and the next one. -/
theorem step_did {p : Int} (hp : Pr p) (hp3 : 3 ≤ p) {cd : List In4} {s0 : Ms} {l : List Stp} {out : Int} (h : Links p cd s0 l out) (i : Nat) {r : List Int} (hF : RowF r (stpAt l i) (hintS p cd (stpAt l i))) :
    DidR p (nthI cd (stpAt l i).pc.toNat) (stpAt l i).pc.toNat r (stpAt l i) (stpAt l (i + 1)).pc (stpAt l (i + 1)).fp (stpAt l (i + 1)).ap (stpAt l (i + 1)).rv := by
  have hne := h.ne
  by_cases hi : i + 1 < l.length
  · have e1 : stpAt l i = nthS l i := by rw [stpAt_eq, show min i (l.length - 1) = i by omega]
    have e2 : stpAt l (i + 1) = nthS l (i + 1) := by rw [stpAt_eq, show min (i + 1) (l.length - 1) = i + 1 by omega]
    obtain ⟨s, s', v, hs, hlt, ho, ht, k1, k2, k3, k4⟩ := h.link i hi
    rw [e2, k1, k2, k3, k4]
    rw [e1, ht] at hF ⊢
    exact one_did hp hp3 hs ho (by have := hs.pc.1; simp only [Ms.note]; omega) hF
  · have e1 : stpAt l i = nthS l (l.length - 1) := by rw [stpAt_eq, show min i (l.length - 1) = l.length - 1 by omega]
    have e2 : stpAt l (i + 1) = nthS l (l.length - 1) := by rw [stpAt_eq, show min (i + 1) (l.length - 1) = l.length - 1 by omega]
    obtain ⟨s, s', hs, hlt, h0, ho, ht⟩ := h.halt
    rw [e2]
    rw [e1] at hF ⊢
    rw [ht] at hF ⊢
    exact (halt_did hs h0 ho (by have := hs.pc.1; simp only [Ms.note]; omega) hF).1
/-- The marks of a row. -/
theorem row_mark {p : Int} {cd : List In4} {t : Stp} {m : Int} {S : List (Int × Int)} {i r : Nat} {k : Nat} (hk : k < cd.length) : nth (rowK p cd t m S i r) (20 + k) = if k = t.pc.toNat then 1 else 0 := by
  unfold rowK nth
  rw [List.getD_eq_getElem?_getD, List.getElem?_append_right (by simp [head20]), show 20 + k - (head20 t m (hintS p cd t) (pickS S i (4 * r)) (pickS S i (4 * r + 1)) (pickS S i (4 * r + 2)) (pickS S i (4 * r + 3))).length = k by simp [head20]]
  unfold selM
  rw [List.getElem?_set]
  by_cases e : t.pc.toNat = k
  · rw [if_pos e, if_pos (by simp; omega), if_pos e.symm]; rfl
  · rw [if_neg e, if_neg (fun h => e h.symm)]
    simp [hk]
theorem rowK_f {p : Int} {cd : List In4} {t : Stp} {m : Int} {S : List (Int × Int)} {i r : Nat} : RowF (rowK p cd t m S i r) t (hintS p cd t) := ⟨rfl, rfl, rfl, rfl, rfl, rfl, rfl⟩
theorem rowK_cell {p : Int} {cd : List In4} {t : Stp} {m : Int} {S : List (Int × Int)} {i r : Nat} : nth (rowK p cd t m S i r) 3 = accA t.acc 0 ∧ nth (rowK p cd t m S i r) 4 = accA t.acc 1 ∧ nth (rowK p cd t m S i r) 5 = accA t.acc 2 := ⟨rfl, rfl, rfl⟩
theorem rowK_pair {p : Int} {cd : List In4} {t : Stp} {m : Int} {S : List (Int × Int)} {N r : Nat} (h : 4 * r + 3 < N) :
    nth (rowK p cd t m S N r) 12 = (nthP S (4 * r)).1 ∧ nth (rowK p cd t m S N r) 13 = (nthP S (4 * r + 1)).1 ∧ nth (rowK p cd t m S N r) 14 = (nthP S (4 * r + 2)).1 ∧ nth (rowK p cd t m S N r) 15 = (nthP S (4 * r + 3)).1 ∧
    nth (rowK p cd t m S N r) 16 = (nthP S (4 * r)).2 ∧ nth (rowK p cd t m S N r) 17 = (nthP S (4 * r + 1)).2 ∧ nth (rowK p cd t m S N r) 18 = (nthP S (4 * r + 2)).2 ∧ nth (rowK p cd t m S N r) 19 = (nthP S (4 * r + 3)).2 := by
  have e : ∀ j, j < N → pickS S N j = nthP S j := fun j hj => by unfold pickS; rw [if_pos hj]
  unfold rowK
  rw [e _ (by omega), e _ (by omega), e _ (by omega), e _ (by omega)]
  exact ⟨rfl, rfl, rfl, rfl, rfl, rfl, rfl, rfl⟩
/-- The rules of one row and the next one. -/
structure RowRules (p sz out : Int) (cd : List In4) (r n : List Int) (first next last : Prop) : Prop where
  head : ∀ k, k < cd.length → fsub p (fmul p (nth r (20 + k)) (nth r (20 + k))) (nth r (20 + k)) = 0
  one : sumK p r cd oneK cd.length = 1
  cell : ∀ j, j < 3 → nth r (3 + j) = sumK p r cd (cellK p r j) cd.length
  does : sumK p r cd (doesK p r) cd.length = 0
  more : sumK p r cd (moreK p r) cd.length = 0
  ord0 : ordK p (nth r 12) (nth r 16) (nth r 13) (nth r 17) = [0, 0]
  ord1 : ordK p (nth r 13) (nth r 17) (nth r 14) (nth r 18) = [0, 0]
  ord2 : ordK p (nth r 14) (nth r 18) (nth r 15) (nth r 19) = [0, 0]
  num : next → numK p n cd.length = sumK p r cd (goesK p r) cd.length
  fp : next → nth n 0 = sumK p r cd (fpK p r) cd.length
  ap : next → nth n 1 = sumK p r cd (apK p r) cd.length
  rv : next → nth n 2 = sumK p r cd (rvK r) cd.length
  ord3 : next → ordK p (nth r 15) (nth r 19) (nth n 12) (nth n 16) = [0, 0]
  fst : first → nth r 20 = 1 ∧ nth r 0 = 1 ∧ fsub p (fsub p (nth r 1) 1) sz = 0 ∧ nth r 2 = 0 ∧ nth r 12 = 0 ∧ nth r 16 = 0
  halt : last → sumK p r cd haltK cd.length = 1 ∧ nth r 7 = out
theorem RowRules.zero {p sz out : Int} {cd : List In4} {r n : List Int} {first next last : Prop} (h : RowRules p sz out cd r n first next last) {k : Nat} (hk : k < cd.length + 26)
    (h1 : cd.length + 12 ≤ k → k < cd.length + 18 → next) (h2 : cd.length + 18 ≤ k → k < cd.length + 24 → first) (h3 : cd.length + 24 ≤ k → last) : ruleD p sz out cd r n k = 0 := by
  unfold ruleD
  by_cases hkl : k < cd.length
  · rw [if_pos hkl]; exact h.head k hkl
  · rw [if_neg hkl]
    obtain ⟨i, rfl⟩ : ∃ i, k = cd.length + i := ⟨k - cd.length, by omega⟩
    rw [show cd.length + i - cd.length = i by omega]
    rw [← tail_same (by omega)]
    have o0 := h.ord0
    have o1 := h.ord1
    have o2 := h.ord2
    have c0 := h.cell 0 (by omega)
    have c1 := h.cell 1 (by omega)
    have c2 := h.cell 2 (by omega)
    simp only [Nat.add_zero, Nat.reduceAdd] at c0 c1 c2
    unfold tailK
    rw [o0, o1, o2, h.one, h.does, h.more, c0, c1, c2]
    by_cases hi12 : i < 12
    · have hc : i = 0 ∨ i = 1 ∨ i = 2 ∨ i = 3 ∨ i = 4 ∨ i = 5 ∨ i = 6 ∨ i = 7 ∨ i = 8 ∨ i = 9 ∨ i = 10 ∨ i = 11 := by omega
      rcases hc with rfl | rfl | rfl | rfl | rfl | rfl | rfl | rfl | rfl | rfl | rfl | rfl <;> simp [fsub_self]
    by_cases hi18 : i < 18
    · have hn := h1 (by omega) (by omega)
      rw [h.num hn, h.fp hn, h.ap hn, h.rv hn, h.ord3 hn]
      have hc : i = 12 ∨ i = 13 ∨ i = 14 ∨ i = 15 ∨ i = 16 ∨ i = 17 := by omega
      rcases hc with rfl | rfl | rfl | rfl | rfl | rfl <;> simp [fsub_self]
    by_cases hi24 : i < 24
    · obtain ⟨q0, q1, q2, q3, q4, q5⟩ := h.fst (h2 (by omega) (by omega))
      rw [q0, q1, q3, q4, q5]
      have hc : i = 18 ∨ i = 19 ∨ i = 20 ∨ i = 21 ∨ i = 22 ∨ i = 23 := by omega
      rcases hc with rfl | rfl | rfl | rfl | rfl | rfl <;> simp [fsub_self, ordK, q2, fof]
    · obtain ⟨q0, q1⟩ := h.halt (h3 (by omega))
      rw [q0, q1]
      have hc : i = 24 ∨ i = 25 := by omega
      rcases hc with rfl | rfl <;> simp [fsub_self, ordK]
end Go.Att
end
section
namespace Go.Att
/-- A row of a run's table. -/
def rowAt (p : Int) (cd : List In4) (l : List Stp) (n i : Nat) : List Int := rowK p cd (stpAt l i) (nth (missL l) i) (sortP (prsT l (missL l) n)) (4 * n) i
theorem tabL_eq (p : Int) (cd : List In4) (l : List Stp) (n : Nat) : tabL p cd l n = (List.range n).map (rowAt p cd l n) := rfl
theorem tabL_length (p : Int) (cd : List In4) (l : List Stp) (n : Nat) : (tabL p cd l n).length = n := by simp [tabL_eq]
theorem tabL_row {p : Int} {cd : List In4} {l : List Stp} {n i : Nat} (h : i < n) : nthL (tabL p cd l n) i = rowAt p cd l n i := by
  rw [nthL_eq (by rw [tabL_length]; exact h)]
  simp [tabL_eq]
theorem row_rules {p sz : Int} (hp : Pr p) (hp3 : 3 ≤ p) {cd : List In4} {l : List Stp} {out : Int} {mem : List (Int × Int)} {n : Nat} (h : walkM p sz cd ((n : Int) - 1) = .done l out mem) (hmn : (missL l).length ≤ n)
    {i : Nat} (hi : i < n) {nr : List Int} (hnr : i + 1 < n → nr = rowAt p cd l n (i + 1)) : RowRules p sz out cd (rowAt p cd l n i) nr (i = 0) (i + 1 < n) (i + 1 = n) := by
  have hp2 := hp.two
  have hok := walkM_ok hp2 h
  have hlk := walkM_links hp2 h
  obtain ⟨val, hX, htop⟩ := prs_ok (n := n) hp2 h (by have := hok.len; omega) hmn
  have hne := hok.ne
  have hlen := hok.len
  have hm := stpAt_mem hne i
  have hst := hok.stp _ hm
  have hpl := prsT_length l (missL l) n
  have hq : (stpAt l i).pc.toNat < cd.length := by have := hst.pc; omega
  have hot : ∀ k, k < cd.length → nth (rowAt p cd l n i) (20 + k) = if k = (stpAt l i).pc.toNat then 1 else 0 := fun k hk => row_mark hk
  have hsum : ∀ g : Nat → In4 → Int, sumK p (rowAt p cd l n i) cd g cd.length = g (stpAt l i).pc.toNat (nthI cd (stpAt l i).pc.toNat) % p := fun g => by
    rw [sum_hot hp2 hot g _ (Nat.le_refl _), if_pos hq]
  have D := step_did hp hp3 hlk i (r := rowAt p cd l n i) rowK_f
  obtain ⟨c3, c4, c5⟩ : nth (rowAt p cd l n i) 3 = accA (stpAt l i).acc 0 ∧ nth (rowAt p cd l n i) 4 = accA (stpAt l i).acc 1 ∧ nth (rowAt p cd l n i) 5 = accA (stpAt l i).acc 2 := rowK_cell
  obtain ⟨q0, q1, q2, q3, q4, q5, q6, q7⟩ : _ := rowK_pair (p := p) (cd := cd) (t := stpAt l i) (m := nth (missL l) i) (S := sortP (prsT l (missL l) n)) (N := 4 * n) (r := i) (by omega)
  have onx : ∀ j, j + 1 < 4 * n → ordK p (nthP (sortP (prsT l (missL l) n)) j).1 (nthP (sortP (prsT l (missL l) n)) j).2 (nthP (sortP (prsT l (missL l) n)) (j + 1)).1 (nthP (sortP (prsT l (missL l) n)) (j + 1)).2 = [0, 0] := fun j hj =>
    ord_zero hp2 (order_next hX (by omega))
  refine ⟨fun k hk => ?_, ?_, fun j hj => ?_, ?_, ?_, ?_, ?_, ?_, fun hnx => ?_, fun hnx => ?_, fun hnx => ?_, fun hnx => ?_, fun hnx => ?_, fun h0 => ?_, fun hl => ?_⟩
  · rw [hot k hk]
    split
    · simp [fmul, fsub]
    · simp [fmul, fsub]
  · rw [hsum]; exact one_mod3 hp3
  · rw [hsum, ← D.cell j hj, mod_small (hok.at_ _ hm j)]
    have h3 : j = 0 ∨ j = 1 ∨ j = 2 := by omega
    rcases h3 with rfl | rfl | rfl
    · exact c3
    · exact c4
    · exact c5
  · rw [hsum]; exact D.does
  · rw [hsum]; exact D.more
  · show ordK p (nth (rowK _ _ _ _ _ _ _) 12) (nth (rowK _ _ _ _ _ _ _) 16) (nth (rowK _ _ _ _ _ _ _) 13) (nth (rowK _ _ _ _ _ _ _) 17) = _
    rw [q0, q1, q4, q5]; exact onx (4 * i) (by omega)
  · show ordK p (nth (rowK _ _ _ _ _ _ _) 13) (nth (rowK _ _ _ _ _ _ _) 17) (nth (rowK _ _ _ _ _ _ _) 14) (nth (rowK _ _ _ _ _ _ _) 18) = _
    rw [q1, q2, q5, q6]; exact onx (4 * i + 1) (by omega)
  · show ordK p (nth (rowK _ _ _ _ _ _ _) 14) (nth (rowK _ _ _ _ _ _ _) 18) (nth (rowK _ _ _ _ _ _ _) 15) (nth (rowK _ _ _ _ _ _ _) 19) = _
    rw [q2, q3, q6, q7]; exact onx (4 * i + 2) (by omega)
  · have hm' := stpAt_mem hne (i + 1)
    have hst' := hok.stp _ hm'
    have hot' : ∀ k, k < cd.length → nth (rowAt p cd l n (i + 1)) (20 + k) = if k = (stpAt l (i + 1)).pc.toNat then 1 else 0 := fun k hk => row_mark hk
    rw [hnr hnx, hsum, num_hot hp2 hot' _ (Nat.le_refl _), if_pos (by have := hst'.pc; omega), D.goes, Int.toNat_of_nonneg hst'.pc.1]
    have := D.goes
    rw [← this, Int.emod_emod]
  · rw [hnr hnx, hsum]; exact D.fp.symm
  · rw [hnr hnx, hsum]; exact D.ap.symm
  · rw [hnr hnx, hsum]; exact D.rv.symm
  · obtain ⟨k0, _, _, _, k4, _, _, _⟩ : _ := rowK_pair (p := p) (cd := cd) (t := stpAt l (i + 1)) (m := nth (missL l) (i + 1)) (S := sortP (prsT l (missL l) n)) (N := 4 * n) (r := i + 1) (by omega)
    rw [hnr hnx]
    show ordK p (nth (rowK _ _ _ _ _ _ _) 15) (nth (rowK _ _ _ _ _ _ _) 19) (nth (rowK _ _ _ _ _ _ _) 12) (nth (rowK _ _ _ _ _ _ _) 16) = _
    rw [q3, q7, k0, k4, show 4 * (i + 1) = 4 * i + 3 + 1 by omega]
    exact onx (4 * i + 3) (by omega)
  · subst h0
    have e : stpAt l 0 = nthS l 0 := by rw [stpAt_eq]; simp
    have hpc : (stpAt l 0).pc = 0 := by rw [e, hlk.pc]; rfl
    have hfp : (stpAt l 0).fp = fof p 1 := by rw [e, hlk.fp]; rfl
    have hap : (stpAt l 0).ap = fof p (1 + sz) := by rw [e, hlk.ap]; rfl
    have hrv : (stpAt l 0).rv = 0 := by rw [e, hlk.rv]; rfl
    have hfst := order_first hX
    have hc0 : 0 < cd.length := by omega
    refine ⟨?_, ?_, ?_, ?_, ?_, ?_⟩
    · have := hot 0 hc0
      rw [Nat.add_zero, hpc] at this
      rw [this]; rfl
    · show (stpAt l 0).fp = 1
      rw [hfp]; exact one_mod3 hp3
    · show fsub p (fsub p (stpAt l 0).ap 1) sz = 0
      rw [hap]
      unfold fsub fof
      rw [Int.sub_emod ((1 + sz) % p) 1, Int.emod_emod, ← Int.sub_emod, show 1 + sz - 1 = sz by omega]
      exact fsub_mod_l sz
    · exact hrv
    · show nth (rowK _ _ _ _ _ _ _) 12 = 0
      rw [q0, Nat.mul_zero, hfst]
    · show nth (rowK _ _ _ _ _ _ _) 16 = 0
      rw [q4, Nat.mul_zero, hfst]
  · have e : stpAt l i = nthS l (l.length - 1) := by rw [stpAt_eq, show min i (l.length - 1) = l.length - 1 by omega]
    have elast : stpAt l (l.length - 1) = nthS l (l.length - 1) := by rw [stpAt_eq, Nat.min_self]
    obtain ⟨s, s', hs, hlt, hop, _, ht⟩ := hlk.halt
    constructor
    · rw [hsum, e, ht]
      simp only [Ms.note, haltK, hop, if_true]
      exact one_mod3 hp3
    · show accI (stpAt l i).acc 0 = out
      rw [e, ← elast]; exact hok.last
/-- No rule is broken. -/
theorem shows_rules {p sz : Int} (hp : Pr p) (hp3 : 3 ≤ p) {cd : List In4} {l : List Stp} {out : Int} {mem : List (Int × Int)} {n : Nat} (h : walkM p sz cd ((n : Int) - 1) = .done l out mem) (hmn : (missL l).length ≤ n) :
    ∀ k i, k < cd.length + 26 → i < n → badB p sz out cd (tabL p cd l n) k i = false := by
  intro k i hk hi
  unfold badB
  rw [tabL_length, tabL_row hi]
  by_cases hsp : speakB n (kindB cd.length k) i = true
  · rw [hsp, Bool.true_and, bne_eq_false_iff_eq]
    have hnr : i + 1 < n → nthL (tabL p cd l n) ((i + 1) % n) = rowAt p cd l n (i + 1) := fun hlt => by
      rw [Nat.mod_eq_of_lt hlt, tabL_row hlt]
    refine (row_rules hp hp3 h hmn hi hnr).zero hk (fun a b => ?_) (fun a b => ?_) (fun a => ?_)
    · have hkk : kindB cd.length k = 1 := by unfold kindB; rw [if_neg (by omega), if_pos b]
      rw [hkk] at hsp
      simpa [speakB] using hsp
    · have hkk : kindB cd.length k = 2 := by unfold kindB; rw [if_neg (by omega), if_neg (by omega), if_pos b]
      rw [hkk] at hsp
      simpa [speakB] using hsp
    · have hkk : kindB cd.length k = 3 := by unfold kindB; rw [if_neg (by omega), if_neg (by omega), if_neg (by omega)]
      rw [hkk] at hsp
      simpa [speakB] using hsp
  · simp only [Bool.not_eq_true] at hsp
    rw [hsp, Bool.false_and]
theorem take_snocP {S : List (Int × Int)} {j : Nat} (h : j < S.length) : S.take (j + 1) = S.take j ++ [nthP S j] := by
  rw [List.take_succ_eq_append_getElem h, nthP_eq h]
theorem four_take (S : List (Int × Int)) : ∀ n, 4 * n ≤ S.length → (List.range n).flatMap (fun i => [nthP S (4 * i), nthP S (4 * i + 1), nthP S (4 * i + 2), nthP S (4 * i + 3)]) = S.take (4 * n) := by
  intro n
  induction n with
  | zero => intro _; simp
  | succ n ih =>
    intro h
    rw [List.range_succ, List.flatMap_append, ih (by omega)]
    simp only [List.flatMap_cons, List.flatMap_nil, List.append_nil]
    rw [show 4 * (n + 1) = 4 * n + 1 + 1 + 1 + 1 by omega, take_snocP (by omega), take_snocP (by omega), take_snocP (by omega), take_snocP (by omega)]
    simp
theorem flatMap_map2 {α β γ : Type} (f : α → β) (g : β → List γ) (l : List α) : (l.map f).flatMap g = l.flatMap fun x => g (f x) := by
  induction l with
  | nil => rfl
  | cons a l ih => simp [ih]
theorem flatMap_congr2 {α β : Type} {f g : α → List β} {l : List α} (h : ∀ x ∈ l, f x = g x) : l.flatMap f = l.flatMap g := by
  induction l with
  | nil => rfl
  | cons a l ih =>
    rw [List.flatMap_cons, List.flatMap_cons, h a (by simp), ih (fun x hx => h x (by simp [hx]))]
/-- The pairs of a run's table are alike in both orders. -/
theorem shows_alike {p sz : Int} (hp : Pr p) (hp3 : 3 ≤ p) {cd : List In4} {l : List Stp} {out : Int} {mem : List (Int × Int)} {n : Nat} (h : walkM p sz cd ((n : Int) - 1) = .done l out mem) (hmn : (missL l).length ≤ n) :
    alikeB p (tabL p cd l n) = true := by
  have hp2 := hp.two
  have hok := walkM_ok hp2 h
  obtain ⟨val, hX, htop⟩ := prs_ok (n := n) hp2 h (by have := hok.len; omega) hmn
  have hpl := prsT_length l (missL l) n
  have hsl := sortP_len (prsT l (missL l) n)
  have hbd : ∀ c ∈ prsT l (missL l) n, fof p c.1 = c.1 ∧ fof p c.2 = c.2 := fun c hc => by
    have hb := hX.bd c hc
    refine ⟨mod_small ⟨hb.1, by omega⟩, ?_⟩
    obtain ⟨i, hi, ⟨j, hj, rfl⟩ | rfl⟩ := mem_prsT.1 hc
    · exact mod_small (hok.is_ _ (stpAt_mem hok.ne i) j)
    · exact mod_small ⟨Int.le_refl _, by omega⟩
  unfold alikeB
  have hsh : shortB (tabL p cd l n) = false := short_all fun i hi => by
    rw [tabL_length] at hi
    rw [tabL_row hi]
    unfold rowAt
    rw [rowK_length]; omega
  rw [hsh, Bool.not_false, Bool.true_and]
  have e1 : prsL p (tabL p cd l n) 3 7 = prsT l (missL l) n := by
    unfold prsL
    rw [tabL_eq, flatMap_map2]
    unfold prsT
    refine flatMap_congr2 fun i hi => ?_
    have hin := List.mem_range.1 hi
    have b0 := hbd _ (mem_prsT.2 ⟨i, hin, .inl ⟨0, by omega, rfl⟩⟩)
    have b1 := hbd _ (mem_prsT.2 ⟨i, hin, .inl ⟨1, by omega, rfl⟩⟩)
    have b2 := hbd _ (mem_prsT.2 ⟨i, hin, .inl ⟨2, by omega, rfl⟩⟩)
    have b3 := hbd _ (mem_prsT.2 ⟨i, hin, .inr rfl⟩)
    show [(fof p (accA (stpAt l i).acc 0), fof p (accI (stpAt l i).acc 0)), (fof p (accA (stpAt l i).acc 1), fof p (accI (stpAt l i).acc 1)), (fof p (accA (stpAt l i).acc 2), fof p (accI (stpAt l i).acc 2)), (fof p (nth (missL l) i), fof p 0)] = _
    simp only at b0 b1 b2 b3
    rw [b0.1, b0.2, b1.1, b1.2, b2.1, b2.2, b3.1, b3.2]
    rfl
  have e2 : prsL p (tabL p cd l n) 12 16 = sortP (prsT l (missL l) n) := by
    unfold prsL
    rw [tabL_eq, flatMap_map2]
    have hm : ∀ j, j < 4 * n → fof p (nthP (sortP (prsT l (missL l) n)) j).1 = (nthP (sortP (prsT l (missL l) n)) j).1 ∧ fof p (nthP (sortP (prsT l (missL l) n)) j).2 = (nthP (sortP (prsT l (missL l) n)) j).2 := fun j hj =>
      hbd _ ((sortP_perm _).mem_iff.1 (nthP_mem (by omega)))
    rw [flatMap_congr2 (g := fun i => [nthP (sortP (prsT l (missL l) n)) (4 * i), nthP (sortP (prsT l (missL l) n)) (4 * i + 1), nthP (sortP (prsT l (missL l) n)) (4 * i + 2), nthP (sortP (prsT l (missL l) n)) (4 * i + 3)]) (fun i hi => ?_)]
    · rw [four_take _ n (by omega), List.take_of_length_le (by omega)]
    · have hin := List.mem_range.1 hi
      obtain ⟨q0, q1, q2, q3, q4, q5, q6, q7⟩ : _ := rowK_pair (p := p) (cd := cd) (t := stpAt l i) (m := nth (missL l) i) (S := sortP (prsT l (missL l) n)) (N := 4 * n) (r := i) (by omega)
      show [(fof p (nth (rowK _ _ _ _ _ _ _) 12), fof p (nth (rowK _ _ _ _ _ _ _) 16)), (fof p (nth (rowK _ _ _ _ _ _ _) 13), fof p (nth (rowK _ _ _ _ _ _ _) 17)), (fof p (nth (rowK _ _ _ _ _ _ _) 14), fof p (nth (rowK _ _ _ _ _ _ _) 18)), (fof p (nth (rowK _ _ _ _ _ _ _) 15), fof p (nth (rowK _ _ _ _ _ _ _) 19))] = _
      have m0 := hm (4 * i) (by omega)
      have m1 := hm (4 * i + 1) (by omega)
      have m2 := hm (4 * i + 2) (by omega)
      have m3 := hm (4 * i + 3) (by omega)
      rw [q0, q1, q2, q3, q4, q5, q6, q7, m0.1, m0.2, m1.1, m1.2, m2.1, m2.2, m3.1, m3.2]
  rw [e1, e2]
  exact permB_true (sortP_perm _).symm
end Go.Att
end
