/- What a table is at a point: the plain laws. No program in sight. -/
import Derived.Test.YthjemncbphdomaaDoorVoc
import Derived.Test.YthjemncbphdomaaDoorFm
namespace Go.Att
/-- Is the k-th of v digits of i, the greatest first, a 1? -/
def dig (v i k : Nat) : Nat := i / 2 ^ (v - 1 - k) % 2
/-- What the k-th number of a point gives to the place i. -/
def wf (l : List Int) (i k : Nat) : Int := if dig l.length i k = 1 then nth l k else 1 - nth l k
/-- The product of the first k, of the last m. -/
def wU (l : List Int) (i : Nat) : Nat → Int
  | 0 => 1
  | k + 1 => wU l i k * wf l i k
def wD (l : List Int) (i : Nat) : Nat → Int
  | 0 => 1
  | m + 1 => wD l i m * wf l i (l.length - 1 - m)
/-- The weight of the place i at a point. -/
def wgt (l : List Int) (i : Nat) : Int := wU l i l.length
theorem wU_wD (l : List Int) (i m : Nat) (h : m ≤ l.length) : wU l i (l.length - m) * wD l i m = wgt l i := by
  induction m with
  | zero => simp [wD, wgt]
  | succ m ih =>
    rw [← ih (by omega)]
    obtain ⟨q, hq⟩ : ∃ q, l.length - m = q + 1 := ⟨l.length - m - 1, by omega⟩
    have h1 : l.length - (m + 1) = q := by omega
    have h2 : l.length - 1 - m = q := by omega
    rw [hq, h1]
    show wU l i q * (wD l i m * wf l i (l.length - 1 - m)) = wU l i q * wf l i q * wD l i m
    rw [h2]; grind
theorem wD_all (l : List Int) (i : Nat) : wD l i l.length = wgt l i := by
  have := wU_wD l i l.length (Nat.le_refl _)
  rw [Nat.sub_self] at this
  rw [← this]; simp [wU]
/-- The sum of a table's first n numbers, each times its place's weight. -/
def exS (t at_ : List Int) : Nat → Int
  | 0 => 0
  | n + 1 => exS t at_ n + nth t n * wgt at_ n
/-- What a table Extends to at a point. -/
def ext (t at_ : List Int) : Int := exS t at_ t.length
/-- A table that is 1 at a place. -/
def unitT (n i : Nat) : List Int := (List.replicate n (0 : Int)).set i 1
theorem unitT_length (n i : Nat) : (unitT n i).length = n := by simp [unitT]
theorem unitT_nth (n i j : Nat) (h : j < n) : nth (unitT n i) j = if i = j then 1 else 0 := by
  unfold nth unitT
  simp only [List.getD_eq_getElem?_getD, List.getElem?_set, List.getElem?_replicate, List.length_replicate]
  by_cases e : i = j
  · subst e; simp [h]
  · simp [e, h]
theorem exS_unit (n i : Nat) (at_ : List Int) (m : Nat) (hm : m ≤ n) : exS (unitT n i) at_ m = if i < m then wgt at_ i else 0 := by
  induction m with
  | zero => simp [exS]
  | succ m ih =>
    simp only [exS]
    rw [ih (by omega), unitT_nth n i m (by omega)]
    by_cases h1 : i < m
    · rw [if_pos h1, if_neg (by omega), if_pos (by omega)]; simp
    · rw [if_neg h1]
      by_cases h2 : i = m
      · subst h2; rw [if_pos rfl, if_pos (by omega)]; simp
      · rw [if_neg h2, if_neg (by omega)]; simp
theorem ext_unit (n i : Nat) (at_ : List Int) (h : i < n) : ext (unitT n i) at_ = wgt at_ i := by
  unfold ext
  rw [unitT_length, exS_unit n i at_ n (Nat.le_refl _), if_pos h]
/-- .. by the point's first number: the weights of the two halves. -/
theorem dig_cons (v i k : Nat) : dig (v + 1) i (k + 1) = dig v i k := by
  unfold dig; rw [show v + 1 - 1 - (k + 1) = v - 1 - k by omega]
theorem wf_cons (r : Int) (l : List Int) (i k : Nat) : wf (r :: l) i (k + 1) = wf l i k := by
  unfold wf
  rw [List.length_cons, dig_cons]
  rfl
theorem wU_cons (r : Int) (l : List Int) (i k : Nat) : wU (r :: l) i (k + 1) = wf (r :: l) i 0 * wU l i k := by
  induction k with
  | zero => simp [wU]
  | succ k ih =>
    have e : wU (r :: l) i (k + 1 + 1) = wU (r :: l) i (k + 1) * wf (r :: l) i (k + 1) := rfl
    rw [e, ih, wf_cons, Int.mul_assoc]; rfl
theorem wgt_nil (i : Nat) : wgt [] i = 1 := rfl
theorem wgt_cons (r : Int) (l : List Int) (i : Nat) : wgt (r :: l) i = (if i / 2 ^ l.length % 2 = 1 then r else 1 - r) * wgt l i := by
  unfold wgt
  rw [List.length_cons, wU_cons]
  congr 1
theorem dig_mod (v i k : Nat) (hk : k < v) : dig v (i % 2 ^ v) k = dig v i k := by
  unfold dig
  have h1 : v - 1 - k + 1 + k = v := by omega
  have e : (2 : Nat) ^ v = 2 ^ (v - 1 - k) * (2 * 2 ^ k) := by
    rw [← Nat.mul_assoc, ← Nat.pow_succ, ← Nat.pow_add, h1]
  rw [e, Nat.mod_mul_right_div_self, Nat.mod_mul_right_mod]
theorem wU_mod (l : List Int) (i k : Nat) (hk : k ≤ l.length) : wU l (i % 2 ^ l.length) k = wU l i k := by
  induction k with
  | zero => rfl
  | succ k ih =>
    simp only [wU]
    rw [ih (by omega)]
    congr 1
    unfold wf; rw [dig_mod _ _ _ (by omega)]
theorem wgt_mod (l : List Int) (i : Nat) : wgt l (i % 2 ^ l.length) = wgt l i := wU_mod l i _ (Nat.le_refl _)
end Go.Att
