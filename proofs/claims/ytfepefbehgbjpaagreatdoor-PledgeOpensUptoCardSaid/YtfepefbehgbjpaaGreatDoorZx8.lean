/- What a table is at a point: the plain laws. No program in sight. The machine, plain: cells that are told once; a step; a run. No program in sight. The machine's map and block, plain: a datum that reads as what was told; a block known whole; what two blocks' change leaves. A map in a block, by what stands at each key: plain words. No program in sight. -/
import Derived.Test.YtfepefbehgbjpaaGreatDoorZx1
import Derived.Maps.OwnSet
import Derived.RangeFuncOwn
section
/-! What a table is at a point: the plain laws. No program in sight. -/
namespace Go.Att
def dig (v i k : Nat) : Nat := i / 2 ^ (v - 1 - k) % 2
def wf (l : List Int) (i k : Nat) : Int := if dig l.length i k = 1 then nth l k else 1 - nth l k
def wU (l : List Int) (i : Nat) : Nat → Int
  | 0 => 1
  | k + 1 => wU l i k * wf l i k
def wD (l : List Int) (i : Nat) : Nat → Int
  | 0 => 1
  | m + 1 => wD l i m * wf l i (l.length - 1 - m)
def wgt (l : List Int) (i : Nat) : Int := wU l i l.length
theorem wU_wD (l : List Int) (i m : Nat) (h : m ≤ l.length) : wU l i (l.length - m) * wD l i m = wgt l i := by
  induction m with
  | zero => simp [wD, wgt]
  | succ m ih =>
    rw [← ih (by omega)]
    obtain ⟨q, hq⟩ : ∃ q, l.length - m = q + 1 := ⟨l.length - m - 1, by omega⟩
    have h1 : l.length - (m + 1) = q := by omega
    have h2 : l.length - 1 - m = q := by omega
    rw [hq, h1]
    show wU l i q * (wD l i m * wf l i (l.length - 1 - m)) = wU l i q * wf l i q * wD l i m
    rw [h2]; grind
theorem wD_all (l : List Int) (i : Nat) : wD l i l.length = wgt l i := by
  have := wU_wD l i l.length (Nat.le_refl _)
  rw [Nat.sub_self] at this
  rw [← this]; simp [wU]
def exS (t at_ : List Int) : Nat → Int
  | 0 => 0
  | n + 1 => exS t at_ n + nth t n * wgt at_ n
def ext (t at_ : List Int) : Int := exS t at_ t.length
def unitT (n i : Nat) : List Int := (List.replicate n (0 : Int)).set i 1
theorem unitT_length (n i : Nat) : (unitT n i).length = n := by simp [unitT]
theorem unitT_nth (n i j : Nat) (h : j < n) : nth (unitT n i) j = if i = j then 1 else 0 := by
  unfold nth unitT
  simp only [List.getD_eq_getElem?_getD, List.getElem?_set, List.getElem?_replicate, List.length_replicate]
  by_cases e : i = j
  · subst e; simp [h]
  · simp [e, h]
theorem exS_unit (n i : Nat) (at_ : List Int) (m : Nat) (hm : m ≤ n) : exS (unitT n i) at_ m = if i < m then wgt at_ i else 0 := by
  induction m with
  | zero => simp [exS]
  | succ m ih =>
    simp only [exS]
    rw [ih (by omega), unitT_nth n i m (by omega)]
    by_cases h1 : i < m
    · rw [if_pos h1, if_neg (by omega), if_pos (by omega)]; simp
    · rw [if_neg h1]
      by_cases h2 : i = m
      · subst h2; rw [if_pos rfl, if_pos (by omega)]; simp
      · rw [if_neg h2, if_neg (by omega)]; simp
theorem ext_unit (n i : Nat) (at_ : List Int) (h : i < n) : ext (unitT n i) at_ = wgt at_ i := by
  unfold ext
  rw [unitT_length, exS_unit n i at_ n (Nat.le_refl _), if_pos h]
theorem dig_cons (v i k : Nat) : dig (v + 1) i (k + 1) = dig v i k := by
  unfold dig; rw [show v + 1 - 1 - (k + 1) = v - 1 - k by omega]
theorem wf_cons (r : Int) (l : List Int) (i k : Nat) : wf (r :: l) i (k + 1) = wf l i k := by
  unfold wf
  rw [List.length_cons, dig_cons]
  rfl
theorem wU_cons (r : Int) (l : List Int) (i k : Nat) : wU (r :: l) i (k + 1) = wf (r :: l) i 0 * wU l i k := by
  induction k with
  | zero => simp [wU]
  | succ k ih =>
    have e : wU (r :: l) i (k + 1 + 1) = wU (r :: l) i (k + 1) * wf (r :: l) i (k + 1) := rfl
    rw [e, ih, wf_cons, Int.mul_assoc]; rfl
theorem wgt_nil (i : Nat) : wgt [] i = 1 := rfl
theorem wgt_cons (r : Int) (l : List Int) (i : Nat) : wgt (r :: l) i = (if i / 2 ^ l.length % 2 = 1 then r else 1 - r) * wgt l i := by
  unfold wgt
  rw [List.length_cons, wU_cons]
  congr 1
theorem dig_mod (v i k : Nat) (hk : k < v) : dig v (i % 2 ^ v) k = dig v i k := by
  unfold dig
  have h1 : v - 1 - k + 1 + k = v := by omega
  have e : (2 : Nat) ^ v = 2 ^ (v - 1 - k) * (2 * 2 ^ k) := by
    rw [← Nat.mul_assoc, ← Nat.pow_succ, ← Nat.pow_add, h1]
  rw [e, Nat.mod_mul_right_div_self, Nat.mod_mul_right_mod]
theorem wU_mod (l : List Int) (i k : Nat) (hk : k ≤ l.length) : wU l (i % 2 ^ l.length) k = wU l i k := by
  induction k with
  | zero => rfl
  | succ k ih =>
    simp only [wU]
    rw [ih (by omega)]
    congr 1
    unfold wf; rw [dig_mod _ _ _ (by omega)]
theorem wgt_mod (l : List Int) (i : Nat) : wgt l (i % 2 ^ l.length) = wgt l i := wU_mod l i _ (Nat.le_refl _)
end Go.Att
/-! Tables with their first variables fixed; sums over wires: plain laws. No program in sight. -/
namespace Go.Att
def sumN (f : Nat → Int) : Nat → Int
  | 0 => 0
  | n + 1 => sumN f n + f n
theorem sumN_congr {f g : Nat → Int} (n : Nat) (h : ∀ i, i < n → f i = g i) : sumN f n = sumN g n := by
  induction n with
  | zero => rfl
  | succ n ih => simp only [sumN]; rw [ih (fun i hi => h i (by omega)), h n (by omega)]
theorem sumN_split (f : Nat → Int) (n m : Nat) : sumN f (n + m) = sumN f n + sumN (fun i => f (i + n)) m := by
  induction m with
  | zero => simp [sumN]
  | succ m ih => rw [← Nat.add_assoc]; simp only [sumN]; rw [ih, Nat.add_comm m n]; omega
theorem sumN_plus (f g : Nat → Int) (n : Nat) : sumN f n + sumN g n = sumN (fun i => f i + g i) n := by
  induction n with
  | zero => rfl
  | succ n ih => simp only [sumN]; rw [← ih]; omega
theorem sumN_mod (p : Int) {f g : Nat → Int} (n : Nat) (h : ∀ i, i < n → f i % p = g i % p) : sumN f n % p = sumN g n % p := by
  induction n with
  | zero => rfl
  | succ n ih =>
    simp only [sumN]
    rw [Int.add_emod, ih (fun i hi => h i (by omega)), h n (by omega), ← Int.add_emod]
theorem sumN_one (f : Nat → Int) (n k : Nat) (h : ∀ i, i < n → i ≠ k → f i = 0) : sumN f n = if k < n then f k else 0 := by
  induction n with
  | zero => simp [sumN]
  | succ n ih =>
    simp only [sumN]
    rw [ih (fun i hi => h i (by omega))]
    by_cases h1 : k < n
    · rw [if_pos h1, if_pos (by omega), h n (by omega) (by omega)]; omega
    · rw [if_neg h1]
      by_cases h2 : k = n
      · subst h2; rw [if_pos (by omega)]; omega
      · rw [if_neg (by omega), h n (by omega) (by omega)]; rfl
theorem exS_sumN (t l : List Int) (n : Nat) : exS t l n = sumN (fun i => nth t i * wgt l i) n := by
  induction n with
  | zero => rfl
  | succ n ih => simp only [exS, sumN]; rw [ih]
theorem ext_cons (t : List Int) (r : Int) (l : List Int) (h : t.length = 2 ^ (l.length + 1)) :
    ext t (r :: l) = sumN (fun i => ((1 - r) * nth t i + r * nth t (i + 2 ^ l.length)) * wgt l i) (2 ^ l.length) := by
  unfold ext
  rw [exS_sumN, h, Nat.pow_succ, Nat.mul_two, sumN_split, sumN_plus]
  refine sumN_congr _ fun i hi => ?_
  have e1 : wgt (r :: l) i = (1 - r) * wgt l i := by
    rw [wgt_cons, Nat.div_eq_of_lt hi]; rfl
  have e2 : wgt (r :: l) (i + 2 ^ l.length) = r * wgt l i := by
    rw [wgt_cons, Nat.add_div_right _ (Nat.two_pow_pos _), Nat.div_eq_of_lt hi]
    rw [← wgt_mod l (i + 2 ^ l.length), Nat.add_mod_right, wgt_mod]; rfl
  rw [e1, e2]; grind
def fixL (p : Int) (t : List Int) (r : Int) : List Int := (List.range (t.length / 2)).map fun i => fadd p (fmul p (nth t i) (fsub p 1 r)) (fmul p (nth t (i + t.length / 2)) r)
theorem fixL_length (p : Int) (t : List Int) (r : Int) : (fixL p t r).length = t.length / 2 := by simp [fixL]
theorem nth_map_range (f : Nat → Int) (n i : Nat) (h : i < n) : nth ((List.range n).map f) i = f i := by
  simp [nth, List.getD_eq_getElem?_getD, h]
theorem fixL_nth (p : Int) (t : List Int) (r : Int) (i : Nat) (h : i < t.length / 2) : nth (fixL p t r) i = ((1 - r) * nth t i + r * nth t (i + t.length / 2)) % p := by
  unfold fixL
  rw [nth_map_range _ _ _ h]
  simp only [fadd, fmul, fsub, em_r, ea_l, ea_r]
  congr 1; grind
theorem ext_fixL (p : Int) (t : List Int) (r : Int) (l : List Int) (h : t.length = 2 ^ (l.length + 1)) : ext (fixL p t r) l % p = ext t (r :: l) % p := by
  rw [ext_cons t r l h]
  have hh : t.length / 2 = 2 ^ l.length := by rw [h, Nat.pow_succ]; omega
  unfold ext
  rw [exS_sumN, fixL_length, hh]
  refine sumN_mod p _ fun i hi => ?_
  rw [fixL_nth p t r i (by omega), hh, em_l]
def fixAll (p : Int) : List Int → List Int → List Int
  | t, [] => t
  | t, r :: s => fixAll p (fixL p t r) s
theorem fixAll_snoc (p : Int) (t s : List Int) (r : Int) : fixAll p t (s ++ [r]) = fixL p (fixAll p t s) r := by
  induction s generalizing t with
  | nil => rfl
  | cons x s ih => exact ih _
theorem fixAll_length (p : Int) (t s : List Int) (n : Nat) (h : t.length = 2 ^ (s.length + n)) : (fixAll p t s).length = 2 ^ n := by
  induction s generalizing t with
  | nil => show t.length = _; simpa using h
  | cons x s ih => exact ih _ (by rw [fixL_length, h, List.length_cons, show s.length + 1 + n = s.length + n + 1 by omega, Nat.pow_succ]; omega)
theorem ext_fixAll (p : Int) (t s l : List Int) (h : t.length = 2 ^ (s.length + l.length)) : ext (fixAll p t s) l % p = ext t (s ++ l) % p := by
  induction s generalizing t with
  | nil => rfl
  | cons x s ih =>
    have h2 : t.length = 2 ^ ((s ++ l).length + 1) := by rw [h, List.length_append, List.length_cons]; congr 1; omega
    show ext (fixAll p (fixL p t x) s) l % p = _
    rw [ih (fixL p t x) (by rw [fixL_length, h2, Nat.pow_succ, List.length_append]; omega), ext_fixL p t x (s ++ l) h2]
    rfl
def bitsL : Nat → Nat → List Int
  | 0, _ => []
  | v + 1, i => ((i / 2 ^ v % 2 : Nat) : Int) :: bitsL v i
theorem bitsL_length (v i : Nat) : (bitsL v i).length = v := by
  induction v with
  | zero => rfl
  | succ v ih => simp [bitsL, ih]
theorem wgt_bits (v i j : Nat) : wgt (bitsL v i) j = if j % 2 ^ v = i % 2 ^ v then 1 else 0 := by
  induction v with
  | zero => simp [bitsL, wgt_nil, Nat.mod_one]
  | succ v ih =>
    rw [bitsL, wgt_cons, bitsL_length, ih]
    have hi := Nat.mod_pow_succ (x := i) (b := 2) (k := v)
    have hj := Nat.mod_pow_succ (x := j) (b := 2) (k := v)
    have hp := Nat.two_pow_pos v
    have li := Nat.mod_lt i hp
    have lj := Nat.mod_lt j hp
    rw [hi, hj]
    rcases Nat.mod_two_eq_zero_or_one (i / 2 ^ v) with a | a <;> rcases Nat.mod_two_eq_zero_or_one (j / 2 ^ v) with b | b <;> rw [a, b] <;> simp
    · intro h; omega
    · intro h; omega
theorem ext_bits (t : List Int) (v i : Nat) (h : t.length = 2 ^ v) : ext t (bitsL v i) = nth t (i % 2 ^ v) := by
  unfold ext
  have hp := Nat.two_pow_pos v
  have hl := Nat.mod_lt i hp
  rw [exS_sumN, sumN_one _ _ (i % 2 ^ v) (fun j hj hne => by
    rw [wgt_bits, Nat.mod_eq_of_lt (by omega), if_neg hne, Int.mul_zero]), h, if_pos hl, wgt_bits, Nat.mod_mod, if_pos rfl, Int.mul_one]
theorem half_is (p : Int) (t s : List Int) (n i : Nat) (hs : s.length ≤ n) (h : t.length = 2 ^ n) : nth (fixAll p t s) (i % 2 ^ (n - s.length)) % p = ext t (s ++ bitsL (n - s.length) i) % p := by
  have e : t.length = 2 ^ (s.length + (n - s.length)) := by rw [h]; congr 1; omega
  rw [← ext_bits _ _ _ (fixAll_length p t s (n - s.length) e), ext_fixAll p t s _ (by rw [bitsL_length]; exact e)]

/-! The wires. -/
def sh (n : Nat) (s : List Int) (A : Nat) : Int := wgt s (A / 2 ^ (n - s.length))
theorem nth_take (l : List Int) (m k : Nat) (h : k < m) : nth (l.take m) k = nth l k := by
  simp [nth, List.getD_eq_getElem?_getD, h]
theorem nth_drop (l : List Int) (m k : Nat) : nth (l.drop m) k = nth l (m + k) := by
  simp [nth, List.getD_eq_getElem?_getD, List.getElem?_drop]
end Go.Att
/-! Sums over wires: nothing fixed; one variable more; one variable as a number. Plain laws. -/
namespace Go.Att
/-! Nothing fixed. -/
/-! One variable more. -/
/-! Polynomials of so many numbers. -/
def PolyN (m : Nat) (f : Int → Int) : Prop := ∃ q : List Int, q.length = m ∧ ∀ t, ev q t = f t
theorem PolyN.congr {m : Nat} {f g : Int → Int} (h : PolyN m f) (e : ∀ t, f t = g t) : PolyN m g := by
  obtain ⟨q, h1, h2⟩ := h; exact ⟨q, h1, fun t => by rw [h2, e]⟩
theorem ev_zipAdd (a b : List Int) (h : a.length = b.length) (t : Int) : ev (List.zipWith (· + ·) a b) t = ev a t + ev b t := by
  induction a generalizing b with
  | nil => cases b with
    | nil => rfl
    | cons y b => simp at h
  | cons x a ih =>
    cases b with
    | nil => simp at h
    | cons y b => simp only [List.zipWith_cons_cons, ev]; rw [ih b (by simpa using h)]; grind
theorem ev_zs (m : Nat) (t : Int) : ev (List.replicate m 0) t = 0 := by
  induction m with
  | zero => rfl
  | succ m ih => simp only [List.replicate_succ, ev]; rw [ih]; simp
theorem ev_app_zs (a : List Int) (m : Nat) (t : Int) : ev (a ++ List.replicate m 0) t = ev a t := by
  induction a with
  | nil => rw [List.nil_append, ev_zs]; rfl
  | cons x a ih => simp only [List.cons_append, ev]; rw [ih]
theorem PolyN.add {m : Nat} {f g : Int → Int} (h1 : PolyN m f) (h2 : PolyN m g) : PolyN m fun t => f t + g t := by
  obtain ⟨a, ha, ea⟩ := h1
  obtain ⟨b, hb, eb⟩ := h2
  exact ⟨List.zipWith (· + ·) a b, by simp [ha, hb], fun t => by rw [ev_zipAdd a b (by omega), ea, eb]⟩
theorem PolyN.mono {m n : Nat} {f : Int → Int} (h : PolyN m f) (hn : m ≤ n) : PolyN n f := by
  obtain ⟨a, ha, ea⟩ := h
  exact ⟨a ++ List.replicate (n - m) 0, by simp; omega, fun t => by rw [ev_app_zs, ea]⟩
theorem PolyN.zero (m : Nat) : PolyN m fun _ => 0 := ⟨List.replicate m 0, by simp, fun t => ev_zs m t⟩
/-! A point of a line: the table there is a polynomial. -/
/-! One variable of a layer's sum as a number. -/
end Go.Att
/-! The document's polynomials: plain laws. No program in sight. -/
namespace Go.Att
theorem mmul {p a b c d : Int} (h1 : a % p = b % p) (h2 : c % p = d % p) : (a * c) % p = (b * d) % p := by
  rw [Int.mul_emod, h1, h2, ← Int.mul_emod]
theorem madd {p a b c d : Int} (h1 : a % p = b % p) (h2 : c % p = d % p) : (a + c) % p = (b + d) % p := by
  rw [Int.add_emod, h1, h2, ← Int.add_emod]
theorem sumN_mul (c : Int) (f : Nat → Int) (n : Nat) : c * sumN f n = sumN (fun i => c * f i) n := by
  induction n with
  | zero => simp [sumN]
  | succ n ih => simp only [sumN]; rw [Int.mul_add, ih]
theorem sumN_succ' (f : Nat → Int) (n : Nat) : sumN f (n + 1) = f 0 + sumN (fun i => f (i + 1)) n := by
  induction n with
  | zero => simp [sumN]
  | succ n ih => rw [sumN, ih, sumN]; omega
theorem sumN_zero (n : Nat) : sumN (fun _ => 0) n = 0 := by
  induction n with
  | zero => rfl
  | succ n ih => simp only [sumN]; rw [ih]; rfl
theorem ev_sumN (a : List Int) (x : Int) (m : Nat) (h : a.length ≤ m) : ev a x = sumN (fun i => nth a i * x ^ i) m := by
  induction a generalizing m with
  | nil =>
    rw [sumN_congr (g := fun _ => 0) m (fun i _ => by simp [nth]), sumN_zero]; rfl
  | cons c a ih =>
    obtain ⟨k, rfl⟩ : ∃ k, m = k + 1 := ⟨m - 1, by simp at h; omega⟩
    rw [sumN_succ', ev, ih k (by simpa using h), sumN_mul]
    congr 1
    · simp [nth]
    · refine sumN_congr _ fun i _ => ?_
      show x * (nth a i * x ^ i) = nth a i * x ^ (i + 1)
      rw [Int.pow_succ]; grind
theorem ev_range (f : Nat → Int) (n : Nat) (x : Int) : ev ((List.range n).map f) x = sumN (fun i => f i * x ^ i) n := by
  rw [ev_sumN _ x n (by simp)]
  exact sumN_congr _ fun i hi => by rw [nth_map_range _ _ _ hi]
theorem finv_mul {p : Int} (hp : Pr p) {a : Int} (ha : ¬ p ∣ a) : (finv p a * a) % p = 1 := by
  have h2 := hp.two
  unfold finv
  rw [em_l, ← Int.pow_succ, show (p - 2).toNat.succ = (p - 1).toNat by omega]
  exact fermat hp ha
end Go.Att
end
section
namespace Go.Att
structure In4 where
  op : Int
  a : Int
  b : Int
  c : Int
structure Ms where
  pc : Int
  fp : Int
  ap : Int
  rv : Int
  mem : List (Int × Int)
  acc : List (Int × Int)
inductive Rs where
  | go (v : Int) (s : Ms)
  | no (e : Int)
def Rs.bind : Rs → (Int → Ms → Rs) → Rs
  | .go v s, f => f v s
  | .no e, _ => .no e
def lk (m : List (Int × Int)) (at_ : Int) : Option Int := (m.find? fun c => c.1 == at_).map Prod.snd
def Ms.look (s : Ms) (at_ : Int) : Rs := match lk s.mem at_ with
  | none => .no 10
  | some v => .go v { s with acc := s.acc ++ [(at_, v)] }
def Ms.tell (s : Ms) (at_ is : Int) : Rs := match lk s.mem at_ with
  | some v => if v = is then .go 0 { s with acc := s.acc ++ [(at_, is)] } else .no 7
  | none => .go 0 { s with mem := s.mem ++ [(at_, is)], acc := s.acc ++ [(at_, is)] }
def isCmp (op : Int) : Bool := op == 1 || op == 2 || op == 3 || op == 4 || op == 6
def reck (p op x y : Int) : Int := if op = 1 then fadd p x y else if op = 2 then fsub p x y else if op = 3 then fmul p x y else if op = 4 then fdiv p x y else if x = y then 1 else 0
def Ms.comp (p : Int) (s : Ms) (x : In4) : Rs := (s.look (fadd p s.fp x.a)).bind fun u s => (s.look (fadd p s.fp x.b)).bind fun v s =>
  if x.op = 4 ∧ v = 0 then .no 7 else s.tell (fadd p s.fp x.c) (reck p x.op u v)
def Ms.call (p : Int) (s : Ms) (x : In4) : Rs := (s.tell s.ap s.fp).bind fun _ s => (s.tell (fadd p s.ap 1) (fadd p s.pc 1)).bind fun _ s =>
  .go 0 { s with fp := fadd p s.ap 2, ap := fadd p (fadd p s.ap 2) x.b, pc := fof p x.a }
def Ms.back (p : Int) (s : Ms) (x : In4) : Rs := (s.look (fadd p s.fp (-2))).bind fun f s => (s.look (fadd p s.fp (-1))).bind fun q s => (s.look (fadd p s.fp x.a)).bind fun r s =>
  .go 0 { s with rv := r, fp := f, pc := q }
def Ms.to (n : Int) (_ : Int) (s : Ms) : Rs := .go 0 { s with pc := n }
def Ms.one (p : Int) (s : Ms) (x : In4) : Rs :=
  if isCmp x.op then (s.comp p x).bind (Ms.to (fadd p s.pc 1))
  else if x.op = 5 then (s.tell (fadd p s.fp x.a) (fof p x.b)).bind (Ms.to (fadd p s.pc 1))
  else if x.op = 7 then (s.look (fadd p s.fp x.a)).bind fun u t => (t.look (fadd p s.fp x.b)).bind fun v t => if u = v then Ms.to (fadd p s.pc 1) 0 t else .no 7
  else if x.op = 8 then Ms.to (fof p x.a) 0 s
  else if x.op = 9 then (s.look (fadd p s.fp x.a)).bind fun u t => Ms.to (if u = 0 then fof p x.b else fadd p s.pc 1) 0 t
  else if x.op = 10 then s.call p x
  else if x.op = 11 then s.back p x
  else if x.op = 12 then (s.tell (fadd p s.fp x.a) s.rv).bind (Ms.to (fadd p s.pc 1))
  else if x.op = 13 then (s.look (fadd p s.fp x.a)).bind fun u t => (t.tell (fadd p (fadd p s.ap 2) x.b) u).bind (Ms.to (fadd p s.pc 1))
  else .no 7
structure Okm (p : Int) (s : Ms) : Prop where
  pc : 0 ≤ s.pc ∧ s.pc < p
  fp : 0 ≤ s.fp ∧ s.fp < p
  ap : 0 ≤ s.ap ∧ s.ap < p
  rv : 0 ≤ s.rv ∧ s.rv < p
  mem : ∀ c ∈ s.mem, (0 ≤ c.1 ∧ c.1 < p) ∧ (0 ≤ c.2 ∧ c.2 < p)
  acc : ∀ c ∈ s.acc, lk s.mem c.1 = some c.2
theorem lk_mem {m : List (Int × Int)} {i v : Int} (h : lk m i = some v) : (i, v) ∈ m := by
  unfold lk at h
  rw [Option.map_eq_some_iff] at h
  obtain ⟨⟨a, b⟩, h1, h2⟩ := h
  have h3 := List.find?_some h1
  simp at h3 h2
  subst h3 h2
  exact List.mem_of_find?_eq_some h1
theorem lk_app (m : List (Int × Int)) (i j v : Int) : lk (m ++ [(i, v)]) j = match lk m j with | some x => some x | none => if i = j then some v else none := by
  unfold lk
  rw [List.find?_append]
  cases h : m.find? (fun c => c.1 == j) with
  | some x => simp
  | none => by_cases e : i = j <;> simp [e]
theorem lk_new {m : List (Int × Int)} {i v : Int} (h : lk m i = none) : lk (m ++ [(i, v)]) i = some v := by rw [lk_app, h]; simp
section
variable {p : Int} {s s' : Ms} {i v x : Int}
theorem Okm.val (h : Okm p s) (hl : lk s.mem i = some v) : 0 ≤ v ∧ v < p := (h.mem _ (lk_mem hl)).2
end
structure Aft (p : Int) (s s' : Ms) (k : Nat) : Prop where
  ok : Okm p s'
  len : s'.acc.length ≤ s.acc.length + k
  keep : ∀ j y, lk s.mem j = some y → lk s'.mem j = some y
  size : s'.mem.length ≤ s.mem.length + k
theorem Aft.trans {p : Int} {s t u : Ms} {j k : Nat} (h1 : Aft p s t j) (h2 : Aft p t u k) : Aft p s u (j + k) :=
  ⟨h2.ok, by have := h1.len; have := h2.len; omega, fun i y hy => h2.keep _ _ (h1.keep _ _ hy), by have := h1.size; have := h2.size; omega⟩
theorem Aft.le {p : Int} {s t : Ms} {j k : Nat} (h1 : Aft p s t j) (h : j ≤ k) : Aft p s t k := ⟨h1.ok, by have := h1.len; omega, h1.keep, by have := h1.size; omega⟩
end Go.Att
end
section
namespace Go.Att
open Go.Maps Go.RowKit
structure MemD {H : Type} (D : DataW H) (mem : List (Int × Int)) : Prop where
  tidy : Tidy D
  has : ∀ k : Int, Maps.has D (.int .i64 k) = (lk mem k).isSome
  at_ : ∀ (k v : Int) (z : DataW H), lk mem k = some v → D.atKey (.int .i64 k) z = .lit (.int .i64 v)
section
variable {H : Type} {D : DataW H} {mem : List (Int × Int)}
theorem MemD.nil : MemD (.map [] : DataW H) [] := ⟨tidy_empty, fun k => rfl, fun k v z h => by cases h⟩
theorem lit_ne {k k' : Int} (h : k' ≠ k) : (Lit.int .i64 k' : Lit) ≠ .int .i64 k := fun e => h (by injection e)
theorem MemD.tell (h : MemD D mem) {k v : Int} (hk : WideAt.IsKeyLit (Lit.int .i64 k)) (hl : lk mem k = none) : MemD (D.put (.int .i64 k) (.lit (.int .i64 v))) (mem ++ [(k, v)]) := by
  refine ⟨h.tidy.put hk _, fun j => ?_, fun j u z hj => ?_⟩
  · by_cases e : j = k
    · subst e; rw [has_put_same h.tidy.isMap hk, lk_new hl]; rfl
    · rw [has_put_other (lit_ne e), h.has, lk_app]
      cases hj : lk mem j with
      | some x => rfl
      | none => simp [Ne.symm e]
  · by_cases e : j = k
    · subst e
      rw [lk_new hl] at hj; cases hj
      exact atKey_put_same h.tidy.isMap hk _ _
    · rw [atKey_put_other (lit_ne e)]
      rw [lk_app] at hj
      cases hx : lk mem j with
      | some x => rw [hx] at hj; cases hj; exact h.at_ _ _ _ hx
      | none => rw [hx] at hj; simp [Ne.symm e] at hj
theorem MemD.again (h : MemD D mem) {k v : Int} (hk : WideAt.IsKeyLit (Lit.int .i64 k)) (hl : lk mem k = some v) : MemD (D.put (.int .i64 k) (.lit (.int .i64 v))) mem := by
  refine ⟨h.tidy.put hk _, fun j => ?_, fun j u z hj => ?_⟩
  · by_cases e : j = k
    · subst e; rw [has_put_same h.tidy.isMap hk, hl]; rfl
    · rw [has_put_other (lit_ne e), h.has]
  · by_cases e : j = k
    · subst e
      rw [hl] at hj; cases hj
      exact atKey_put_same h.tidy.isMap hk _ _
    · rw [atKey_put_other (lit_ne e)]; exact h.at_ _ _ _ hj
end
def Tmem (P : Program) (K : TypeId) (w : World) (mb : Nat) (n : Int) (mem : List (Int × Int)) : Prop := ∃ (c : Nat) (D : DataW Unit), (c : Int) ≤ n ∧ w.ownsMap P K (plainElem P K) mb c D ∧ MemD D mem
section
variable {P : Program} {K T : TypeId} {w w' : World} {mb : Nat} {n : Int} {mem : List (Int × Int)}
theorem wf_small {k : Int} (h0 : 0 ≤ k) (h1 : k ≤ 2147483647) : (Lit.int .i64 k).wf = true := WalkArith.wf_i64 (by omega)
theorem Tmem.lt (h : Tmem P K w mb n mem) : mb < w.heap.size := by obtain ⟨c, D, _, h2, _⟩ := h; exact h2.lt
theorem Tmem.kept (h : Tmem P K w mb n mem) {row : Option Nat} (hg : w.grownBy w' row) (hne : some mb ≠ row) : Tmem P K w' mb n mem := by
  obtain ⟨c, D, h1, h2, h3⟩ := h; exact ⟨c, D, h1, h2.kept hg hne, h3⟩
theorem Tmem.mono (h : Tmem P K w mb n mem) {m : Int} (hm : n ≤ m) : Tmem P K w mb m mem := by
  obtain ⟨c, D, h1, h2, h3⟩ := h; exact ⟨c, D, Int.le_trans h1 hm, h2, h3⟩
variable (hk : P.underlying K = some (.int .i64)) (ht : P.underlying T = some (.map K K)) (hz : ∀ w, (zeroValue K).run P w = .ok (.int .i64 0) w)
include hk ht hz
theorem Tmem.look (h : Tmem P K w mb n mem) {k v : Int} (h0 : 0 ≤ k) (h1 : k ≤ 2147483647) (hl : lk mem k = some v) : (Instr.lookup T (.map (some mb)) (.int .i64 k) false).run P w = .ok (.int .i64 v) w := by
  obtain ⟨c, D, _, h2, h3⟩ := h
  obtain ⟨u, hr, ha, _⟩ := h2.lookup_int (int_keyed hk) ht hk (hz w) (keyOf_int_mk hk (wf_small h0 h1))
  rw [h3.at_ _ _ _ hl] at ha
  injection ha with ha
  injection ha with _ ha
  rw [ha]; exact hr
omit hz in
theorem Tmem.store (h : Tmem P K w mb n mem) (hn : n < 9223372036854775807) {k v : Int} (h0 : 0 ≤ k) (h1 : k ≤ 2147483647) (h2 : 0 ≤ v) (h3 : v ≤ 2147483647) {mem' : List (Int × Int)} (hm : (lk mem k = none ∧ mem' = mem ++ [(k, v)]) ∨ (lk mem k = some v ∧ mem' = mem)) :
    ∃ w', (Instr.mapUpdate T (.map (some mb)) (.int .i64 k) (.int .i64 v)).run P w = .ok () w' ∧ Tmem P K w' mb (n + 1) mem' ∧ w.grownBy w' (some mb) := by
  obtain ⟨c, D, hc, ho, hd⟩ := h
  obtain ⟨w', hr, ho', hg⟩ := ho.update (int_keyed hk) ht (by unfold maxLen; omega) (keyOf_int_mk hk (wf_small h0 h1)) (plainElem_int hk (wf_small h2 h3))
  refine ⟨w', hr, ⟨c + 1, _, by omega, ho', ?_⟩, hg⟩
  rcases hm with ⟨hl, rfl⟩ | ⟨hl, rfl⟩
  · exact hd.tell trivial hl
  · exact hd.again trivial hl
end
def BlkOf (w : World) (b : Nat) (cs : List Value) (t : TypeId) : Prop := w.heap[b]? = some (.cells cs.toArray t (0, 0))
section
variable {w w' : World} {b : Nat} {cs : List Value} {t : TypeId}
theorem BlkOf.cell (h : BlkOf w b cs t) (i : Nat) : w.cell? ⟨b, i, none⟩ = cs[i]? := by unfold BlkOf at h; simp [World.cell?, h]
theorem BlkOf.free (h : BlkOf w b cs t) (i : Nat) : w.frozen? ⟨b, i, none⟩ = false := by unfold BlkOf at h; simp [World.frozen?, h]
theorem BlkOf.lt (h : BlkOf w b cs t) : b < w.heap.size := lt_of_block h
theorem BlkOf.set (h : BlkOf w b cs t) (i : Nat) (v : Value) : BlkOf (w.setCell ⟨b, i, none⟩ v) b (cs.set i v) t := by
  have hlt := h.lt
  unfold BlkOf at *
  have h' : w.heap[b] = .cells cs.toArray t (0, 0) := by simpa [Array.getElem?_eq_getElem hlt] using h
  show (w.heap.modify b _)[b]? = _
  rw [Array.getElem?_eq_getElem (by simpa using hlt), Array.getElem_modify_self, h']
  simp
theorem BlkOf.grown (h : BlkOf w b cs t) {row : Option Nat} (hg : w.grownBy w' row) (hne : some b ≠ row) : BlkOf w' b cs t := by
  unfold BlkOf at *; rw [hg.block b (lt_of_block h) hne]; exact h
theorem BlkOf.ext (h : BlkOf w b cs t) (hx : Ext w w') : BlkOf w' b cs t := h.grown (hx.grownBy none) (by simp)
theorem BlkOf.new (w : World) (cs : List Value) (t : TypeId) : BlkOf (w.alloc (.cells cs.toArray t)) w.heap.size cs t := by
  unfold BlkOf; exact heap_alloc_new _ _
end
theorem grown_one {W w w' : World} {b : Option Nat} (h : W.grownBy w b) (k : w.grownBy w' b) : W.grownBy w' b :=
  ⟨k.os.trans h.os, k.tape.trans h.tape, k.output.trans h.output, Nat.le_trans h.size k.size, fun q hq hne => by rw [k.block q (Nat.lt_of_lt_of_le hq h.size) hne]; exact h.block q hq hne⟩
structure Turned (b c : Nat) (w w' : World) : Prop where
  os : w'.os = w.os
  tape : w'.tape = w.tape
  output : w'.output = w.output
  size : w.heap.size ≤ w'.heap.size
  block : ∀ q, q < w.heap.size → q ≠ b → q ≠ c → w'.heap[q]? = w.heap[q]?
section
variable {b c : Nat} {w w' w'' : World}
theorem Turned.refl (b c : Nat) (w : World) : Turned b c w w := ⟨rfl, rfl, rfl, Nat.le_refl _, fun _ _ _ _ => rfl⟩
theorem Turned.trans (h : Turned b c w w') (k : Turned b c w' w'') : Turned b c w w'' :=
  ⟨k.os.trans h.os, k.tape.trans h.tape, k.output.trans h.output, Nat.le_trans h.size k.size, fun q h1 h2 h3 => (k.block q (Nat.lt_of_lt_of_le h1 h.size) h2 h3).trans (h.block q h1 h2 h3)⟩
theorem Turned.one (hg : w.grownBy w' (some b)) : Turned b c w w' := ⟨hg.os, hg.tape, hg.output, hg.size, fun q h1 h2 _ => hg.block q h1 (fun e => h2 (Option.some.inj e))⟩
theorem Turned.two (hg : w.grownBy w' (some c)) : Turned b c w w' := ⟨hg.os, hg.tape, hg.output, hg.size, fun q h1 _ h3 => hg.block q h1 (fun e => h3 (Option.some.inj e))⟩
theorem Turned.of_ext (hx : Ext w w') : Turned b c w w' := Turned.one (hx.grownBy _)
theorem Turned.ext {w0 : World} (h : Turned b c w w') (hx : Ext w0 w) (hb : w0.heap.size ≤ b) (hc : w0.heap.size ≤ c) : Ext w0 w' :=
  ⟨h.os.trans hx.below.os, h.tape.trans hx.below.tape, h.output.trans hx.below.output, Nat.le_trans hx.size h.size, fun q hq => (h.block q (Nat.lt_of_lt_of_le hq hx.size) (by omega) (by omega)).trans (hx.below.block q hq)⟩
theorem Turned.blk (h : Turned b c w w') {q : Nat} {cs : List Value} {t : TypeId} (hk : BlkOf w q cs t) (h1 : q ≠ b) (h2 : q ≠ c) : BlkOf w' q cs t := by
  unfold BlkOf at *; rw [h.block q (lt_of_block hk) h1 h2]; exact hk
theorem Turned.cell (h : Turned b c w w') {a : Addr} {v : Value} (hk : w.cell? a = some v) (h1 : a.block ≠ b) (h2 : a.block ≠ c) : w'.cell? a = some v := by
  rw [World.cell?_of_block (h.block a.block (World.block_lt_of_cell? w a hk) h1 h2)]; exact hk
theorem Turned.own (h : Turned b c w w') {B e sz n : Nat} {v : Value} {xs : List Value} (ho : w.ownsRow B e sz v n xs) (h1 : v.ownBlock ≠ some b) (h2 : v.ownBlock ≠ some c) : w'.ownsRow B e sz v n xs := by
  refine ⟨ho.1, ?_⟩
  rcases ho.2 with h3 | ⟨g, cap, cur, hv, hb, hg, hr⟩
  · exact .inl h3
  · subst hv
    exact .inr ⟨g, cap, cur, rfl, hb, by rw [h.block g (lt_of_block hg) (fun e => h1 (by simp [Value.ownBlock, e])) (fun e => h2 (by simp [Value.ownBlock, e]))]; exact hg, hr⟩
end
end Go.Att
end
section
namespace Go.Att
open Go.Maps Go.RowKit
def selfR (v : Value) : Option (DataW Value × List MemPlace) := some (.held v, [])
def Mpv (P : Program) (K : TypeId) (w : World) (mb n : Nat) (M : Value → Option Value) : Prop :=
  ∃ D : DataW Value, w.ownsMap P K selfR mb n D ∧ ∀ key l, keyOf P K key = some l → ∀ z, D.atKey l (.held z) = .held ((M key).getD z)
section
variable {P : Program} {K E T : TypeId} {w w' : World} {mb n : Nat} {M : Value → Option Value}
theorem Mpv.lt (h : Mpv P K w mb n M) : mb < w.heap.size := by obtain ⟨D, h2, _⟩ := h; exact h2.lt
theorem Mpv.kept (h : Mpv P K w mb n M) {row : Option Nat} (hg : w.grownBy w' row) (hne : some mb ≠ row) : Mpv P K w' mb n M := by
  obtain ⟨D, h2, h3⟩ := h; exact ⟨D, h2.kept hg hne, h3⟩
theorem Mpv.ext (h : Mpv P K w mb n M) (hx : Ext w w') : Mpv P K w' mb n M := h.kept (hx.grownBy none) (by simp)
theorem Mpv.turned (h : Mpv P K w mb n M) {b c : Nat} (ht : Turned b c w w') (h1 : mb ≠ b) (h2 : mb ≠ c) : Mpv P K w' mb n M := by
  obtain ⟨D, ⟨es, clock, hb, F, hs, hD⟩, h3⟩ := h
  exact ⟨D, ⟨es, clock, (ht.block mb (Array.getElem?_eq_some_iff.1 hb).1 h1 h2).trans hb, F, hs, hD⟩, h3⟩
theorem Mpv.mono (h : Mpv P K w mb n M) {m : Nat} (hm : n ≤ m) : Mpv P K w mb m M := by
  obtain ⟨D, h2, h3⟩ := h; exact ⟨D, h2.mono hm, h3⟩
theorem Mpv.congr (h : Mpv P K w mb n M) {M' : Value → Option Value} (he : ∀ key l, keyOf P K key = some l → M' key = M key) : Mpv P K w mb n M' := by
  obtain ⟨D, h2, h3⟩ := h; exact ⟨D, h2, fun key l hk z => by rw [he key l hk]; exact h3 key l hk z⟩
theorem Mpv.made (w : World) : Mpv P K (w.alloc (.map #[] 0)) w.heap.size 0 (fun _ => none) := ⟨.map [], World.ownsMap_made _ _ _ _, fun _ _ _ _ => rfl⟩
theorem Mpv.notCells (h : Mpv P K w mb n M) : ∀ r, some mb = some r → ∃ o : Obj, w.heap[r]? = some o ∧ o.isCells = false := by
  obtain ⟨D, ⟨es, clock, hb, _⟩, _⟩ := h
  intro r hr
  cases hr
  exact ⟨_, hb, rfl⟩
variable (hk : Keyed P K) (ht : P.underlying T = some (.map K E))
include hk ht
theorem Mpv.look (h : Mpv P K w mb n M) {z : Value} (hz : (zeroValue E).run P w = .ok z w) {key : Value} {l : Lit} (hkey : keyOf P K key = some l) : (Instr.lookup T (.map (some mb)) key false).run P w = .ok ((M key).getD z) w := by
  obtain ⟨D, h2, h3⟩ := h
  obtain ⟨v, ps, hr, hv⟩ := h2.lookup hk ht hz (zd := .held z) (zp := []) rfl hkey
  rw [h3 key l hkey z] at hv
  unfold selfR at hv
  injection hv with hv
  injection hv with hv _
  injection hv with hv
  rw [hr, hv]
theorem Mpv.put (h : Mpv P K w mb n M) (hn : n < 9223372036854775807) {key v : Value} {l : Lit} (hkey : keyOf P K key = some l) {M' : Value → Option Value} (h1 : M' key = some v) (h2 : ∀ key' l', keyOf P K key' = some l' → key' ≠ key → M' key' = M key') :
    ∃ w', (Instr.mapUpdate T (.map (some mb)) key v).run P w = .ok () w' ∧ Mpv P K w' mb (n + 1) M' ∧ w.grownBy w' (some mb) := by
  obtain ⟨D, ho, hd⟩ := h
  obtain ⟨w', hr, ho', hg⟩ := ho.update hk ht (by unfold maxLen; omega) hkey (show selfR v = some (.held v, []) from rfl)
  refine ⟨w', hr, ⟨_, ho', fun key' l' hk' z => ?_⟩, hg⟩
  by_cases e : l' = l
  · subst e
    rw [hk.inj hk' hkey, h1, atKey_put_same (ho.isMap) (hk.key hk')]
    rfl
  · rw [atKey_put_other e, h2 key' l' hk' (fun e2 => e (by rw [e2, hkey] at hk'; exact (Option.some.inj hk').symm)), hd key' l' hk' z]
end
def grpL (m : Int → Int → Option Value) : List Value → Option Value
  | [.int .i64 a, .int .i64 b] => m a b
  | _ => none
def grpM (m : Int → Int → Option Value) : Value → Option Value
  | .agg xs => grpL m xs.toList
  | _ => none
theorem grpM_at (m : Int → Int → Option Value) (a b : Int) : grpM m (.agg #[.int .i64 a, .int .i64 b]) = m a b := rfl
theorem grpL_upd {m m' : Int → Int → Option Value} {a b : Int} (hm : ∀ x y, ¬ (x = a ∧ y = b) → m' x y = m x y) {l : List Value} (hne : l ≠ [.int .i64 a, .int .i64 b]) : grpL m' l = grpL m l := by
  unfold grpL
  split
  · rename_i x y
    exact hm x y (fun h => hne (by rw [h.1, h.2]))
  · rfl
end Go.Att
end
