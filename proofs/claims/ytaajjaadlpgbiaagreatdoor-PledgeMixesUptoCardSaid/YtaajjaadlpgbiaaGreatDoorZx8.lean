/- A polynomial parted by a linear factor, the program's way: plain laws. No program in sight. The loop of poly.Vanish: what the next list is behind so many steps: plain laws. No program in sight. The loops of poly.Fit and poly.Eval: what stands behind so many steps: plain laws. No program in sight. poly.Vanish: contract. -/
import Derived.Test.YtaajjaadlpgbiaaGreatDoorZx7
import Derived.Test.YtaajjaadlpgbiaaGreatDoorGb
section
namespace Go.Att
/-- What a list is at x, from its top down. -/
def hv (p x : Int) : List Int → Int
  | [] => 0
  | c :: l => (c + hv p x l * x) % p
/-- .. and what is left of the list by its factor. -/
def hq (p x : Int) : List Int → List Int
  | [] => []
  | _ :: l => hv p x l :: hq p x l
theorem hq_length (p x : Int) : ∀ l, (hq p x l).length = l.length
  | [] => rfl
  | _ :: l => by simp [hq, hq_length p x l]
theorem hq_nth (p x : Int) : ∀ (l : List Int) (k : Nat), k < l.length → nth (hq p x l) k = hv p x (l.drop (k + 1))
  | [], _, h => by simp at h
  | _ :: l, 0, _ => by simp [hq, nth]
  | _ :: l, k + 1, h => by
    have h2 := hq_nth p x l k (by simpa using h)
    simpa [hq, nth] using h2
theorem hv_ev (p x : Int) : ∀ l, hv p x l % p = ev l x % p
  | [] => rfl
  | c :: l => by
    have h := hv_ev p x l
    simp only [hv, ev, Int.emod_emod_of_dvd _ (Int.dvd_refl p)]
    rw [Int.add_emod, Int.mul_emod, h, ← Int.mul_emod, ← Int.add_emod, Int.mul_comm]
theorem hq_part (p x t : Int) : ∀ l, ev l t % p = ((t - x) * ev (hq p x l) t + hv p x l) % p
  | [] => by simp [ev, hq, hv]
  | c :: l => by
    have h := hq_part p x t l
    simp only [hv, ev, hq]
    rw [Int.add_emod c, Int.mul_emod, h, ← Int.mul_emod, ← Int.add_emod]
    rw [Int.add_emod ((t - x) * _), Int.emod_emod_of_dvd _ (Int.dvd_refl p), ← Int.add_emod]
    congr 1
    simp only [Int.mul_add, Int.sub_mul, Int.mul_sub]
    have e1 : t * (t * ev (hq p x l) t) = t * (t * ev (hq p x l) t) := rfl
    have e2 : x * (t * ev (hq p x l) t) = t * (x * ev (hq p x l) t) := by rw [← Int.mul_assoc, ← Int.mul_assoc, Int.mul_comm x t]
    have e3 : hv p x l * x = x * hv p x l := Int.mul_comm _ _
    rw [e2, e3]
    omega
/-- A list times (t - x), the program's way: what was added last goes along. -/
def vstep (p x : Int) : Int → List Int → List Int
  | a, [] => [a]
  | a, y :: l => fsub p a (fmul p x y) :: vstep p x (fadd p 0 y) l
theorem vstep_length (p x : Int) : ∀ (a : Int) (l : List Int), (vstep p x a l).length = l.length + 1
  | _, [] => rfl
  | _, _ :: l => by simp [vstep, vstep_length p x _ l]
theorem vstep_ev (p x t : Int) : ∀ (a : Int) (l : List Int), ev (vstep p x a l) t % p = (a + (t - x) * ev l t) % p
  | a, [] => by simp [vstep, ev]
  | a, y :: l => by
    have h := vstep_ev p x t (fadd p 0 y) l
    simp only [vstep, ev, fsub, fmul, fadd] at h ⊢
    have md : ∀ u : Int, ∃ k, u % p = u + p * k := fun u => ⟨-(u / p), by rw [Int.emod_def, Int.mul_neg]; omega⟩
    generalize ev (vstep p x ((0 + y) % p) l) t = E at h ⊢
    generalize ev l t = e at h ⊢
    obtain ⟨k1, h1⟩ := md (x * y)
    obtain ⟨k2, h2⟩ := md (a - x * y % p)
    obtain ⟨k3, h3⟩ := md (0 + y)
    obtain ⟨k4, h4⟩ := md E
    obtain ⟨k5, h5⟩ := md ((0 + y) % p + (t - x) * e)
    have hE : E = y + (t - x) * e + p * (k3 + k5 - k4) := by
      rw [Int.mul_sub, Int.mul_add]
      omega
    rw [h2, h1, hE, show a - (x * y + p * k1) + p * k2 + t * (y + (t - x) * e + p * (k3 + k5 - k4)) = a + (t - x) * (y + t * e) + p * (k2 - k1 + t * (k3 + k5 - k4)) from ?_, Int.add_mul_emod_self_left]
    have e1 : t * (p * (k3 + k5 - k4)) = p * (t * (k3 + k5 - k4)) := by rw [← Int.mul_assoc, ← Int.mul_assoc, Int.mul_comm t p]
    have e2 : t * ((t - x) * e) = (t - x) * (t * e) := by rw [← Int.mul_assoc, ← Int.mul_assoc, Int.mul_comm t (t - x)]
    have e3 : (t - x) * y = t * y - x * y := Int.sub_mul _ _ _
    rw [Int.mul_add t, Int.mul_add t, e1, e2, Int.mul_add (t - x), e3, Int.mul_add p, Int.mul_sub p]
    omega
/-- What is 0 at the first n points, the program's way. -/
def vanQ (p : Int) (xs : List Int) : Nat → List Int
  | 0 => [1]
  | n + 1 => vstep p (nth xs n) 0 (vanQ p xs n)
theorem vanQ_length (p : Int) (xs : List Int) : ∀ n, (vanQ p xs n).length = n + 1
  | 0 => rfl
  | n + 1 => by rw [vanQ, vstep_length, vanQ_length p xs n]
theorem vanQ_ev (p t : Int) (xs : List Int) : ∀ n, ev (vanQ p xs n) t % p = vanP xs (-1) t n % p
  | 0 => by simp [vanQ, vanP, ev]
  | n + 1 => by
    have h := vanQ_ev p t xs n
    rw [vanQ, vstep_ev, Int.zero_add, Int.mul_emod, h, ← Int.mul_emod, vanP, if_neg (by omega), Int.mul_comm]
theorem vanP_out (xs : List Int) (i : Nat) (t : Int) : ∀ n, n ≤ i → vanP xs (-1) t n = vanP xs i t n
  | 0, _ => rfl
  | n + 1, h => by rw [vanP, vanP, if_neg (by omega), if_neg (by omega), vanP_out xs i t n (by omega)]
theorem vanP_all (xs : List Int) (i : Nat) (t : Int) : ∀ n, i < n → vanP xs (-1) t n = (t - nth xs i) * vanP xs i t n
  | 0, h => by omega
  | n + 1, h => by
    rw [vanP, vanP, if_neg (by omega)]
    by_cases hi : i = n
    · subst hi
      rw [if_pos rfl, Int.mul_comm]
      congr 1
      exact vanP_out xs i t i (Nat.le_refl _)
    · rw [if_neg (by omega), vanP_all xs i t n (by omega), Int.mul_assoc]
theorem cntN_but (i : Nat) : ∀ N, cntN (fun r => decide (r ≠ i)) N + (if i < N then 1 else 0) = N
  | 0 => by simp [cntN]
  | N + 1 => by
    have h := cntN_but i N
    simp only [cntN, decide_eq_true_eq]
    by_cases h1 : N = i
    · subst h1
      rw [if_neg (by omega)] at h
      rw [if_neg (by simp), if_pos (by omega)]; omega
    · rw [if_pos h1]
      by_cases h2 : i < N
      · rw [if_pos h2] at h; rw [if_pos (by omega)]; omega
      · rw [if_neg h2] at h; rw [if_neg (by omega)]; omega
/-- What is left of it by one of its factors is the others' product. -/
theorem hq_van {p : Int} (hp : Pr p) (xs : List Int) (n i : Nat) (hi : i < n) (hx : nth xs i = i) (hn : (n : Int) + 2 ≤ p) (t : Int) : ev (hq p i (vanQ p xs n)) t % p = vanP xs i t n % p := by
  have h1 : PolyN (n + 1) fun t => ev (hq p i (vanQ p xs n)) t := PolyN.mono ⟨_, rfl, fun _ => rfl⟩ (by rw [hq_length, vanQ_length]; exact Nat.le_refl _)
  have h2 : PolyN (n + 1) fun t => ev (vanS p xs i n) t := PolyN.mono ⟨_, rfl, fun _ => rfl⟩ (vanS_length p xs i n)
  have h4 := few_roots hp (PolyN.sub h1 h2) (fun r => decide (r ≠ i)) (n + 2) (by omega) (fun r hr hP => by
    have hri : r ≠ i := by simpa using hP
    apply eq_mod_sub
    rw [ev_van]
    apply mod_sub_eq
    apply Int.emod_eq_zero_of_dvd
    have hz : hv p i (vanQ p xs n) % p = 0 := by
      rw [hv_ev, vanQ_ev, vanP_all xs i _ n hi, hx, Int.sub_self, Int.zero_mul, Int.zero_emod]
    have ha := hq_part p (i : Int) (r : Int) (vanQ p xs n)
    rw [vanQ_ev, vanP_all xs i _ n hi, hx, Int.add_emod, hz, Int.add_zero, Int.emod_emod_of_dvd _ (Int.dvd_refl p)] at ha
    have hd : p ∣ ((r : Int) - i) * (ev (hq p i (vanQ p xs n)) r - vanP xs i r n) := by
      rw [Int.mul_sub]
      exact Int.dvd_of_emod_eq_zero (eq_mod_sub ha.symm)
    rcases hp.euclid hd with h | h
    · exfalso
      obtain ⟨k, hk⟩ := h
      have k0 : k = 0 := by
        rcases Int.lt_trichotomy k 0 with h | h | h
        · have : p * k ≤ p * (-1) := Int.mul_le_mul_of_nonneg_left (by omega) (by omega)
          omega
        · exact h
        · have : p * 1 ≤ p * k := Int.mul_le_mul_of_nonneg_left (by omega) (by omega)
          omega
      rw [k0] at hk
      omega
    · exact h)
  have hc := cntN_but i (n + 2)
  rw [if_pos (by omega)] at hc
  rcases h4 with h4 | h4
  · omega
  · have h5 := mod_sub_eq (h4 t)
    rw [h5, ev_van]
/-- A list is added so many times to another. -/
def addc (p c : Int) : List Int → List Int → List Int
  | s :: ss, q :: qs => fadd p s (fmul p c q) :: addc p c ss qs
  | _, _ => []
theorem addc_length (p c : Int) : ∀ s q : List Int, s.length = q.length → (addc p c s q).length = s.length
  | [], [], _ => rfl
  | _ :: ss, _ :: qs, h => by simp [addc, addc_length p c ss qs (by simpa using h)]
theorem addc_ev (p c t : Int) : ∀ s q : List Int, s.length = q.length → ev (addc p c s q) t % p = (ev s t + c * ev q t) % p
  | [], [], _ => by simp [addc, ev]
  | s :: ss, q :: qs, h => by
    have ih := addc_ev p c t ss qs (by simpa using h)
    simp only [addc, ev, fadd, fmul]
    have md : ∀ u : Int, ∃ k, u % p = u + p * k := fun u => ⟨-(u / p), by rw [Int.emod_def, Int.mul_neg]; omega⟩
    generalize ev (addc p c ss qs) t = E at ih ⊢
    generalize ev ss t = a at ih ⊢
    generalize ev qs t = b at ih ⊢
    obtain ⟨k1, h1⟩ := md (c * q)
    obtain ⟨k2, h2⟩ := md (s + c * q % p)
    obtain ⟨k4, h4⟩ := md E
    obtain ⟨k5, h5⟩ := md (a + c * b)
    have hE : E = a + c * b + p * (k5 - k4) := by rw [Int.mul_sub]; omega
    rw [h2, h1, hE, show s + (c * q + p * k1) + p * k2 + t * (a + c * b + p * (k5 - k4)) = s + t * a + c * (q + t * b) + p * (k1 + k2 + t * (k5 - k4)) from ?_, Int.add_mul_emod_self_left]
    have e1 : t * (p * (k5 - k4)) = p * (t * (k5 - k4)) := by rw [← Int.mul_assoc, ← Int.mul_assoc, Int.mul_comm t p]
    have e2 : t * (c * b) = c * (t * b) := by rw [← Int.mul_assoc, ← Int.mul_assoc, Int.mul_comm t c]
    rw [Int.mul_add t, Int.mul_add t, e1, e2, Int.mul_add c, Int.mul_add p, Int.mul_add p]
    omega
theorem ev_take_zero (t : Int) : ∀ (l : List Int) (n : Nat), l.length = n + 1 → nth l n = 0 → ev (l.take n) t = ev l t
  | [], _, h, _ => by simp at h
  | [c], 0, _, h0 => by simp [nth] at h0; simp [ev, h0]
  | _ :: _ :: _, 0, h, _ => by simp at h
  | c :: l, n + 1, h, h0 => by
    have := ev_take_zero t l n (by simpa using h) (by simpa [nth] using h0)
    simp [ev, this]
/-- What poly.Fit takes of all of them for one point. -/
def fitPt (p : Int) (xs : List Int) (i : Nat) : List Int := (hq p (nth xs i) (vanQ p xs xs.length)).take xs.length
theorem fitPt_length (p : Int) (xs : List Int) (i : Nat) : (fitPt p xs i).length = xs.length := by
  unfold fitPt; rw [List.length_take, hq_length, vanQ_length]; omega
theorem fitPt_ev (p : Int) (xs : List Int) (i : Nat) (t : Int) : ev (fitPt p xs i) t = ev (hq p (nth xs i) (vanQ p xs xs.length)) t := by
  refine ev_take_zero t _ _ (by rw [hq_length, vanQ_length]) ?_
  rw [hq_nth _ _ _ _ (by rw [vanQ_length]; omega), List.drop_eq_nil_of_le (by rw [vanQ_length]; omega)]; rfl
def fitQ (p : Int) (xs ys : List Int) : Nat → List Int
  | 0 => List.replicate xs.length 0
  | i + 1 => addc p (fdiv p (nth ys i) (ev (fitPt p xs i) (nth xs i) % p)) (fitQ p xs ys i) (fitPt p xs i)
theorem fitQ_length (p : Int) (xs ys : List Int) : ∀ i, (fitQ p xs ys i).length = xs.length
  | 0 => by simp [fitQ]
  | i + 1 => by rw [fitQ, addc_length _ _ _ _ (by rw [fitQ_length p xs ys i, fitPt_length]), fitQ_length p xs ys i]
/-- Through numbers at 0, 1, ..: the program's polynomial is everywhere what the document's is. -/
theorem fitQ_ev {p : Int} (hp : Pr p) (ys : List Int) (n : Nat) (hn : (n : Int) + 2 ≤ p) (t : Int) : ∀ i, i ≤ n → ev (fitQ p (idxL n) ys i) t % p = ev (fitS p (idxL n) ys i) t % p
  | 0, _ => by rw [fitQ, fitS, ev_zs]; rfl
  | i + 1, h => by
    have ih := fitQ_ev hp ys n hn t i (by omega)
    have hx := idxL_nth n i (by omega)
    have hv : ∀ s, ev (fitPt p (idxL n) i) s % p = vanP (idxL n) i s n % p := fun s => by
      rw [fitPt_ev, hx, idxL_length]; exact hq_van hp _ n i (by omega) hx hn s
    rw [fitQ, addc_ev _ _ _ _ _ (by rw [fitQ_length, fitPt_length]), ev_fitS, sumN, ← Int.add_emod_emod, ← Int.emod_add_emod, ih, ev_fitS, Int.mul_emod, hv t, ← Int.mul_emod, hv (nth (idxL n) i), ← ev_van, Int.emod_add_emod, Int.add_emod_emod, fitC, idxL_length]
end Go.Att
end
section
namespace Go.Att
/-- What was added last; what stands at a place behind i steps. -/
def vA (p : Int) (out : List Int) (k : Nat) : Int := if k = 0 then 0 else fadd p 0 (nth out (k - 1))
def vW (p x : Int) (out : List Int) (i k : Nat) : Int := if k < i then fsub p (vA p out k) (fmul p x (nth out k)) else if k = i then vA p out i else 0
def vRow (p x : Int) (out : List Int) (i : Nat) : List Int := (List.range (out.length + 1)).map (vW p x out i)
theorem vRow_length (p x : Int) (out : List Int) (i : Nat) : (vRow p x out i).length = out.length + 1 := by simp [vRow]
theorem vRow_nth (p x : Int) (out : List Int) (i k : Nat) (h : k ≤ out.length) : nth (vRow p x out i) k = vW p x out i k := by
  unfold vRow nth
  rw [List.getD_eq_getElem?_getD, List.getElem?_map, List.getElem?_range (by omega)]; rfl
theorem vRow_zero (p x : Int) (out : List Int) : vRow p x out 0 = List.replicate (out.length + 1) 0 := by
  refine List.ext_getElem (by simp [vRow]) fun k h1 h2 => ?_
  simp [vRow, vW, vA]
theorem vRow_step (p x : Int) (out : List Int) (i : Nat) (_h : i < out.length) : ((vRow p x out i).set (i + 1) (fadd p 0 (nth out i))).set i (fsub p (vA p out i) (fmul p x (nth out i))) = vRow p x out (i + 1) := by
  refine List.ext_getElem (by simp [vRow]) fun k h1 h2 => ?_
  simp only [List.getElem_set, vRow, List.getElem_map, List.getElem_range, vW]
  by_cases e1 : i = k
  · subst e1
    rw [if_pos rfl, if_pos (by omega)]
  · rw [if_neg e1]
    by_cases e2 : i + 1 = k
    · subst e2
      rw [if_pos rfl, if_neg (by omega), if_pos rfl]
      simp [vA]
    · rw [if_neg e2]
      by_cases e3 : k < i
      · rw [if_pos e3, if_pos (by omega)]
      · rw [if_neg e3, if_neg (by omega), if_neg (by omega), if_neg (by omega)]
theorem vstep_nth (p x : Int) : ∀ (a : Int) (l : List Int) (k : Nat), k ≤ l.length → nth (vstep p x a l) k = if k < l.length then fsub p (if k = 0 then a else fadd p 0 (nth l (k - 1))) (fmul p x (nth l k)) else (if k = 0 then a else fadd p 0 (nth l (k - 1)))
  | a, [], 0, _ => by simp [vstep, nth]
  | _, [], k + 1, h => by simp at h
  | a, y :: l, 0, _ => by simp [vstep, nth]
  | a, y :: l, k + 1, h => by
    have ih := vstep_nth p x (fadd p 0 y) l k (by simpa using h)
    have e : nth (vstep p x a (y :: l)) (k + 1) = nth (vstep p x (fadd p 0 y) l) k := by simp [vstep, nth]
    rw [e, ih]
    have e2 : nth (y :: l) (k + 1) = nth l k := by simp [nth]
    have e3 : (if k = 0 then fadd p 0 y else fadd p 0 (nth l (k - 1))) = fadd p 0 (nth (y :: l) k) := by
      cases k with
      | zero => simp [nth]
      | succ k => simp [nth]
    rw [e2, e3]
    simp
theorem vRow_last (p x : Int) (out : List Int) : vRow p x out out.length = vstep p x 0 out := by
  refine List.ext_getElem (by rw [vRow_length, vstep_length]) fun k h1 h2 => ?_
  rw [vRow_length] at h1
  have e1 := vRow_nth p x out out.length k (by omega)
  have e2 := vstep_nth p x 0 out k (by omega)
  unfold nth at e1 e2
  rw [List.getD_eq_getElem?_getD, List.getElem?_eq_getElem (by rw [vRow_length]; omega)] at e1
  rw [List.getD_eq_getElem?_getD, List.getElem?_eq_getElem h2] at e2
  simp only [Option.getD_some] at e1 e2
  rw [e1, e2]
  unfold vW vA
  by_cases h : k < out.length
  · rw [if_pos h, if_pos h]; rfl
  · have : k = out.length := by omega
    subst this
    rw [if_neg h, if_pos rfl, if_neg h]; rfl
end Go.Att
end
section
namespace Go.Att
theorem hv_drop (p x : Int) (l : List Int) (k : Nat) (h : k < l.length) : hv p x (l.drop k) = fadd p (nth l k) (fmul p (hv p x (l.drop (k + 1))) x) := by
  rw [List.drop_eq_getElem_cons h, hv, nth_eq h]
  simp only [fadd, fmul, Int.add_emod_emod]
/-- One point's part behind j steps from the top. -/
def ptRow (p x : Int) (l : List Int) (n j : Nat) : List Int := (List.range n).map fun i => if n - j ≤ i then hv p x (l.drop (i + 1)) else 0
theorem ptRow_length (p x : Int) (l : List Int) (n j : Nat) : (ptRow p x l n j).length = n := by simp [ptRow]
theorem ptRow_zero (p x : Int) (l : List Int) (n : Nat) : ptRow p x l n 0 = List.replicate n 0 := by
  refine List.ext_getElem (by simp [ptRow]) fun k h1 h2 => ?_
  rw [ptRow_length] at h1
  simp [ptRow]; omega
theorem ptRow_step (p x : Int) (l : List Int) (n k : Nat) (hk : k < n) : (ptRow p x l n (n - 1 - k)).set k (hv p x (l.drop (k + 1))) = ptRow p x l n (n - k) := by
  refine List.ext_getElem (by simp [ptRow]) fun i h1 h2 => ?_
  rw [ptRow_length] at h2
  simp only [List.getElem_set, ptRow, List.getElem_map, List.getElem_range]
  by_cases e : k = i
  · subst e; rw [if_pos rfl, if_pos (by omega)]
  · rw [if_neg e]
    by_cases e2 : n - (n - 1 - k) ≤ i
    · rw [if_pos e2, if_pos (by omega)]
    · rw [if_neg e2, if_neg (by omega)]
theorem ptRow_last (p : Int) (xs : List Int) (i : Nat) : ptRow p (nth xs i) (vanQ p xs xs.length) xs.length xs.length = fitPt p xs i := by
  refine List.ext_getElem (by rw [ptRow_length, fitPt_length]) fun k h1 h2 => ?_
  rw [ptRow_length] at h1
  have e : nth (hq p (nth xs i) (vanQ p xs xs.length)) k = hv p (nth xs i) ((vanQ p xs xs.length).drop (k + 1)) := hq_nth _ _ _ _ (by rw [vanQ_length]; omega)
  rw [nth_eq (by rw [hq_length, vanQ_length]; omega)] at e
  simp only [ptRow, fitPt, List.getElem_map, List.getElem_range, List.getElem_take]
  rw [if_pos (by omega), e]
/-- The sum under way: the first k of its places have been added to. -/
def adRow (p c : Int) (s q : List Int) (k : Nat) : List Int := (List.range s.length).map fun i => if i < k then fadd p (nth s i) (fmul p c (nth q i)) else nth s i
theorem adRow_length (p c : Int) (s q : List Int) (k : Nat) : (adRow p c s q k).length = s.length := by simp [adRow]
theorem adRow_nth (p c : Int) (s q : List Int) (k : Nat) (h : k < s.length) : nth (adRow p c s q k) k = nth s k := by
  unfold adRow
  rw [nth_map_range _ _ _ h, if_neg (by omega)]
theorem adRow_zero (p c : Int) (s q : List Int) : adRow p c s q 0 = s := by
  refine List.ext_getElem (by simp [adRow]) fun k h1 h2 => ?_
  simp [adRow, nth_eq h2]
theorem adRow_step (p c : Int) (s q : List Int) (k : Nat) (_h : k < s.length) : (adRow p c s q k).set k (fadd p (nth s k) (fmul p c (nth q k))) = adRow p c s q (k + 1) := by
  refine List.ext_getElem (by simp [adRow]) fun i h1 h2 => ?_
  simp only [List.getElem_set, adRow, List.getElem_map, List.getElem_range]
  by_cases e : k = i
  · subst e; rw [if_pos rfl, if_pos (by omega)]
  · rw [if_neg e]
    by_cases e2 : i < k
    · rw [if_pos e2, if_pos (by omega)]
    · rw [if_neg e2, if_neg (by omega)]
theorem addc_nth (p c : Int) : ∀ (s q : List Int) (k : Nat), s.length = q.length → k < s.length → nth (addc p c s q) k = fadd p (nth s k) (fmul p c (nth q k))
  | [], _, _, _, h => by simp at h
  | _ :: _, [], _, h, _ => by simp at h
  | s :: ss, q :: qs, 0, _, _ => by simp [addc, nth]
  | s :: ss, q :: qs, k + 1, h, hk => by
    have := addc_nth p c ss qs k (by simpa using h) (by simpa using hk)
    simpa [addc, nth] using this
theorem adRow_last (p c : Int) (s q : List Int) (h : s.length = q.length) : adRow p c s q s.length = addc p c s q := by
  refine List.ext_getElem (by rw [adRow_length, addc_length _ _ _ _ h]) fun k h1 h2 => ?_
  rw [adRow_length] at h1
  have e := addc_nth p c s q k h h1
  rw [nth_eq h2] at e
  rw [e]
  simp only [adRow, List.getElem_map, List.getElem_range]
  rw [if_pos h1]
/-- The last k of c places, the last first. -/
def downF (c : Nat) : (k : Nat) → k ≤ c → List (Fin c)
  | 0, _ => []
  | k + 1, h => downF c k (by omega) ++ [⟨c - 1 - k, by omega⟩]
theorem downF_length (c : Nat) : ∀ (k : Nat) (h : k ≤ c), (downF c k h).length = k
  | 0, _ => rfl
  | k + 1, h => by rw [downF, List.length_append, downF_length c k]; rfl
/-- What a polynomial is at x when so many of its places have come. -/
def evF (p x : Int) (l : List Int) {c : Nat} (pre : List (Fin c)) : Int := pre.foldl (fun s i => fadd p (fmul p s x) (nth l i.1)) 0
theorem evF_snoc (p x : Int) (l : List Int) {c : Nat} (pre : List (Fin c)) (i : Fin c) : evF p x l (pre ++ [i]) = fadd p (fmul p (evF p x l pre) x) (nth l i.1) := by unfold evF; rw [List.foldl_append]; rfl
theorem evF_downF (p x : Int) (l : List Int) : ∀ (k : Nat) (h : k ≤ l.length), evF p x l (downF l.length k h) = ev (l.drop (l.length - k)) x % p
  | 0, _ => by simp [downF, evF, ev]
  | k + 1, h => by
    have hk : l.length - (k + 1) < l.length := by omega
    rw [downF, evF_snoc, evF_downF p x l k (by omega), List.drop_eq_getElem_cons hk, ev]
    show fadd p (fmul p (ev (l.drop (l.length - k)) x % p) x) (nth l (l.length - 1 - k)) = _
    have e1 : nth l (l.length - 1 - k) = l[l.length - (k + 1)] := by rw [show l.length - 1 - k = l.length - (k + 1) by omega, nth_eq hk]
    rw [e1, show l.length - (k + 1) + 1 = l.length - k by omega]
    simp only [fadd, fmul, em_l, ea_l]
    rw [Int.add_comm, Int.mul_comm]
theorem evF_all (p x : Int) (l : List Int) : evF p x l (downF l.length l.length (Nat.le_refl _)) = ev l x % p := by
  rw [evF_downF, Nat.sub_self, List.drop_zero]
end Go.Att
end
section
namespace Go.Proofs.YtaajjaadlpgbiaaGreatDoor
open Go.RowKit Go.Att
section
variable {w : World} {f vx : Value} {p g : Int} {fs : List Int} {xs : List Int}
theorem ints_setC (l : List Int) (i : Nat) (h : i < l.length) (v : Int) : (l.map (Value.int .i64)).take (i * 1) ++ (Value.int .i64 v).cells.toList ++ (l.map (Value.int .i64)).drop (i * 1 + 1) = (l.set i v).map (Value.int .i64) := by
  rw [Nat.mul_one, List.set_eq_take_append_cons_drop, if_pos h]
  simp [Value.cells, List.map_take, List.map_drop]
set_option maxRecDepth 100000 in
set_option maxHeartbeats 4000000 in
theorem vanish_any (hf : Fld w f p g fs) (hx : Ints w vx xs) (hs : xs.length ≤ 60) :
    Calls Tryz.prog 152 #[f, vx] w (Gives w fun u w' => Ints w' u (vanQ p xs xs.length)) := by
  have hlx := hx.run_len (P := Tryz.prog) slInts
  have HF := Lib.hid hf; have HX := Lib.hid hx
  clear hf hx
  have HS0 := Lib.hid (show Ints (w.alloc (Obj.cells #[.int .i64 1] 3)) (.slice (some ⟨w.heap.size, 0, none⟩) 1 1) (vanQ p xs 0) from sl_lit w [.int .i64 1] 3 (by simp))
  have HX0 := Lib.hid (Ext.alloc w (Obj.cells #[.int .i64 1] 3))
  go_enter Tryz.func152, Tryz.ntmps152
  go_wp2_with fail
  go_loopw [5, 7, 8, 9, 10, 14, 24] (fun x5 _ _ _ _ x14 _ wr => ∃ m : Nat, m ≤ xs.length ∧ x14 = .int .i64 m ∧ Hid (Ints wr x5 (vanQ p xs m)) ∧ Hid (Ext w wr)) (fun _ _ _ _ _ x14 _ _ => xs.length - (intOf x14).toNat)
  case atStart => exact ⟨0, Nat.zero_le _, rfl, HS0, HX0⟩
  case round =>
    clear HS0 HX0
    obtain ⟨m, hm, rfl, HO, HXW⟩ := hrel
    by_cases hml : m < xs.length
    · have hix := HX.out.run_index (P := Tryz.prog) slInts m hml
      have hcx := (HX.out.ext HXW.out).cell m hml
      have hlo := HO.out.run_len (P := Tryz.prog) slInts
      have HVL := Lib.hid (vanQ_length p xs m)
      have HVS := Lib.hid (show vanQ p xs (m + 1) = vstep p (nth xs m) 0 (vanQ p xs m) from rfl)
      rw [HVL.out] at hlo
      generalize vanQ p xs m = out at *
      generalize nth xs m = x at *
      go_wp2_with (refine wpList_mkn rfl _ _ 23 rfl slInts (Ext.refl _) rfl rfl (by omega) (by omega) (by omega) ?_; intro v1 w1 HN1 HX1 HG1)
      have HVB := Lib.hid (show ∀ q, v1.ownBlock = some q → wr.heap.size ≤ q from fun q hq => (HN1.lt q hq).1)
      have HR0 := Lib.hid (show w1.ownsRow w.heap.size 3 1 v1 (m + 2) ((vRow p x out 0).map (Value.int .i64)) from by
        rw [show ((m : Int) + 1 + 1).toNat = m + 2 by omega, zeros_made, List.append_nil] at HN1
        rw [vRow_zero, HVL.out]; exact own_base HN1 HXW.out.size)
      have HX1H := Lib.hid (HXW.out.trans HX1)
      have HO1 := Lib.hid (HO.out.ext HX1)
      have HOB := Lib.hid (show ∀ q, u5.ownBlock = some q → some q ≠ v1.ownBlock from fun q hq e => by
        have h5 := ints_lt9 HO.out (by rw [HVL.out]; omega) q hq
        have h6 := HVB.out q e.symm
        omega)
      clear HN1 HX1 HG1 HVB HO
      generalize wr = WR at *
      go_loopw [9, 10, 24] (fun _ _ x24 wq => ∃ i : Nat, i ≤ m + 1 ∧ x24 = .int .i64 i ∧ Hid (wq.ownsRow w.heap.size 3 1 v1 (m + 2) ((vRow p x out i).map (Value.int .i64))) ∧ Hid (w1.grownBy wq v1.ownBlock)) (fun _ _ x24 _ => m + 1 - (intOf x24).toNat)
      case atStart => exact ⟨0, Nat.zero_le _, rfl, HR0, Lib.hid (World.grownBy.refl _ _)⟩
      case round =>
        obtain ⟨i, hi, rfl, HOW, HXQ⟩ := hrel
        have HXA := Lib.hid (Ext.own_grown HX1H.out HR0.out HXQ.out)
        by_cases him : i < m + 1
        · have HIW := Lib.hid (Ints.of_own HOW.out)
          have hlr : (vRow p x out i).length = m + 2 := by rw [vRow_length, HVL.out]
          have hin1 := HIW.out.run_index (P := Tryz.prog) slInts (i + 1) (by rw [hlr]; omega)
          have hcn1 := HIW.out.cell (i + 1) (by rw [hlr]; omega)
          rw [vRow_nth _ _ _ _ _ (by rw [HVL.out]; omega)] at hcn1
          have hz : vW p x out i (i + 1) = 0 := by unfold vW; rw [if_neg (by omega), if_neg (by omega)]
          rw [hz] at hcn1
          rw [show ((i + 1 : Nat) : Int) = (i : Int) + 1 by omega] at hin1
          have HOQ := Lib.hid (HO1.out.grown HXQ.out HOB.out)
          have hix2 := HOQ.out.run_index (P := Tryz.prog) slInts i (by rw [HVL.out]; exact him)
          have hcy := HOQ.out.cell i (by rw [HVL.out]; exact him)
          have hst := vRow_step p x out i (by rw [HVL.out]; exact him)
          have HST := Lib.hid hst
          have HFW := Lib.hid (HF.out.ext HXA.out)
          have hAi : nth (vRow p x out i) i = vA p out i := by rw [vRow_nth _ _ _ _ _ (by rw [HVL.out]; omega)]; unfold vW; rw [if_neg (by omega), if_pos rfl]
          have HAI := Lib.hid hAi
          clear hst hAi hz
          generalize hy : nth out i = y at *
          have HYY := Lib.hid hy
          clear hy
          go_upto_region 10 with (first
            | (go_at_call 70; refine (add_any HFW.out _ _).mono ?_; rintro e w2 ⟨rfl, n2, rfl⟩; have HOD := Lib.hid (own_ext HOW.out (Ext.drewN wr n2)))
            | (refine wpList_set rfl rfl _ _ 3 rfl slInts HOD.out (i + 1) (by omega) rfl (.int .i64 (fadd p 0 y)) rfl rfl (by intro u hu; simp [Value.cells] at hu; subst hu; rfl) ?_; intro w3 HO3 HG3))
          have hlr3 : i + 1 < (vRow p x out i).length := by omega
          rw [ints_setC _ _ hlr3] at HO3
          have HX3 := Lib.hid (Ext.own_grown (HXA.out.trans (Ext.drewN wr n2)) HOD.out HG3)
          have HXQ3 := Lib.hid (show w1.grownBy w3 v1.ownBlock from (HXQ.out.trans ((Ext.drewN wr n2).grownBy _)).trans HG3)
          have HI3 := Lib.hid (Ints.of_own HO3)
          have hl3 : ((vRow p x out i).set (i + 1) (fadd p 0 y)).length = m + 2 := by rw [List.length_set, hlr]
          have hin := HI3.out.run_index (P := Tryz.prog) slInts i (by omega)
          have hcn := HI3.out.cell i (by omega)
          rw [show nth ((vRow p x out i).set (i + 1) (fadd p 0 y)) i = vA p out i from by rw [← HAI.out]; unfold nth; rw [List.getD_eq_getElem?_getD, List.getElem?_set_ne (by omega), ← List.getD_eq_getElem?_getD]] at hcn
          have HF3 := Lib.hid (HF.out.ext HX3.out)
          clear HOD HG3 hin1 hcn1 hcy
          have HO3H := Lib.hid HO3
          clear HO3
          refine wp_region_quiet_tail 13 (by kernel_rfl) (by kernel_rfl) ?_
          simp only [List.take_succ_cons, List.take_zero, List.drop_succ_cons, List.drop_zero]
          repeat (go_big_quiet_step (first | (go_at_call 71; exact mul_q HF3.out _ _ _) | (go_at_call 116; exact sub_q HF3.out _ _ _)))
          refine wpQuiet_nil ?_
          rintro _ ⟨nq, rfl⟩
          have HO4 := Lib.hid (own_ext HO3H.out (Ext.drewN w3 nq))
          have HXQ4 := Lib.hid (HXQ3.out.trans ((Ext.drewN w3 nq).grownBy _))
          go_wp2_with (refine wpList_set rfl rfl _ _ 3 rfl slInts HO4.out i (by omega) rfl (.int .i64 (fsub p (vA p out i) (fmul p x y))) rfl rfl (by intro u hu; simp [Value.cells] at hu; subst hu; rfl) ?_; intro w5 HO5 HG5)
          rw [ints_setC _ _ (by omega), HST.out] at HO5
          go_roundw
          case rel => exact ⟨i + 1, by omega, by go_num, Lib.hid HO5, Lib.hid (HXQ4.out.trans HG5)⟩
          case measure => simp [intOf]; omega
        · obtain rfl : i = m + 1 := by omega
          have HRL := Lib.hid (show Ints wr v1 (vstep p x 0 out) from by
            have := Ints.of_own HOW.out
            rw [show m + 1 = out.length from HVL.out.symm, vRow_last] at this
            exact this)
          go_wp2_with fail
          go_roundw
          case rel => exact ⟨m + 1, by omega, by go_num, Lib.hid (by rw [HVS.out]; exact HRL.out), HXA⟩
          case measure => simp [intOf]; omega
    · obtain rfl : m = xs.length := by omega
      go_wp2_with fail
      go_ret
      exact .mk _ rfl HXW.out HO.out
end
end Go.Proofs.YtaajjaadlpgbiaaGreatDoor
end
