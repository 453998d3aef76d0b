/- A polynomial parted by a linear factor, the program's way: plain laws. No program in sight. The loop of poly.Vanish: what the next list is behind so many steps: plain laws. No program in sight. The loops of poly.Fit and poly.Eval: what stands behind so many steps: plain laws. No program in sight. poly.Vanish: contract. A range over a slice from its end: slices.Backward; a polynomial at a point: poly.Eval: contracts. A polynomial at a point: poly.Eval: contract. -/
import Derived.Test.YtcpnidomdkaefaaGreatDoorZx18
import Derived.Test.YtcpnidomdkaefaaGreatDoorZx14
import Derived.Test.YtcpnidomdkaefaaGreatDoorZx13
import Derived.RangeFuncNested
import Derived.RangeFuncBound
import Derived.RangeFuncCalls
import Derived.RangeFuncLeaves
import Derived.Shelf.Abstract
import Derived.Shelf.RegionOpen
import Derived.WalkKit
import Derived.OwnWalkIn
import Derived.TacticsInMore
import Derived.LoopNIn
import Derived.LoopIn
import Derived.Test.YtcpnidomdkaefaaGreatDoorSx
section
namespace Go.Att
/-- What a list is at x, from its top down. -/
def hv (p x : Int) : List Int → Int
  | [] => 0
  | c :: l => (c + hv p x l * x) % p
/-- .. and what is left of the list by its factor. -/
def hq (p x : Int) : List Int → List Int
  | [] => []
  | _ :: l => hv p x l :: hq p x l
theorem hq_length (p x : Int) : ∀ l, (hq p x l).length = l.length
  | [] => rfl
  | _ :: l => by simp [hq, hq_length p x l]
theorem hq_nth (p x : Int) : ∀ (l : List Int) (k : Nat), k < l.length → nth (hq p x l) k = hv p x (l.drop (k + 1))
  | [], _, h => by simp at h
  | _ :: l, 0, _ => by simp [hq, nth]
  | _ :: l, k + 1, h => by
    have h2 := hq_nth p x l k (by simpa using h)
    simpa [hq, nth] using h2
theorem hv_ev (p x : Int) : ∀ l, hv p x l % p = ev l x % p
  | [] => rfl
  | c :: l => by
    have h := hv_ev p x l
    simp only [hv, ev, Int.emod_emod_of_dvd _ (Int.dvd_refl p)]
    rw [Int.add_emod, Int.mul_emod, h, ← Int.mul_emod, ← Int.add_emod, Int.mul_comm]
theorem hq_part (p x t : Int) : ∀ l, ev l t % p = ((t - x) * ev (hq p x l) t + hv p x l) % p
  | [] => by simp [ev, hq, hv]
  | c :: l => by
    have h := hq_part p x t l
    simp only [hv, ev, hq]
    rw [Int.add_emod c, Int.mul_emod, h, ← Int.mul_emod, ← Int.add_emod]
    rw [Int.add_emod ((t - x) * _), Int.emod_emod_of_dvd _ (Int.dvd_refl p), ← Int.add_emod]
    congr 1
    simp only [Int.mul_add, Int.sub_mul, Int.mul_sub]
    have e1 : t * (t * ev (hq p x l) t) = t * (t * ev (hq p x l) t) := rfl
    have e2 : x * (t * ev (hq p x l) t) = t * (x * ev (hq p x l) t) := by rw [← Int.mul_assoc, ← Int.mul_assoc, Int.mul_comm x t]
    have e3 : hv p x l * x = x * hv p x l := Int.mul_comm _ _
    rw [e2, e3]
    omega
/-- A list times (t - x), the program's way: what was added last goes along. -/
def vstep (p x : Int) : Int → List Int → List Int
  | a, [] => [a]
  | a, y :: l => fsub p a (fmul p x y) :: vstep p x (fadd p 0 y) l
theorem vstep_length (p x : Int) : ∀ (a : Int) (l : List Int), (vstep p x a l).length = l.length + 1
  | _, [] => rfl
  | _, _ :: l => by simp [vstep, vstep_length p x _ l]
theorem vstep_ev (p x t : Int) : ∀ (a : Int) (l : List Int), ev (vstep p x a l) t % p = (a + (t - x) * ev l t) % p
  | a, [] => by simp [vstep, ev]
  | a, y :: l => by
    have h := vstep_ev p x t (fadd p 0 y) l
    simp only [vstep, ev, fsub, fmul, fadd] at h ⊢
    have md : ∀ u : Int, ∃ k, u % p = u + p * k := fun u => ⟨-(u / p), by rw [Int.emod_def, Int.mul_neg]; omega⟩
    generalize ev (vstep p x ((0 + y) % p) l) t = E at h ⊢
    generalize ev l t = e at h ⊢
    obtain ⟨k1, h1⟩ := md (x * y)
    obtain ⟨k2, h2⟩ := md (a - x * y % p)
    obtain ⟨k3, h3⟩ := md (0 + y)
    obtain ⟨k4, h4⟩ := md E
    obtain ⟨k5, h5⟩ := md ((0 + y) % p + (t - x) * e)
    have hE : E = y + (t - x) * e + p * (k3 + k5 - k4) := by
      rw [Int.mul_sub, Int.mul_add]
      omega
    rw [h2, h1, hE, show a - (x * y + p * k1) + p * k2 + t * (y + (t - x) * e + p * (k3 + k5 - k4)) = a + (t - x) * (y + t * e) + p * (k2 - k1 + t * (k3 + k5 - k4)) from ?_, Int.add_mul_emod_self_left]
    have e1 : t * (p * (k3 + k5 - k4)) = p * (t * (k3 + k5 - k4)) := by rw [← Int.mul_assoc, ← Int.mul_assoc, Int.mul_comm t p]
    have e2 : t * ((t - x) * e) = (t - x) * (t * e) := by rw [← Int.mul_assoc, ← Int.mul_assoc, Int.mul_comm t (t - x)]
    have e3 : (t - x) * y = t * y - x * y := Int.sub_mul _ _ _
    rw [Int.mul_add t, Int.mul_add t, e1, e2, Int.mul_add (t - x), e3, Int.mul_add p, Int.mul_sub p]
    omega
/-- What is 0 at the first n points, the program's way. -/
def vanQ (p : Int) (xs : List Int) : Nat → List Int
  | 0 => [1]
  | n + 1 => vstep p (nth xs n) 0 (vanQ p xs n)
theorem vanQ_length (p : Int) (xs : List Int) : ∀ n, (vanQ p xs n).length = n + 1
  | 0 => rfl
  | n + 1 => by rw [vanQ, vstep_length, vanQ_length p xs n]
theorem vanQ_ev (p t : Int) (xs : List Int) : ∀ n, ev (vanQ p xs n) t % p = vanP xs (-1) t n % p
  | 0 => by simp [vanQ, vanP, ev]
  | n + 1 => by
    have h := vanQ_ev p t xs n
    rw [vanQ, vstep_ev, Int.zero_add, Int.mul_emod, h, ← Int.mul_emod, vanP, if_neg (by omega), Int.mul_comm]
theorem vanP_out (xs : List Int) (i : Nat) (t : Int) : ∀ n, n ≤ i → vanP xs (-1) t n = vanP xs i t n
  | 0, _ => rfl
  | n + 1, h => by rw [vanP, vanP, if_neg (by omega), if_neg (by omega), vanP_out xs i t n (by omega)]
theorem vanP_all (xs : List Int) (i : Nat) (t : Int) : ∀ n, i < n → vanP xs (-1) t n = (t - nth xs i) * vanP xs i t n
  | 0, h => by omega
  | n + 1, h => by
    rw [vanP, vanP, if_neg (by omega)]
    by_cases hi : i = n
    · subst hi
      rw [if_pos rfl, Int.mul_comm]
      congr 1
      exact vanP_out xs i t i (Nat.le_refl _)
    · rw [if_neg (by omega), vanP_all xs i t n (by omega), Int.mul_assoc]
theorem cntN_but (i : Nat) : ∀ N, cntN (fun r => decide (r ≠ i)) N + (if i < N then 1 else 0) = N
  | 0 => by simp [cntN]
  | N + 1 => by
    have h := cntN_but i N
    simp only [cntN, decide_eq_true_eq]
    by_cases h1 : N = i
    · subst h1
      rw [if_neg (by omega)] at h
      rw [if_neg (by simp), if_pos (by omega)]; omega
    · rw [if_pos h1]
      by_cases h2 : i < N
      · rw [if_pos h2] at h; rw [if_pos (by omega)]; omega
      · rw [if_neg h2] at h; rw [if_neg (by omega)]; omega
/-- What is left of it by one of its factors is the others' product. -/
theorem hq_van {p : Int} (hp : Pr p) (xs : List Int) (n i : Nat) (hi : i < n) (hx : nth xs i = i) (hn : (n : Int) + 2 ≤ p) (t : Int) : ev (hq p i (vanQ p xs n)) t % p = vanP xs i t n % p := by
  have h1 : PolyN (n + 1) fun t => ev (hq p i (vanQ p xs n)) t := PolyN.mono ⟨_, rfl, fun _ => rfl⟩ (by rw [hq_length, vanQ_length]; exact Nat.le_refl _)
  have h2 : PolyN (n + 1) fun t => ev (vanS p xs i n) t := PolyN.mono ⟨_, rfl, fun _ => rfl⟩ (vanS_length p xs i n)
  have h4 := few_roots hp (PolyN.sub h1 h2) (fun r => decide (r ≠ i)) (n + 2) (by omega) (fun r hr hP => by
    have hri : r ≠ i := by simpa using hP
    apply eq_mod_sub
    rw [ev_van]
    apply mod_sub_eq
    apply Int.emod_eq_zero_of_dvd
    have hz : hv p i (vanQ p xs n) % p = 0 := by
      rw [hv_ev, vanQ_ev, vanP_all xs i _ n hi, hx, Int.sub_self, Int.zero_mul, Int.zero_emod]
    have ha := hq_part p (i : Int) (r : Int) (vanQ p xs n)
    rw [vanQ_ev, vanP_all xs i _ n hi, hx, Int.add_emod, hz, Int.add_zero, Int.emod_emod_of_dvd _ (Int.dvd_refl p)] at ha
    have hd : p ∣ ((r : Int) - i) * (ev (hq p i (vanQ p xs n)) r - vanP xs i r n) := by
      rw [Int.mul_sub]
      exact Int.dvd_of_emod_eq_zero (eq_mod_sub ha.symm)
    rcases hp.euclid hd with h | h
    · exfalso
      obtain ⟨k, hk⟩ := h
      have k0 : k = 0 := by
        rcases Int.lt_trichotomy k 0 with h | h | h
        · have : p * k ≤ p * (-1) := Int.mul_le_mul_of_nonneg_left (by omega) (by omega)
          omega
        · exact h
        · have : p * 1 ≤ p * k := Int.mul_le_mul_of_nonneg_left (by omega) (by omega)
          omega
      rw [k0] at hk
      omega
    · exact h)
  have hc := cntN_but i (n + 2)
  rw [if_pos (by omega)] at hc
  rcases h4 with h4 | h4
  · omega
  · have h5 := mod_sub_eq (h4 t)
    rw [h5, ev_van]
/-- A list is added so many times to another. -/
def addc (p c : Int) : List Int → List Int → List Int
  | s :: ss, q :: qs => fadd p s (fmul p c q) :: addc p c ss qs
  | _, _ => []
theorem addc_length (p c : Int) : ∀ s q : List Int, s.length = q.length → (addc p c s q).length = s.length
  | [], [], _ => rfl
  | _ :: ss, _ :: qs, h => by simp [addc, addc_length p c ss qs (by simpa using h)]
theorem addc_ev (p c t : Int) : ∀ s q : List Int, s.length = q.length → ev (addc p c s q) t % p = (ev s t + c * ev q t) % p
  | [], [], _ => by simp [addc, ev]
  | s :: ss, q :: qs, h => by
    have ih := addc_ev p c t ss qs (by simpa using h)
    simp only [addc, ev, fadd, fmul]
    have md : ∀ u : Int, ∃ k, u % p = u + p * k := fun u => ⟨-(u / p), by rw [Int.emod_def, Int.mul_neg]; omega⟩
    generalize ev (addc p c ss qs) t = E at ih ⊢
    generalize ev ss t = a at ih ⊢
    generalize ev qs t = b at ih ⊢
    obtain ⟨k1, h1⟩ := md (c * q)
    obtain ⟨k2, h2⟩ := md (s + c * q % p)
    obtain ⟨k4, h4⟩ := md E
    obtain ⟨k5, h5⟩ := md (a + c * b)
    have hE : E = a + c * b + p * (k5 - k4) := by rw [Int.mul_sub]; omega
    rw [h2, h1, hE, show s + (c * q + p * k1) + p * k2 + t * (a + c * b + p * (k5 - k4)) = s + t * a + c * (q + t * b) + p * (k1 + k2 + t * (k5 - k4)) from ?_, Int.add_mul_emod_self_left]
    have e1 : t * (p * (k5 - k4)) = p * (t * (k5 - k4)) := by rw [← Int.mul_assoc, ← Int.mul_assoc, Int.mul_comm t p]
    have e2 : t * (c * b) = c * (t * b) := by rw [← Int.mul_assoc, ← Int.mul_assoc, Int.mul_comm t c]
    rw [Int.mul_add t, Int.mul_add t, e1, e2, Int.mul_add c, Int.mul_add p, Int.mul_add p]
    omega
theorem ev_take_zero (t : Int) : ∀ (l : List Int) (n : Nat), l.length = n + 1 → nth l n = 0 → ev (l.take n) t = ev l t
  | [], _, h, _ => by simp at h
  | [c], 0, _, h0 => by simp [nth] at h0; simp [ev, h0]
  | _ :: _ :: _, 0, h, _ => by simp at h
  | c :: l, n + 1, h, h0 => by
    have := ev_take_zero t l n (by simpa using h) (by simpa [nth] using h0)
    simp [ev, this]
/-- What poly.Fit takes of all of them for one point. -/
def fitPt (p : Int) (xs : List Int) (i : Nat) : List Int := (hq p (nth xs i) (vanQ p xs xs.length)).take xs.length
theorem fitPt_length (p : Int) (xs : List Int) (i : Nat) : (fitPt p xs i).length = xs.length := by
  unfold fitPt; rw [List.length_take, hq_length, vanQ_length]; omega
theorem fitPt_ev (p : Int) (xs : List Int) (i : Nat) (t : Int) : ev (fitPt p xs i) t = ev (hq p (nth xs i) (vanQ p xs xs.length)) t := by
  refine ev_take_zero t _ _ (by rw [hq_length, vanQ_length]) ?_
  rw [hq_nth _ _ _ _ (by rw [vanQ_length]; omega), List.drop_eq_nil_of_le (by rw [vanQ_length]; omega)]; rfl
def fitQ (p : Int) (xs ys : List Int) : Nat → List Int
  | 0 => List.replicate xs.length 0
  | i + 1 => addc p (fdiv p (nth ys i) (ev (fitPt p xs i) (nth xs i) % p)) (fitQ p xs ys i) (fitPt p xs i)
theorem fitQ_length (p : Int) (xs ys : List Int) : ∀ i, (fitQ p xs ys i).length = xs.length
  | 0 => by simp [fitQ]
  | i + 1 => by rw [fitQ, addc_length _ _ _ _ (by rw [fitQ_length p xs ys i, fitPt_length]), fitQ_length p xs ys i]
/-- Through numbers at 0, 1, ..: the program's polynomial is everywhere what the document's is. -/
theorem fitQ_ev {p : Int} (hp : Pr p) (ys : List Int) (n : Nat) (hn : (n : Int) + 2 ≤ p) (t : Int) : ∀ i, i ≤ n → ev (fitQ p (idxL n) ys i) t % p = ev (fitS p (idxL n) ys i) t % p
  | 0, _ => by rw [fitQ, fitS, ev_zs]; rfl
  | i + 1, h => by
    have ih := fitQ_ev hp ys n hn t i (by omega)
    have hx := idxL_nth n i (by omega)
    have hv : ∀ s, ev (fitPt p (idxL n) i) s % p = vanP (idxL n) i s n % p := fun s => by
      rw [fitPt_ev, hx, idxL_length]; exact hq_van hp _ n i (by omega) hx hn s
    rw [fitQ, addc_ev _ _ _ _ _ (by rw [fitQ_length, fitPt_length]), ev_fitS, sumN, ← Int.add_emod_emod, ← Int.emod_add_emod, ih, ev_fitS, Int.mul_emod, hv t, ← Int.mul_emod, hv (nth (idxL n) i), ← ev_van, Int.emod_add_emod, Int.add_emod_emod, fitC, idxL_length]
end Go.Att
end
section
namespace Go.Att
/-- What was added last; what stands at a place behind i steps. -/
def vA (p : Int) (out : List Int) (k : Nat) : Int := if k = 0 then 0 else fadd p 0 (nth out (k - 1))
def vW (p x : Int) (out : List Int) (i k : Nat) : Int := if k < i then fsub p (vA p out k) (fmul p x (nth out k)) else if k = i then vA p out i else 0
def vRow (p x : Int) (out : List Int) (i : Nat) : List Int := (List.range (out.length + 1)).map (vW p x out i)
theorem vRow_length (p x : Int) (out : List Int) (i : Nat) : (vRow p x out i).length = out.length + 1 := by simp [vRow]
theorem vRow_nth (p x : Int) (out : List Int) (i k : Nat) (h : k ≤ out.length) : nth (vRow p x out i) k = vW p x out i k := by
  unfold vRow nth
  rw [List.getD_eq_getElem?_getD, List.getElem?_map, List.getElem?_range (by omega)]; rfl
theorem vRow_zero (p x : Int) (out : List Int) : vRow p x out 0 = List.replicate (out.length + 1) 0 := by
  refine List.ext_getElem (by simp [vRow]) fun k h1 h2 => ?_
  simp [vRow, vW, vA]
theorem vRow_step (p x : Int) (out : List Int) (i : Nat) (_h : i < out.length) : ((vRow p x out i).set (i + 1) (fadd p 0 (nth out i))).set i (fsub p (vA p out i) (fmul p x (nth out i))) = vRow p x out (i + 1) := by
  refine List.ext_getElem (by simp [vRow]) fun k h1 h2 => ?_
  simp only [List.getElem_set, vRow, List.getElem_map, List.getElem_range, vW]
  by_cases e1 : i = k
  · subst e1
    rw [if_pos rfl, if_pos (by omega)]
  · rw [if_neg e1]
    by_cases e2 : i + 1 = k
    · subst e2
      rw [if_pos rfl, if_neg (by omega), if_pos rfl]
      simp [vA]
    · rw [if_neg e2]
      by_cases e3 : k < i
      · rw [if_pos e3, if_pos (by omega)]
      · rw [if_neg e3, if_neg (by omega), if_neg (by omega), if_neg (by omega)]
theorem vstep_nth (p x : Int) : ∀ (a : Int) (l : List Int) (k : Nat), k ≤ l.length → nth (vstep p x a l) k = if k < l.length then fsub p (if k = 0 then a else fadd p 0 (nth l (k - 1))) (fmul p x (nth l k)) else (if k = 0 then a else fadd p 0 (nth l (k - 1)))
  | a, [], 0, _ => by simp [vstep, nth]
  | _, [], k + 1, h => by simp at h
  | a, y :: l, 0, _ => by simp [vstep, nth]
  | a, y :: l, k + 1, h => by
    have ih := vstep_nth p x (fadd p 0 y) l k (by simpa using h)
    have e : nth (vstep p x a (y :: l)) (k + 1) = nth (vstep p x (fadd p 0 y) l) k := by simp [vstep, nth]
    rw [e, ih]
    have e2 : nth (y :: l) (k + 1) = nth l k := by simp [nth]
    have e3 : (if k = 0 then fadd p 0 y else fadd p 0 (nth l (k - 1))) = fadd p 0 (nth (y :: l) k) := by
      cases k with
      | zero => simp [nth]
      | succ k => simp [nth]
    rw [e2, e3]
    simp
theorem vRow_last (p x : Int) (out : List Int) : vRow p x out out.length = vstep p x 0 out := by
  refine List.ext_getElem (by rw [vRow_length, vstep_length]) fun k h1 h2 => ?_
  rw [vRow_length] at h1
  have e1 := vRow_nth p x out out.length k (by omega)
  have e2 := vstep_nth p x 0 out k (by omega)
  unfold nth at e1 e2
  rw [List.getD_eq_getElem?_getD, List.getElem?_eq_getElem (by rw [vRow_length]; omega)] at e1
  rw [List.getD_eq_getElem?_getD, List.getElem?_eq_getElem h2] at e2
  simp only [Option.getD_some] at e1 e2
  rw [e1, e2]
  unfold vW vA
  by_cases h : k < out.length
  · rw [if_pos h, if_pos h]; rfl
  · have : k = out.length := by omega
    subst this
    rw [if_neg h, if_pos rfl, if_neg h]; rfl
end Go.Att
end
section
namespace Go.Att
theorem hv_drop (p x : Int) (l : List Int) (k : Nat) (h : k < l.length) : hv p x (l.drop k) = fadd p (nth l k) (fmul p (hv p x (l.drop (k + 1))) x) := by
  rw [List.drop_eq_getElem_cons h, hv, nth_eq h]
  simp only [fadd, fmul, Int.add_emod_emod]
/-- One point's part behind j steps from the top. -/
def ptRow (p x : Int) (l : List Int) (n j : Nat) : List Int := (List.range n).map fun i => if n - j ≤ i then hv p x (l.drop (i + 1)) else 0
theorem ptRow_length (p x : Int) (l : List Int) (n j : Nat) : (ptRow p x l n j).length = n := by simp [ptRow]
theorem ptRow_zero (p x : Int) (l : List Int) (n : Nat) : ptRow p x l n 0 = List.replicate n 0 := by
  refine List.ext_getElem (by simp [ptRow]) fun k h1 h2 => ?_
  rw [ptRow_length] at h1
  simp [ptRow]; omega
theorem ptRow_step (p x : Int) (l : List Int) (n k : Nat) (hk : k < n) : (ptRow p x l n (n - 1 - k)).set k (hv p x (l.drop (k + 1))) = ptRow p x l n (n - k) := by
  refine List.ext_getElem (by simp [ptRow]) fun i h1 h2 => ?_
  rw [ptRow_length] at h2
  simp only [List.getElem_set, ptRow, List.getElem_map, List.getElem_range]
  by_cases e : k = i
  · subst e; rw [if_pos rfl, if_pos (by omega)]
  · rw [if_neg e]
    by_cases e2 : n - (n - 1 - k) ≤ i
    · rw [if_pos e2, if_pos (by omega)]
    · rw [if_neg e2, if_neg (by omega)]
theorem ptRow_last (p : Int) (xs : List Int) (i : Nat) : ptRow p (nth xs i) (vanQ p xs xs.length) xs.length xs.length = fitPt p xs i := by
  refine List.ext_getElem (by rw [ptRow_length, fitPt_length]) fun k h1 h2 => ?_
  rw [ptRow_length] at h1
  have e : nth (hq p (nth xs i) (vanQ p xs xs.length)) k = hv p (nth xs i) ((vanQ p xs xs.length).drop (k + 1)) := hq_nth _ _ _ _ (by rw [vanQ_length]; omega)
  rw [nth_eq (by rw [hq_length, vanQ_length]; omega)] at e
  simp only [ptRow, fitPt, List.getElem_map, List.getElem_range, List.getElem_take]
  rw [if_pos (by omega), e]
/-- The sum under way: the first k of its places have been added to. -/
def adRow (p c : Int) (s q : List Int) (k : Nat) : List Int := (List.range s.length).map fun i => if i < k then fadd p (nth s i) (fmul p c (nth q i)) else nth s i
theorem adRow_length (p c : Int) (s q : List Int) (k : Nat) : (adRow p c s q k).length = s.length := by simp [adRow]
theorem adRow_nth (p c : Int) (s q : List Int) (k : Nat) (h : k < s.length) : nth (adRow p c s q k) k = nth s k := by
  unfold adRow
  rw [nth_map_range _ _ _ h, if_neg (by omega)]
theorem adRow_zero (p c : Int) (s q : List Int) : adRow p c s q 0 = s := by
  refine List.ext_getElem (by simp [adRow]) fun k h1 h2 => ?_
  simp [adRow, nth_eq h2]
theorem adRow_step (p c : Int) (s q : List Int) (k : Nat) (_h : k < s.length) : (adRow p c s q k).set k (fadd p (nth s k) (fmul p c (nth q k))) = adRow p c s q (k + 1) := by
  refine List.ext_getElem (by simp [adRow]) fun i h1 h2 => ?_
  simp only [List.getElem_set, adRow, List.getElem_map, List.getElem_range]
  by_cases e : k = i
  · subst e; rw [if_pos rfl, if_pos (by omega)]
  · rw [if_neg e]
    by_cases e2 : i < k
    · rw [if_pos e2, if_pos (by omega)]
    · rw [if_neg e2, if_neg (by omega)]
theorem addc_nth (p c : Int) : ∀ (s q : List Int) (k : Nat), s.length = q.length → k < s.length → nth (addc p c s q) k = fadd p (nth s k) (fmul p c (nth q k))
  | [], _, _, _, h => by simp at h
  | _ :: _, [], _, h, _ => by simp at h
  | s :: ss, q :: qs, 0, _, _ => by simp [addc, nth]
  | s :: ss, q :: qs, k + 1, h, hk => by
    have := addc_nth p c ss qs k (by simpa using h) (by simpa using hk)
    simpa [addc, nth] using this
theorem adRow_last (p c : Int) (s q : List Int) (h : s.length = q.length) : adRow p c s q s.length = addc p c s q := by
  refine List.ext_getElem (by rw [adRow_length, addc_length _ _ _ _ h]) fun k h1 h2 => ?_
  rw [adRow_length] at h1
  have e := addc_nth p c s q k h h1
  rw [nth_eq h2] at e
  rw [e]
  simp only [adRow, List.getElem_map, List.getElem_range]
  rw [if_pos h1]
/-- The last k of c places, the last first. -/
def downF (c : Nat) : (k : Nat) → k ≤ c → List (Fin c)
  | 0, _ => []
  | k + 1, h => downF c k (by omega) ++ [⟨c - 1 - k, by omega⟩]
theorem downF_length (c : Nat) : ∀ (k : Nat) (h : k ≤ c), (downF c k h).length = k
  | 0, _ => rfl
  | k + 1, h => by rw [downF, List.length_append, downF_length c k]; rfl
/-- What a polynomial is at x when so many of its places have come. -/
def evF (p x : Int) (l : List Int) {c : Nat} (pre : List (Fin c)) : Int := pre.foldl (fun s i => fadd p (fmul p s x) (nth l i.1)) 0
theorem evF_snoc (p x : Int) (l : List Int) {c : Nat} (pre : List (Fin c)) (i : Fin c) : evF p x l (pre ++ [i]) = fadd p (fmul p (evF p x l pre) x) (nth l i.1) := by unfold evF; rw [List.foldl_append]; rfl
theorem evF_downF (p x : Int) (l : List Int) : ∀ (k : Nat) (h : k ≤ l.length), evF p x l (downF l.length k h) = ev (l.drop (l.length - k)) x % p
  | 0, _ => by simp [downF, evF, ev]
  | k + 1, h => by
    have hk : l.length - (k + 1) < l.length := by omega
    rw [downF, evF_snoc, evF_downF p x l k (by omega), List.drop_eq_getElem_cons hk, ev]
    show fadd p (fmul p (ev (l.drop (l.length - k)) x % p) x) (nth l (l.length - 1 - k)) = _
    have e1 : nth l (l.length - 1 - k) = l[l.length - (k + 1)] := by rw [show l.length - 1 - k = l.length - (k + 1) by omega, nth_eq hk]
    rw [e1, show l.length - (k + 1) + 1 = l.length - k by omega]
    simp only [fadd, fmul, em_l, ea_l]
    rw [Int.add_comm, Int.mul_comm]
theorem evF_all (p x : Int) (l : List Int) : evF p x l (downF l.length l.length (Nat.le_refl _)) = ev l x % p := by
  rw [evF_downF, Nat.sub_self, List.drop_zero]
end Go.Att
end
section
namespace Go.Proofs.YtcpnidomdkaefaaGreatDoor
open Go.RowKit Go.Att
section
variable {w : World} {f vx : Value} {p g : Int} {fs : List Int} {xs : List Int}
theorem ints_setC (l : List Int) (i : Nat) (h : i < l.length) (v : Int) : (l.map (Value.int .i64)).take (i * 1) ++ (Value.int .i64 v).cells.toList ++ (l.map (Value.int .i64)).drop (i * 1 + 1) = (l.set i v).map (Value.int .i64) := by
  rw [Nat.mul_one, List.set_eq_take_append_cons_drop, if_pos h]
  simp [Value.cells, List.map_take, List.map_drop]
end
end Go.Proofs.YtcpnidomdkaefaaGreatDoor
end
section
namespace Go.Att
open Go.RowKit
/-- What a round keeps: the one block of the iterator's own, and a block that is read. -/
def KpO (B : Nat) (o : Option Nat) (W W' : World) : Prop := W.heap.size ≤ W'.heap.size ∧ ∀ k, (k = B ∨ o = some k) → k < W.heap.size → W'.heap[k]? = W.heap[k]?
theorem KpO.refl (B : Nat) (o : Option Nat) (W : World) : KpO B o W W := ⟨Nat.le_refl _, fun _ _ _ => rfl⟩
theorem KpO.trans {B : Nat} {o : Option Nat} {X Y Z : World} (h : KpO B o X Y) (k : KpO B o Y Z) : KpO B o X Z :=
  ⟨Nat.le_trans h.1 k.1, fun q h2 h3 => (k.2 q h2 (Nat.lt_of_lt_of_le h3 h.1)).trans (h.2 q h2 h3)⟩
theorem KpO.of_ext {B : Nat} {o : Option Nat} {W W' : World} (h : Ext W W') : KpO B o W W' := ⟨h.size, fun q _ h3 => h.below.block q h3⟩
theorem KpO.of_grown {B : Nat} {o : Option Nat} {W W' : World} {b : Option Nat} (h : W.grownBy W' b) (hb : ∀ k, b = some k → k ≠ B ∧ o ≠ some k) : KpO B o W W' :=
  ⟨h.size, fun q h2 h3 => h.block q h3 (fun e => by
    have h4 := hb q e.symm
    rcases h2 with h2 | h2
    · exact h4.1 h2
    · exact h4.2 h2)⟩
theorem KpO.cell {B : Nat} {q : Option Nat} {W W' : World} (h : KpO B q W W') {o : Nat} {v : Value} (hc : W.cell? ⟨B, o, none⟩ = some v) : W'.cell? ⟨B, o, none⟩ = some v := by
  rw [World.cell?_of_block (a := ⟨B, o, none⟩) (h.2 B (.inl rfl) (World.block_lt_of_cell? W _ hc))]; exact hc
theorem KpO.ints' {B : Nat} {W W' : World} {q : Option Nat} {v : Value} {l : List Int} (h : KpO B q W W') (hq : q = v.ownBlock) (hv : Ints W v l) : Ints W' v l := by
  subst hq
  obtain ⟨ao, cap, rfl, h2, h3, h4, h5⟩ := hv
  refine ⟨ao, cap, rfl, h2, h3, h4, fun i hi => ?_⟩
  obtain ⟨b, off, rfl, hc⟩ := h5 i hi
  refine ⟨b, off, rfl, ?_⟩
  rw [World.cell?_of_block (a := ⟨b, off + i, none⟩) (h.2 b (.inr rfl) (World.block_lt_of_cell? W _ hc))]; exact hc
end Go.Att
namespace Go.Proofs.YtcpnidomdkaefaaGreatDoor
open Go.RowKit Go.Att Go.Shelf
attribute [local go_sem] Oper.semAt_some
theorem KpO.putObj {B : Nat} {q : Option Nat} {w : World} (hn : B + 1 ≤ w.heap.size) (hq : ∀ k, q = some k → k < w.heap.size) (W : World) (l : Nat) (o o' : Obj) (hl : w.heap.size ≤ l) (_ : W.heap[l]? = some o) (_ : o.isCells = false) (_ : o.isWalk = false) : KpO B q W (W.putObj l o') :=
  KpO.of_grown (grownBy_putObj' W l o') (fun k e => by cases e; exact ⟨by omega, fun e => by have := hq _ e; omega⟩)
set_option maxRecDepth 100000 in
set_option maxHeartbeats 4000000 in
theorem back_any (ao : Option Addr) (len cap : Nat) (w : World) :
    Calls Tryz.prog 142 #[.slice ao len cap] w fun e w' => e = .returned (.func (.func 173) #[] #[.pointer (some ⟨w.heap.size, 0, none⟩)]) ∧ w' = w.alloc (.cells #[.slice ao len cap] 22) := by
  go_enter Tryz.func142, Tryz.ntmps142
  go_wp2_with fail
  go_ret
  exact ⟨rfl, rfl⟩
set_option maxRecDepth 100000 in
set_option maxHeartbeats 8000000 in
theorem back_stops {w : World} (B c : Nat) (q : Option Nat) (v : Value) (l : List Int) (hlc : l.length = c) (hqv : 0 < c → q = v.ownBlock) (hb : l.length ≤ 4294967296) (hB0 : w.cell? ⟨B, 0, none⟩ = some v) (hv : Ints w v l) (n : Nat) (hn : 1 ≤ n) :
    SeqStopsK Fence.wide n Tryz.prog 173 #[.pointer (some ⟨B, 0, none⟩)] (fun x : Fin c => #[.int .i64 (x.1 : Int), .int .i64 (nth l x.1)]) (KpO B q) (fun xs => xs = downF c c (Nat.le_refl c)) (fun pre => ∃ k, ∃ h : k ≤ c, pre = downF c k h) c w := by
  intro l0 J Jx W hW hJ hJx hY h0
  obtain ⟨ao, cap, hvs⟩ := hv.shape
  rw [hlc] at hvs
  subst hvs
  have HV := Lib.hid hv
  have HQ0 := Lib.hid ((show Ext w W from hW).cell hB0)
  have HVW := Lib.hid (hv.ext (show Ext w W from hW))
  have HJA := Lib.hid hJ
  have HY := Lib.hid hY
  clear hB0 hv hW hJ hJx hY
  have HC := Lib.hid hlc; have HQV := Lib.hid hqv
  have hll := HV.out.run_len (P := Tryz.prog) slInts
  rw [hlc] at hb
  rw [hlc] at hll
  clear hlc hqv
  refine callsIn_of_wp Tryz.func173 rfl trivial ?_ rfl
  simp only [Tryz.ntmps173, List.size_toArray, List.length_cons, List.length_nil, Nat.reduceAdd, Nat.reduceSub, Array.replicate_succ, Array.replicate_zero, List.push_toArray, List.append_toArray, List.nil_append, List.cons_append]
  have hc0 := HQ0.out
  gi_wp2
  gi_loopw [3] (fun x3 wr => ∃ k : Nat, ∃ hk : k ≤ c, x3 = .int .i64 ((c : Int) - 1 - k) ∧ J (downF c k hk) wr ∧ KpO B q W wr) (fun x3 _ => (intOf x3 + 1).toNat)
  case atStart => exact ⟨0, Nat.zero_le _, by simp, h0, KpO.refl _ _ _⟩
  case round =>
    clear hc0
    obtain ⟨k, hk, rfl, hJs, hKW⟩ := hrel
    have HJ := Lib.hid hJs; have HK := Lib.hid hKW
    have hc0 := hKW.cell HQ0.out
    clear hJs hKW
    by_cases hkc : k < c
    · obtain ⟨i, hi⟩ : ∃ i, c - 1 - k = i := ⟨_, rfl⟩
      have hil : i < l.length := by rw [HC.out]; omega
      have e1 : (c : Int) - 1 - (k : Int) = (i : Int) := by omega
      have HVR := Lib.hid (HK.out.ints' (HQV.out (by omega)) HVW.out)
      have hix := HVR.out.run_index (P := Tryz.prog) slInts i hil
      have hci := HVR.out.cell i hil
      have HI := Lib.hid hi
      rw [e1]
      have HIC := Lib.hid (show i < c from by omega)
      have HDF := Lib.hid (show downF c (k + 1) hkc = downF c k hk ++ [⟨i, HIC.out⟩] from by rw [downF]; congr 3)
      have HE2 := Lib.hid (show (i : Int) - 1 = (c : Int) - 1 - ((k + 1 : Nat) : Int) from by omega)
      have hib : i ≤ 4294967296 := by omega
      clear e1 hi
      obtain ⟨fn, tmps, assign, body, hy, hR⟩ := HY.out _ (⟨i, HIC.out⟩ : Fin c) wr HJ.out (by rw [downF_length]; exact hkc)
      dsimp only at hy
      gi_wp2
      refine hR.mono ?_
      rintro e w3 (⟨rfl, hJ3, hk3⟩ | ⟨rfl, hJx3⟩)
      · have HJ3 := Lib.hid hJ3
        have HK3 := Lib.hid (HK.out.trans hk3)
        clear hJ3 hk3 hc0 HJ HK hix hci hy hR
        gi_wp2
        go_roundw
        case rel => exact ⟨k + 1, hkc, by rw [← HE2.out], by rw [HDF.out]; exact HJ3.out, HK3.out⟩
        case measure => simp [intOf]
      · have HJX := Lib.hid hJx3
        clear hJx3 hc0 HJ HK hix hci hy hR
        gi_wp2
        refine bodyPost_ret (results_none rfl _ _ _) rfl ?_
        exact ⟨⟨_, rfl⟩, .inr ⟨_, ⟨k + 1, hkc, HDF.out.symm⟩, HJX.out⟩⟩
    · obtain rfl : k = c := by omega
      gi_wp2
      go_end0
      first | exact ⟨⟨_, rfl⟩, .inl HJ.out⟩ | exact ⟨⟨_, rfl⟩, .inl ⟨_, rfl, HJ.out⟩⟩
end Go.Proofs.YtcpnidomdkaefaaGreatDoor
end
section
namespace Go.Proofs.YtcpnidomdkaefaaGreatDoor
open Go.RowKit Go.Att Go.Shelf
attribute [local go_sem] Oper.semAt_some
section
variable {w : World} {bf : Nat} {p g : Int} {fs : List Int}
set_option maxRecDepth 100000 in
set_option maxHeartbeats 8000000 in
theorem peval_any (hf : Fld w (.pointer (some ⟨bf, 0, none⟩)) p g fs) (v : Value) (l : List Int) (x : Int) (hv : Ints w v l) (hl : l.length ≤ 4294967000) :
    Calls Tryz.prog 95 #[.pointer (some ⟨bf, 0, none⟩), v, .int .i64 x] w (Gives w fun u _w' => u = .int .i64 (ev l x % p)) := by
  obtain ⟨N, hN⟩ : ∃ N, l.length = N := ⟨_, rfl⟩
  obtain ⟨a1, c1, hvs⟩ := hv.shape
  rw [hN] at hvs hl
  subst hvs
  obtain ⟨q, hq, hq2⟩ : ∃ q : Option Nat, (0 < N → q = (Value.slice a1 N c1).ownBlock) ∧ ∀ k, q = some k → k < w.heap.size := by
    by_cases h0 : 0 < N
    · exact ⟨_, fun _ => rfl, ints_lt9 hv (by omega)⟩
    · exact ⟨none, fun h => absurd h h0, fun k e => by cases e⟩
  have HF := Lib.hid hf; have HV := Lib.hid hv; have HQ := Lib.hid hq; have HQ2 := Lib.hid hq2; have HN := Lib.hid hN
  have HPF := Lib.hid (show evF p x l (downF N N (Nat.le_refl N)) = ev l x % p from by subst hN; exact evF_all p x l)
  clear hf hv hq hq2 hN
  obtain ⟨W0, hW0⟩ : ∃ W0, W0 = ((w.alloc (Obj.cells #[.pointer (some ⟨bf, 0, none⟩)] 47)).alloc (Obj.cells #[.int .i64 x] 3)).alloc (Obj.cells #[.int .i64 0] 3) := ⟨_, rfl⟩
  have hs0 : W0.heap.size = w.heap.size + 3 := by rw [hW0]; simp
  have hx0 : Ext w W0 := by rw [hW0]; exact ((Ext.alloc _ _).trans (Ext.alloc _ _)).trans (Ext.alloc _ _)
  have k0 : W0.cell? ⟨w.heap.size, 0, none⟩ = some (.pointer (some ⟨bf, 0, none⟩)) := by rw [hW0]; exact ((Ext.alloc _ _).trans (Ext.alloc _ _)).cell (cell_new w #[.pointer (some ⟨bf, 0, none⟩)] _ 0)
  have k1 : W0.cell? ⟨w.heap.size + 1, 0, none⟩ = some (.int .i64 x) := by rw [hW0]; have := cell_new (w.alloc (Obj.cells #[.pointer (some ⟨bf, 0, none⟩)] 47)) #[.int .i64 x] 3 0; rw [World.size_alloc] at this; exact (Ext.alloc _ _).cell this
  have k2 : BlkOf W0 (w.heap.size + 2) [.int .i64 0] 3 := by rw [hW0]; have := BlkOf.new ((w.alloc (Obj.cells #[.pointer (some ⟨bf, 0, none⟩)] 47)).alloc (Obj.cells #[.int .i64 x] 3)) [.int .i64 0] 3; rw [World.size_alloc, World.size_alloc] at this; exact this
  have HS0 := Lib.hid hs0; have HX0 := Lib.hid hx0; have K0 := Lib.hid k0; have K1 := Lib.hid k1; have K2 := Lib.hid k2
  have HW0 := Lib.hid hW0
  clear hs0 hx0 k0 k1 k2 hW0
  refine (callsIn_wide (n := 3)).1 ?_
  refine callsIn_of_wp_marks Tryz.func95 rfl trivial ?_ rfl
  simp only [Tryz.ntmps95, List.size_toArray, List.length_cons, List.length_nil, Nat.reduceAdd, Nat.reduceSub, Array.replicate_succ, Array.replicate_zero, List.push_toArray, List.append_toArray, List.nil_append, List.cons_append]
  gi_wp2_with (refine ⟨trivial, ?_⟩; gi_at_call 142; refine (callsIn_wide.2 (back_any a1 N c1 _)).mono ?_; rintro e w2 ⟨rfl, hw2⟩; have HW2 := Lib.hid hw2; clear hw2)
  have hw2 := HW2.out
  rw [← HW0.out] at hw2
  have hx2 : Ext W0 w2 := by rw [hw2]; exact Ext.alloc _ _
  have hB0 : w2.cell? ⟨w.heap.size + 3, 0, none⟩ = some (.slice a1 N c1) := by rw [hw2, ← HS0.out]; exact cell_new W0 #[.slice a1 N c1] _ 0
  have hs2 : w2.heap.size = w.heap.size + 4 := by rw [hw2, World.size_alloc, HS0.out]
  clear hw2 HW2 HW0
  have HXX := Lib.hid (HX0.out.trans hx2)
  refine wpIn_rangeFunc_ownF rfl (by omega) (gf := 173) (lb := #[.pointer (some ⟨w.heap.size + 3, 0, none⟩)]) rfl trivial (enters_of Tryz.func173 (by kernel_rfl) rfl)
    (back_stops (w.heap.size + 3) N q (.slice a1 N c1) l HN.out HQ.out (by rw [HN.out]; omega) hB0 (HV.out.ext HXX.out) (3 - 1) (by omega)) (fun h k => KpO.trans h k) (KpO.putObj (by omega) (fun k hk => by have := HQ2.out k hk; omega)) (Below.refl _ _) (fun _ => rfl)
    (fun pre W => W.cell? ⟨w.heap.size, 0, none⟩ = some (.pointer (some ⟨bf, 0, none⟩)) ∧ W.cell? ⟨w.heap.size + 1, 0, none⟩ = some (.int .i64 x) ∧ BlkOf W (w.heap.size + 2) [.int .i64 (evF p x l pre)] 3 ∧ Ext w W)
    (fun _ _ _ => False)
    (ownFrom_of ?own)
    (fun _ _ _ _ _ hs _ _ => hs)
    ⟨hx2.cell K0.out, hx2.cell K1.out, K2.out.ext hx2, HXX.out⟩
    (fun i => { tmps := #[.pointer (some ⟨bf, 0, none⟩), .slice a1 N c1, .int .i64 x, .pointer (some ⟨w.heap.size, 0, none⟩), undef, .pointer (some ⟨w.heap.size + 1, 0, none⟩), .int .i64 0, .pointer (some ⟨w.heap.size + 2, 0, none⟩), undef, .int .i64 (nth l i.1), .slice a1 N c1, .func (.func 173) #[] #[.pointer (some ⟨w.heap.size + 3, 0, none⟩)], .int .i64 (i.1 : Int), .int .i64 (nth l i.1), undef, undef, undef, undef, undef, undef, undef, undef], defers := [] }) ?assign ?body ?done ?stop
  case own =>
    rintro pre A B row ⟨h1, h2, h3, h4⟩ hg hr
    have hne : ∀ k, k < w2.heap.size → some k ≠ row := fun k hk e => by have := hr k e.symm; omega
    exact ⟨hg.cell h1 (hne _ (by show w.heap.size < _; omega)), hg.cell h2 (hne _ (by show w.heap.size + 1 < _; omega)), h3.grown hg (hne _ (by omega)), Below.grown h4.below hg h4.size (fun k e => by have := hr k e; omega)⟩
  case assign =>
    intro l x W K hK
    gi_wp2
    exact hK
  case body =>
    rintro l0 pre i W ⟨h1, h2, h3, h4⟩ hlen
    have h30 : W.cell? ⟨w.heap.size + 2, 0, none⟩ = some (.int .i64 (evF p x l pre)) := h3.cell 0
    have h3f := h3.free 0
    have HSN := Lib.hid (evF_snoc p x l pre i)
    have HFW := Lib.hid (HF.out.ext h4)
    have H1 := Lib.hid h1; have H2 := Lib.hid h2; have H3 := Lib.hid h3; have H4 := Lib.hid h4
    have HCB := Lib.hid (show ∀ o, W.heap[w.heap.size + 2]? = some o → o.isCells = true from fun o ho => by
      have h2' := h3
      unfold BlkOf at h2'
      rw [h2'] at ho
      cases ho; rfl)
    generalize evF p x l pre = E at *
    generalize nth l i.1 = y at *
    clear h3 h4
    gi_wp2
    refine wpIn_region_quiet_tail 7 (by kernel_rfl) (by kernel_rfl) (by kernel_rfl) ?_
    simp only [List.take_succ_cons, List.take_zero, List.drop_succ_cons, List.drop_zero]
    repeat (go_big_quiet_step (first | (go_at_call 65; exact add_q HFW.out _ _ _) | (go_at_call 94; exact mul_q HFW.out _ _ _)))
    refine wpQuiet_nil ?_
    rintro _ ⟨nq, rfl⟩
    have HB5 := Lib.hid ((H3.out.ext (Ext.drewN W nq)).set 0 (.int .i64 (fadd p (fmul p E x) y)))
    gi_wp2
    have hgf := ((Ext.drewN W nq).grownBy (some (w.heap.size + 2))).trans (setCell_grown (W.drewN nq) (w.heap.size + 2) 0 (.int .i64 (fadd p (fmul p E x) y)))
    refine ⟨KeepsOthers.of_grownBy hgf (fun j o e hj => by cases e; exact HCB.out o hj), KpO.of_grown hgf (fun k e => by cases e; exact ⟨by omega, fun e2 => by have := HQ2.out _ e2; omega⟩), hgf.cell H1.out (fun e => by have : w.heap.size = w.heap.size + 2 := Option.some.inj e; omega), hgf.cell H2.out (fun e => by have : w.heap.size + 1 = w.heap.size + 2 := Option.some.inj e; omega), by rw [HSN.out]; exact HB5.out, Below.grown H4.out.below hgf H4.out.size (fun k e => by cases e; omega)⟩
  case done =>
    rintro D xs W hD rfl ⟨h1, h2, h3, h4⟩ hK
    have h30 : W.cell? ⟨w.heap.size + 2, 0, none⟩ = some _ := h3.cell 0
    gi_wp2
    refine ⟨by simp, .inl ⟨_, _, rfl, run_takeDeferred hK, ?_⟩⟩
    have hg := grownBy_putObj' W D (.deferred none)
    exact ⟨_, results_tmp rfl _ _ _, .mk _ rfl (Below.grown h4.below hg h4.size (fun q e => by have := Option.some.inj e; omega)) (by rw [HPF.out]; rfl)⟩
  case stop =>
    rintro D c pre W _ _ h _
    exact h.elim
end
end Go.Proofs.YtcpnidomdkaefaaGreatDoor
end
