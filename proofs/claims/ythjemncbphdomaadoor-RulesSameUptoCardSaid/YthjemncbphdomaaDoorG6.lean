/- Products tell lists of elements apart: the plain law. -/
import Derived.Test.YthjemncbphdomaaDoorPrim
namespace Go.Att
def prodAt (us : List Int) (x : Int) : Int := prodL (us.map fun u => x - u)
theorem ev_append (l m : List Int) (x : Int) : ev (l ++ m) x = ev l x + x ^ l.length * ev m x := by
  induction l with
  | nil => simp [ev]
  | cons c l ih => simp only [List.cons_append, ev, List.length_cons, Int.pow_succ, ih]; grind
theorem lin_mul (u : Int) (L : List Int) : ∃ L', L'.length = L.length + 1 ∧ ∀ x, (x - u) * ev (L ++ [1]) x = ev (L' ++ [1]) x := by
  induction L with
  | nil => exact ⟨[-u], rfl, fun x => by simp [ev]; grind⟩
  | cons c L ih =>
    obtain ⟨L', h1, h2⟩ := ih
    cases L' with
    | nil => simp at h1
    | cons d L' =>
      refine ⟨(-u * c) :: (c + d) :: L', by simp at h1 ⊢; omega, fun x => ?_⟩
      have := h2 x
      simp only [List.cons_append, ev] at this ⊢
      grind
theorem monic (us : List Int) : ∃ L, L.length = us.length ∧ ∀ x, prodAt us x = ev (L ++ [1]) x := by
  induction us with
  | nil => exact ⟨[], rfl, fun x => by simp [prodAt, prodL, ev]⟩
  | cons u us ih =>
    obtain ⟨L, h1, h2⟩ := ih
    obtain ⟨L', h3, h4⟩ := lin_mul u L
    refine ⟨L', by simp [h3, h1], fun x => ?_⟩
    rw [← h4, ← h2]
    simp [prodAt, prodL]
theorem ev_sub (A B : List Int) (h : A.length = B.length) (x : Int) : ev (List.zipWith (· - ·) A B) x = ev A x - ev B x := by
  induction A generalizing B with
  | nil => cases B <;> simp_all [ev]
  | cons a A ih =>
    cases B with
    | nil => simp at h
    | cons b B => simp only [List.zipWith_cons_cons, ev, ih B (by simpa using h)]; grind
theorem ev_dvd {p : Int} (l : List Int) (h : ∀ c ∈ l, p ∣ c) (x : Int) : p ∣ ev l x := by
  induction l with
  | nil => exact Int.dvd_zero _
  | cons c l ih => exact Int.dvd_add (h c (by simp)) (Int.dvd_mul_of_dvd_right (ih (fun d hd => h d (by simp [hd]))))
/-- What two products agree on at as many points as they have factors, they agree on everywhere. -/
theorem agree_all {p : Int} (hp : Pr p) (us vs xs : List Int) (h : us.length = vs.length) (hx : xs.Pairwise fun a b => ¬ p ∣ a - b) (hn : us.length ≤ xs.length)
    (he : ∀ x ∈ xs, p ∣ prodAt us x - prodAt vs x) (x : Int) : p ∣ prodAt us x - prodAt vs x := by
  obtain ⟨L, h1, h2⟩ := monic us
  obtain ⟨M, h3, h4⟩ := monic vs
  have hD : ∀ x, ev (List.zipWith (· - ·) L M) x = prodAt us x - prodAt vs x := by
    intro x
    rw [ev_sub L M (by omega), h2, h4, ev_append, ev_append, h1, h3, h]
    simp [ev]; omega
  rw [← hD]
  refine ev_dvd _ (fun c hc => Classical.byContradiction fun hn' => ?_) x
  have := roots hp _ ⟨c, hc, hn'⟩ xs hx (fun x hxm => by rw [hD]; exact he x hxm)
  simp at this; omega
theorem prodAt_perm {us vs : List Int} (h : us.Perm vs) (x : Int) : prodAt us x = prodAt vs x := prodL_perm (h.map _)
theorem dvd_prodL {p : Int} (hp : Pr p) (l : List Int) (h : p ∣ prodL l) : ∃ c ∈ l, p ∣ c := by
  induction l with
  | nil => simp only [prodL, List.foldr_nil] at h; have := Int.le_of_dvd (by decide) h; have := hp.two; omega
  | cons c l ih =>
    simp only [prodL, List.foldr_cons] at h
    rcases hp.euclid h with h1 | h1
    · exact ⟨c, by simp, h1⟩
    · obtain ⟨d, h2, h3⟩ := ih h1; exact ⟨d, by simp [h2], h3⟩
theorem dvd_sub_comm {p a b : Int} (h : p ∣ a - b) : p ∣ b - a := by
  have := Int.dvd_neg.2 h; rwa [Int.neg_sub] at this
theorem filter_apart (p u : Int) (xs : List Int) (hx : xs.Pairwise fun a b => ¬ p ∣ a - b) : xs.length ≤ (xs.filter fun x => decide (¬ p ∣ x - u)).length + 1 := by
  induction xs with
  | nil => simp
  | cons a xs ih =>
    obtain ⟨h1, h2⟩ := List.pairwise_cons.1 hx
    by_cases ha : p ∣ a - u
    · have : xs.filter (fun x => decide (¬ p ∣ x - u)) = xs := by
        rw [List.filter_eq_self]
        intro x hx
        simp only [decide_eq_true_eq]
        intro hd
        apply h1 x hx
        have := Int.dvd_sub ha hd
        have e : a - u - (x - u) = a - x := by omega
        rwa [e] at this
      rw [List.filter_cons_of_neg (by simpa using ha), this]; simp
    · rw [List.filter_cons_of_pos (by simpa using ha)]
      have := ih h2
      simp only [List.length_cons]; omega
theorem same_of_products {p : Int} (hp : Pr p) (us vs xs : List Int) (h : us.length = vs.length) (hx : xs.Pairwise fun a b => ¬ p ∣ a - b) (hn : us.length ≤ xs.length)
    (he : ∀ x ∈ xs, p ∣ prodAt us x - prodAt vs x) : (us.map (· % p)).Perm (vs.map (· % p)) := by
  induction us generalizing vs xs with
  | nil =>
    have : vs = [] := List.eq_nil_of_length_eq_zero (by simpa using h.symm)
    subst this; exact List.Perm.refl _
  | cons u us ih =>
    have hall := agree_all hp (u :: us) vs xs h hx hn he
    have h0 : p ∣ prodAt vs u := by
      have h1 := hall u
      have : prodAt (u :: us) u = 0 := by simp [prodAt, prodL]
      rw [this, Int.zero_sub] at h1
      exact Int.dvd_neg.1 h1
    obtain ⟨c, hc, hd⟩ := dvd_prodL hp _ h0
    obtain ⟨v, hv, rfl⟩ := List.mem_map.1 hc
    have hperm := List.perm_cons_erase hv
    have hlen : us.length = (vs.erase v).length := by rw [List.length_erase_of_mem hv, ← h]; simp
    have key := ih (vs.erase v) (xs.filter fun x => decide (¬ p ∣ x - u)) hlen (hx.filter _) (by have := filter_apart p u xs hx; simp at hn; omega) (fun x hxm => by
      have hxu : ¬ p ∣ x - u := by simpa using (List.mem_filter.1 hxm).2
      have h1 := hall x
      rw [prodAt_perm hperm] at h1
      simp only [prodAt, List.map_cons, prodL, List.foldr_cons] at h1
      have h2 : p ∣ (x - u) * (prodAt us x - prodAt (vs.erase v) x) := by
        have e : (x - u) * (prodAt us x - prodAt (vs.erase v) x) = ((x - u) * prodAt us x - (x - v) * prodAt (vs.erase v) x) + (u - v) * prodAt (vs.erase v) x := by grind
        rw [e]
        exact Int.dvd_add h1 (Int.dvd_mul_of_dvd_left hd)
      exact (hp.euclid h2).resolve_left hxu)
    have e : u % p = v % p := mod_eq_of_dvd_sub hd
    refine List.Perm.trans ?_ (hperm.map (· % p)).symm
    simp only [List.map_cons, e]
    exact List.Perm.cons _ key
end Go.Att
