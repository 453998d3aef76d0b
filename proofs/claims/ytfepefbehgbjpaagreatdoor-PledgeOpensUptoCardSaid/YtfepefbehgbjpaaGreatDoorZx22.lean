/- Two openings that show all rows of a tree with one root, plain: going down where the lists are the same ends where two unlike lists have one digest; where no leaf differs, both pledges say one number. No program in sight. What pledge.Open answers is shown, plain: the tree's groups give the root; the columns agree with the mixtures. No program in sight. What pledge.Open says is what the table Extends to, plain. No program in sight. -/
import Derived.Test.YtfepefbehgbjpaaGreatDoorZx17
import Derived.Test.YtfepefbehgbjpaaGreatDoorZx15
import Derived.Test.YtfepefbehgbjpaaGreatDoorZx16
import Derived.Test.YtfepefbehgbjpaaGreatDoorZx10
import Derived.Test.YtfepefbehgbjpaaGreatDoorOj
import Derived.Test.YtfepefbehgbjpaaGreatDoorOl
import Derived.Test.YtfepefbehgbjpaaGreatDoorZx18
section
namespace Go.Att
open Go.RowKit
theorem full_at {pl : List Int} {n : Nat} (h : ascB pl n = true) (hl : pl.length = n) {i : Nat} (hi : i < n) : nth pl i = i := by
  have ha := ascB_asc h
  have lo : ∀ i, i < n → (i : Int) ≤ nth pl i := by
    intro i
    induction i with
    | zero => intro hi; exact (ascB_in h (nth_mem (by omega))).1
    | succ i ih => intro hi; have := ih (by omega); have := ha.at (show i < i + 1 by omega) (by omega); omega
  have hi' : ∀ d i, i + d + 1 = n → nth pl i ≤ i := by
    intro d
    induction d with
    | zero => intro i e; have := (ascB_in h (nth_mem (show i < pl.length by omega))).2; omega
    | succ d ih => intro i e; have := ih (i + 1) (by omega); have := ha.at (show i < i + 1 by omega) (by omega); omega
  have := lo i hi
  have := hi' (n - i - 1) i (by omega)
  omega
theorem full_row {pl : List Int} {rows : List (List Int)} {n : Nat} (h : ascB pl n = true) (hl : pl.length = n) {i : Nat} (hi : i < n) : rowOf pl rows i = nthL rows i := by
  unfold rowOf
  have hc : pl.countP (· < (i : Int)) = i := by
    have hs := (ascB_asc h).le
    have hle : pl.countP (· < (i : Int)) ≤ pl.length := List.countP_le_length
    rcases Nat.lt_trichotomy (pl.countP (· < (i : Int))) i with h1 | h1 | h1
    · have := (count_below hs (i : Int) (pl.countP (· < (i : Int))) (by omega)).2 (by rw [full_at h hl (by omega)]; omega)
      omega
    · exact h1
    · have := (count_below hs (i : Int) i (by omega)).1 h1
      rw [full_at h hl hi] at this
      omega
  rw [hc]
theorem full_sho {pl : List Int} {n : Nat} (h : ascB pl n = true) (hl : pl.length = n) {a m : Nat} (h1 : 1 ≤ m) (h2 : a + m ≤ n) : sho pl a ((a : Int) + m) = true := by
  rw [sho_iff]
  exact ⟨nth pl a, nth_mem (by omega), by rw [full_at h hl (by omega)]; omega, by rw [full_at h hl (by omega)]; omega⟩
theorem map_fof_twice (p : Int) (l : List Int) : (l.map (fof p)).map (fof p) = l.map (fof p) := by
  rw [List.map_map]
  exact List.map_congr_left fun x _ => fofI_idem p x
section
variable {p : Int} {k : Nat} {pl : List Int} {rows : List (List Int)} {D L : Int → Int → Option (List Int)} {N : Nat} (hp : 2 ≤ p) (hf : ascB pl N = true) (hl : pl.length = N)
include hf hl
include hp in
theorem Wkd.both {f a n : Nat} {nodes : List (List Int)} (h1 : 1 ≤ n) (h2 : a + n ≤ N) (h : Wkd p k pl rows D L f a n nodes) : ∃ l, L a ((a : Int) + n) = some l ∧ D a ((a : Int) + n) = some (hashP p k l) ∧ l.map (fof p) = l ∧
    ((n = 1 ∧ l = 0 :: (nthL rows a).map (fof p)) ∨ (n ≠ 1 ∧ l.length = 9)) := by
  have z0 : fof p 0 = 0 := Int.zero_emod _
  have z1 : fof p 1 = 1 := Int.emod_eq_of_lt (by decide) (by omega)
  cases f with
  | zero => exact h.elim
  | succ f =>
    simp only [Wkd] at h
    rw [if_pos (full_sho hf hl h1 h2)] at h
    by_cases hn : n = 1
    · rw [if_pos hn] at h
      rw [full_row (rows := rows) hf hl (show a < N by omega)] at h
      refine ⟨_, h.2, by rw [h.1, hashP_cons_map], ?_, .inl ⟨hn, rfl⟩⟩
      rw [List.map_cons, map_fof_twice, z0]
    · rw [if_neg hn] at h
      have hb := lfN_bd (show 2 ≤ n by omega)
      obtain ⟨x, r, y, s, c1, c2, w1, w2, d1, d2⟩ := h
      have fx : ∀ {f a n : Nat} {nodes : List (List Int)} {x : List Int} {r : List (List Int)}, clbF p k pl rows f a n nodes = some (x, r) → x.map (fof p) = x := by
        intro f a n nodes x r h
        cases f with
        | zero => simp [clbF] at h
        | succ f =>
          simp only [clbF] at h
          split at h
          · split at h
            · obtain ⟨rfl, rfl⟩ := Prod.mk.inj (Option.some.inj h); exact hashP_fof hp _ _
            · split at h
              · cases h
              · split at h
                · cases h
                · obtain ⟨rfl, rfl⟩ := Prod.mk.inj (Option.some.inj h); exact hashP_fof hp _ _
          · split at h
            · cases h
            · split at h
              · obtain ⟨rfl, rfl⟩ := Prod.mk.inj (Option.some.inj h); exact map_fof_twice p _
              · cases h
      refine ⟨_, d2, d1, by rw [List.map_cons, List.map_append, fx c1, fx c2, z1], .inr ⟨hn, ?_⟩⟩
      rw [List.length_cons, List.length_append, clbF_len c1, clbF_len c2]
end
def TwoAt (p : Int) (k : Nat) (pl : List Int) (rows rows' : List (List Int)) (D L D' L' : Int → Int → Option (List Int)) (f a m : Nat) : Prop :=
  ∃ nodes nodes', Wkd p k pl rows D L f a m nodes ∧ Wkd p k pl rows' D' L' f a m nodes' ∧ D a ((a : Int) + m) = D' a ((a : Int) + m)
section
variable {p : Int} {k : Nat} {pl : List Int} {rows rows' : List (List Int)} {D L D' L' : Int → Int → Option (List Int)} {N : Nat} (hp : 2 ≤ p) (hf : ascB pl N = true) (hl : pl.length = N)
include hp hf hl
theorem TwoAt.at {f a m : Nat} (h : TwoAt p k pl rows rows' D L D' L' f a m) (h1 : 1 ≤ m) (h2 : a + m ≤ N) : ∃ l l' d, L a ((a : Int) + m) = some l ∧ L' a ((a : Int) + m) = some l' ∧ D a ((a : Int) + m) = some d ∧ D' a ((a : Int) + m) = some d ∧ hashP p k l = d ∧ hashP p k l' = d ∧
    l.map (fof p) = l ∧ l'.map (fof p) = l' ∧ (m = 1 → l = 0 :: (nthL rows a).map (fof p) ∧ l' = 0 :: (nthL rows' a).map (fof p)) ∧ (m ≠ 1 → l.length = 9 ∧ l'.length = 9) := by
  obtain ⟨nodes, nodes', w1, w2, e⟩ := h
  obtain ⟨l, a1, a2, a3, a4⟩ := w1.both hp hf hl h1 h2
  obtain ⟨l', b1, b2, b3, b4⟩ := w2.both hp hf hl h1 h2
  have e2 : hashP p k l = hashP p k l' := by rw [a2, b2] at e; exact Option.some.inj e
  refine ⟨l, l', _, a1, b1, a2, by rw [b2, e2], rfl, e2.symm, a3, b3, fun hm => ?_, fun hm => ?_⟩
  · rcases a4 with ⟨-, a4⟩ | ⟨q, -⟩
    · rcases b4 with ⟨-, b4⟩ | ⟨q, -⟩
      · exact ⟨a4, b4⟩
      · exact absurd hm q
    · exact absurd hm q
  · rcases a4 with ⟨q, -⟩ | ⟨-, a4⟩
    · exact absurd q hm
    · rcases b4 with ⟨q, -⟩ | ⟨-, b4⟩
      · exact absurd q hm
      · exact ⟨a4, b4⟩
end
end Go.Att
namespace Go.Proofs.YtfepefbehgbjpaaGreatDoor
open Go.RowKit Go.Att
end Go.Proofs.YtfepefbehgbjpaaGreatDoor
end
section
namespace Go.Att
open Go.RowKit
theorem rootF_fuel (p : Int) (k : Nat) : ∀ (f g : Nat) (L : List (List Int)), 1 ≤ L.length → L.length ≤ f → L.length ≤ g → rootF p k f L = rootF p k g L
  | 0, _, L, h1, h2, _ => by omega
  | _ + 1, 0, L, h1, _, h2 => by omega
  | f + 1, g + 1, L, h1, h2, h3 => by
    simp only [rootF]
    by_cases hn : L.length = 1
    · rw [if_pos hn, if_pos hn]
    · rw [if_neg hn, if_neg hn]
      have hb := lfN_bd (show 2 ≤ L.length by omega)
      rw [rootF_fuel p k f g (L.take (lfN L.length)) (by rw [List.length_take]; omega) (by rw [List.length_take]; omega) (by rw [List.length_take]; omega), rootF_fuel p k f g (L.drop (lfN L.length)) (by rw [List.length_drop]; omega) (by rw [List.length_drop]; omega) (by rw [List.length_drop]; omega)]
theorem rootF_fof {p : Int} (hp : 2 ≤ p) (k : Nat) : ∀ (f : Nat) (L : List (List Int)), 1 ≤ f → (rootF p k f L).map (fof p) = rootF p k f L ∧ (rootF p k f L).length = 4
  | 0, _, h => by omega
  | f + 1, L, _ => by
    simp only [rootF]
    split <;> exact ⟨hashP_fof hp k _, hashP_length _ _ _⟩
theorem rootF_one (p : Int) (k : Nat) {L : List (List Int)} (h : L.length = 1) : rootF p k 1 L = hashP p k (0 :: nthL L 0) := by
  simp only [rootF]; rw [if_pos h]
theorem rootF_two (p : Int) (k : Nat) {n : Nat} {L : List (List Int)} (h : L.length = n) (hn : 2 ≤ n) : rootF p k n L = hashP p k (1 :: (rootF p k (lfN n) (L.take (lfN n)) ++ rootF p k (n - lfN n) (L.drop (lfN n)))) := by
  have hb := lfN_bd hn
  obtain ⟨m, hm⟩ : ∃ m, n = m + 1 := ⟨n - 1, by omega⟩
  have e : rootF p k n L = rootF p k (m + 1) L := by rw [hm]
  rw [e]
  simp only [rootF]
  rw [if_neg (by omega), h, rootF_fuel p k m (lfN n) (L.take (lfN n)) (by rw [List.length_take]; omega) (by rw [List.length_take]; omega) (by rw [List.length_take]; omega), rootF_fuel p k m (n - lfN n) (L.drop (lfN n)) (by rw [List.length_drop]; omega) (by rw [List.length_drop]; omega) (by rw [List.length_drop]; omega)]
theorem row_sho {p : Int} {pl : List Int} (ha : Asc pl) (rows : List (List Int)) {a : Nat} (h : sho pl a ((a : Int) + 1) = true) : rowOf pl (shoR p rows pl pl.length) a = (nthL rows a).map (fof p) := by
  rw [sho_search ha.le, Bool.and_eq_true, decide_eq_true_eq, decide_eq_true_eq] at h
  obtain ⟨h1, h2⟩ := h
  have h3 := count_below ha.le (a : Int) _ h1
  have h4 : nth pl (pl.countP (· < (a : Int))) = a := by
    have : ¬ nth pl (pl.countP (· < (a : Int))) < a := fun h => Nat.lt_irrefl _ (h3.2 h)
    omega
  unfold rowOf
  have h5 : pl.countP (· < (a : Int)) < (shoR p rows pl pl.length).length := by rw [shoR_length (Nat.le_refl _)]; exact h1
  rw [nthL_eq h5]
  have h6 : pl[pl.countP (· < (a : Int))] = (a : Int) := by rw [← nth_eq h1]; exact h4
  simp [shoR, h6]
theorem clb_nod {p : Int} (hp : 2 ≤ p) (k : Nat) {pl : List Int} (ha : Asc pl) (rows : List (List Int)) : ∀ (f a n : Nat) (rest : List (List Int)), 1 ≤ n → n ≤ f → a + n ≤ rows.length → clbF p k pl (shoR p rows pl pl.length) f a n (nodL p k pl rows f a n ++ rest) = some (rootF p k n ((rows.drop a).take n), rest)
  | 0, a, n, rest, h1, h2, h3 => by omega
  | f + 1, a, n, rest, h1, h2, h3 => by
    have hl : ((rows.drop a).take n).length = n := by rw [List.length_take, List.length_drop]; omega
    simp only [clbF, nodL]
    by_cases hs : sho pl a ((a : Int) + n) = true
    · rw [if_pos hs, if_pos hs]
      by_cases hn : n = 1
      · rw [if_pos hn, if_pos hn]
        subst hn
        rw [row_sho ha rows (by simpa using hs), hashP_cons_map, rootF_one p k hl]
        have : nthL ((rows.drop a).take 1) 0 = nthL rows a := by
          rw [nthL_eq (by omega), nthL_eq (by omega)]; simp
        rw [this]; rfl
      · rw [if_neg hn, if_neg hn]
        have hb := lfN_bd (show 2 ≤ n by omega)
        rw [List.append_assoc, clb_nod hp k ha rows f a (lfN n) _ hb.1 (by omega) (by omega)]
        dsimp only
        rw [clb_nod hp k ha rows f (a + lfN n) (n - lfN n) rest (by omega) (by omega) (by omega)]
        dsimp only
        rw [rootF_two p k hl (by omega), List.take_take, Nat.min_eq_left (by omega), List.drop_take, List.drop_drop]
    · rw [if_neg hs, if_neg hs]
      have := rootF_fof hp k n ((rows.drop a).take n) h1
      simp [this.1, this.2]
theorem mix_ev {p : Int} (f : Nat → Int) (rows : List (List Int)) (m : Nat) (x : Int) (col : List Int) : ∀ c, c ≤ rows.length → (∀ i, i < rows.length → (nthL rows i).length = m) → (∀ j, j < c → nth col j % p = ev (nthL rows j) x % p) → ev (mxU p f rows m c) x % p = dtU p f col c
  | 0, _, _, _ => by simp [mxU, dtU, ev_zs]
  | c + 1, h1, h2, h3 => by
    have ih := mix_ev (p := p) f rows m x col c (by omega) h2 (fun j hj => h3 j (by omega))
    rw [mxU, dtU, addc_ev _ _ _ _ _ (by rw [mxU_length p f rows m h2 c (by omega), h2 c (by omega)]), ← ih]
    unfold fadd fmul
    have e : f c * ev (nthL rows c) x % p = f c * nth col c % p := by rw [Int.mul_emod, ← h3 c (by omega), ← Int.mul_emod]
    rw [← e]; simp
theorem rowsL_row {t : List Int} {v : Nat} (ht : t.length = 2 ^ v) : ∀ i, i < (rowsL t (2 ^ (v - v / 2)) (2 ^ (v / 2))).length → (nthL (rowsL t (2 ^ (v - v / 2)) (2 ^ (v / 2))) i).length = 2 ^ (v - v / 2) := fun i hi => by
  rw [rowsL_length] at hi
  rw [rowsL_nth _ _ _ _ hi, List.length_take, List.length_drop, ht]
  have h1 : 2 ^ v = 2 ^ (v / 2) * 2 ^ (v - v / 2) := by rw [← Nat.pow_add]; congr 1; omega
  rw [h1]
  have h2 : (i + 1) * 2 ^ (v - v / 2) ≤ 2 ^ (v / 2) * 2 ^ (v - v / 2) := Nat.mul_le_mul_right _ hi
  rw [Nat.add_mul] at h2
  omega
section
variable {p sh rt : Int} {k n v asked : Nat} {D at_ t : List Int}
theorem opn_show (hp : 2 ≤ p) (hn1 : 1 ≤ n) (hn2 : n ≤ 65536) : plShow p k n (v / 2) (opn p sh rt k n D v at_ asked t) (plL p k D (opn p sh rt k n D v at_ asked t) at_ n asked) = true := by
  obtain ⟨L, hL⟩ : ∃ L, plL p k D (opn p sh rt k n D v at_ asked t) at_ n asked = L := ⟨_, rfl⟩
  have hasc : Asc L := by rw [← hL]; exact onceL_asc _
  have hin : ∀ x ∈ L, 0 ≤ x ∧ x < (n : Int) := by rw [← hL]; exact plL_all (by omega)
  have ho : (opn p sh rt k n D v at_ asked t).places = L := hL
  have hr : (opn p sh rt k n D v at_ asked t).rows = shoR p (oCol p sh rt n v t) L L.length := by rw [← ho]; rfl
  have hd : (opn p sh rt k n D v at_ asked t).nodes = nodL p k L (oCol p sh rt n v t) n 0 n := by rw [← ho]; rfl
  have ht : (opn p sh rt k n D v at_ asked t).root = rootF p k n (oCol p sh rt n v t) := rfl
  have hc : (oCol p sh rt n v t).length = n := colsL_length _ _ _ _ _
  rw [hL]
  unfold plShow showsB
  rw [ho, hr, hd, ht]
  have e1 : ((shoR p (oCol p sh rt n v t) L L.length).all fun l => decide (l.length = 2 ^ (v / 2))) = true := by
    rw [List.all_eq_true]
    intro l hl
    unfold shoR at hl
    rw [List.mem_map] at hl
    obtain ⟨x, hx, rfl⟩ := hl
    have := hin x (List.mem_of_mem_take hx)
    rw [decide_eq_true_eq, List.length_map]
    unfold oCol
    rw [colsL_row _ _ _ _ _ _ (by omega), rowsL_length]
  have e2 : treeB p k (rootF p k n (oCol p sh rt n v t)) n L (shoR p (oCol p sh rt n v t) L L.length) (nodL p k L (oCol p sh rt n v t) n 0 n) = true := by
    have hf := rootF_fof hp k n (oCol p sh rt n v t) hn1
    have hcl := clb_nod hp k hasc (oCol p sh rt n v t) n 0 n [] hn1 (Nat.le_refl _) (by omega)
    rw [List.append_nil, List.drop_zero, List.take_of_length_le (by omega)] at hcl
    unfold treeB
    rw [hcl, hf.1, hf.2, shoR_length (Nat.le_refl _)]
    have h3 : ascB L n = true := ascB_all fun j hj => by
      unfold ascAt
      have h4 := hin _ (nth_mem hj)
      rw [Bool.and_eq_true, decide_eq_true_eq, Bool.or_eq_true, decide_eq_true_eq, beq_iff_eq]
      refine ⟨h4, ?_⟩
      by_cases h5 : j = 0
      · exact Or.inl h5
      · exact Or.inr (hasc.at (by omega) hj)
    rw [h3]
    simp [hn1, hn2]
  rw [e1, e2]
  simp
theorem sho_col {i : Nat} {L : List Int} (hi : i < L.length) (hin : 0 ≤ nth L i ∧ nth L i < (n : Int)) {j : Nat} (hj : j < 2 ^ (v / 2)) : nth (nthL (shoR p (oCol p sh rt n v t) L L.length) i) j % p = ev (nthL (rowsL t (2 ^ (v - v / 2)) (2 ^ (v / 2))) j) (ptAt p sh rt (nth L i).toNat) % p := by
  have h5 : i < (shoR p (oCol p sh rt n v t) L L.length).length := by rw [shoR_length (Nat.le_refl _)]; exact hi
  have e1 : nthL (shoR p (oCol p sh rt n v t) L L.length) i = (nthL (oCol p sh rt n v t) (nth L i).toNat).map (fof p) := by
    rw [nthL_eq h5, nth_eq hi]; simp [shoR]
  have h6 : (nth L i).toNat < n := by omega
  have e2 : nthL (oCol p sh rt n v t) (nth L i).toNat = colOf p sh rt (rowsL t (2 ^ (v - v / 2)) (2 ^ (v / 2))) (nth L i).toNat := by
    unfold oCol
    rw [nthL_eq (by rw [colsL_length]; exact h6)]; simp [colsL]
  have h7 : j < (colOf p sh rt (rowsL t (2 ^ (v - v / 2)) (2 ^ (v / 2))) (nth L i).toNat).length := by rw [colOf_length, rowsL_length]; exact hj
  rw [e1, e2, nth_eq (by rw [List.length_map]; exact h7), List.getElem_map, nthL_eq (by rw [rowsL_length]; exact hj)]
  simp [colOf, fof]
theorem opn_all (_hp : 2 ≤ p) (hn1 : 1 ≤ n) (ht : t.length = 2 ^ v) : plAll p sh rt (plR p k D (opn p sh rt k n D v at_ asked t) at_) (v / 2) at_ (opn p sh rt k n D v at_ asked t) (plL p k D (opn p sh rt k n D v at_ asked t) at_ n asked) = true := by
  obtain ⟨L, hL⟩ : ∃ L, plL p k D (opn p sh rt k n D v at_ asked t) at_ n asked = L := ⟨_, rfl⟩
  have hin : ∀ x ∈ L, 0 ≤ x ∧ x < (n : Int) := by rw [← hL]; exact plL_all (by omega)
  have ho : (opn p sh rt k n D v at_ asked t).places = L := hL
  have hr : (opn p sh rt k n D v at_ asked t).rows = shoR p (oCol p sh rt n v t) L L.length := by rw [← ho]; rfl
  have e1 : (opn p sh rt k n D v at_ asked t).mixed = oMix p (fun i => fpow p (plR p k D (opn p sh rt k n D v at_ asked t) at_) i) v t := rfl
  have e2 : (opn p sh rt k n D v at_ asked t).point = oMix p (fun i => wgt (at_.take (v / 2)) i % p) v t := rfl
  generalize plR p k D (opn p sh rt k n D v at_ asked t) at_ = r at *
  rw [hL]
  refine plAll_yes fun i hi => ?_
  unfold plOk
  rw [hr, e1, e2, oMix_raw, oMix_raw, Bool.and_eq_true, beq_iff_eq, beq_iff_eq]
  have hl : 2 ^ (v / 2) ≤ (rowsL t (2 ^ (v - v / 2)) (2 ^ (v / 2))).length := by rw [rowsL_length]; exact Nat.le_refl _
  exact ⟨(mix_ev _ _ _ _ _ _ hl (rowsL_row ht) fun j hj => sho_col hi (hin _ (nth_mem hi)) hj).symm, (mix_ev _ _ _ _ _ _ hl (rowsL_row ht) fun j hj => sho_col hi (hin _ (nth_mem hi)) hj).symm⟩
theorem opn_V (hp : 2 ≤ p) (hn1 : 1 ≤ n) (hn2 : n ≤ 65536) (ht : t.length = 2 ^ v) : plV p k sh rt n D v at_ asked (opn p sh rt k n D v at_ asked t) = (plN p (v / 2) (v - v / 2) at_ (opn p sh rt k n D v at_ asked t), true) := by
  unfold plV
  rw [opn_show hp hn1 hn2, opn_all hp hn1 ht]
  have : plFit (v - v / 2) (opn p sh rt k n D v at_ asked t) = true := by
    unfold plFit
    rw [Bool.and_eq_true, decide_eq_true_eq, decide_eq_true_eq]
    exact ⟨oMix_length _ _ _ _ ht, oMix_length _ _ _ _ ht⟩
  rw [this]; rfl
end
end Go.Att
end
section
namespace Go.Att
open Go.RowKit
theorem cut_div {i c k : Nat} (hk : k < 2 ^ c) (m : Nat) : (i * 2 ^ c + k) / 2 ^ (c + m) = i / 2 ^ m := by
  rw [Nat.pow_add, ← Nat.div_div_eq_div_mul, Nat.add_comm, Nat.add_mul_div_right _ _ (Nat.two_pow_pos c), Nat.div_eq_of_lt hk, Nat.zero_add]
theorem cut_mod {i c k e m : Nat} (h : c = e + (m + 1)) : (i * 2 ^ c + k) / 2 ^ e % 2 = k / 2 ^ e % 2 := by
  have h1 : i * 2 ^ c = i * 2 ^ (m + 1) * 2 ^ e := by rw [h, Nat.pow_add, Nat.mul_assoc, Nat.mul_comm (2 ^ (m + 1))]
  rw [h1, Nat.add_comm, Nat.add_mul_div_right _ _ (Nat.two_pow_pos e), Nat.pow_succ, ← Nat.mul_assoc, Nat.add_mul_mod_self_right]
theorem wU_lo (l : List Int) (a c i k : Nat) (hl : l.length = a + c) (hk : k < 2 ^ c) : ∀ m, m ≤ a → wU l (i * 2 ^ c + k) m = wU (l.take a) i m
  | 0, _ => rfl
  | m + 1, h => by
    rw [wU, wU, wU_lo l a c i k hl hk m (by omega)]
    congr 1
    unfold wf dig
    rw [List.length_take, Nat.min_eq_left (by omega), hl, show a + c - 1 - m = c + (a - 1 - m) by omega, cut_div hk, nth_take l _ _ (by omega)]
theorem wU_hi (l : List Int) (a c i k : Nat) (hl : l.length = a + c) : ∀ m, m ≤ c → wU l (i * 2 ^ c + k) (a + m) = wU l (i * 2 ^ c + k) a * wU (l.drop a) k m
  | 0, _ => by simp [wU]
  | m + 1, h => by
    rw [show a + (m + 1) = (a + m) + 1 from rfl, wU, wU, wU_hi l a c i k hl m (by omega), Int.mul_assoc]
    congr 2
    unfold wf dig
    rw [List.length_drop, hl, show a + c - 1 - (a + m) = c - 1 - m by omega, show a + c - a - 1 - m = c - 1 - m by omega, cut_mod (show c = (c - 1 - m) + (m + 1) by omega), nth_drop]
theorem wgt_cut (l : List Int) (a c i k : Nat) (hl : l.length = a + c) (hk : k < 2 ^ c) : wgt l (i * 2 ^ c + k) = wgt (l.take a) i * wgt (l.drop a) k := by
  unfold wgt
  rw [hl, wU_hi l a c i k hl c (Nat.le_refl _), wU_lo l a c i k hl hk a (Nat.le_refl _), List.length_take, Nat.min_eq_left (by omega), List.length_drop, hl, Nat.add_sub_cancel_left]
theorem sumN_grid (f : Nat → Int) (C : Nat) : ∀ A, sumN f (A * C) = sumN (fun i => sumN (fun k => f (i * C + k)) C) A
  | 0 => by rw [Nat.zero_mul]; rfl
  | A + 1 => by
    rw [Nat.add_mul, Nat.one_mul, sumN_split, sumN_grid f C A, sumN]
    congr 1
    exact sumN_congr _ fun i _ => by rw [Nat.add_comm]
theorem sumN_turn (f : Nat → Nat → Int) (C : Nat) : ∀ A, sumN (fun i => sumN (f i) C) A = sumN (fun k => sumN (fun i => f i k) A) C
  | 0 => by
    show (0 : Int) = _
    rw [show (fun k => sumN (fun i => f i k) 0) = (fun _ => (0 : Int)) from rfl, sumN_zero]
  | A + 1 => by
    rw [sumN, sumN_turn f C A, sumN_plus]
    exact sumN_congr _ fun i _ => rfl
theorem dtU_sum (p : Int) (g : Nat → Int) (l : List Int) : ∀ c, dtU p g l c % p = sumN (fun k => g k * nth l k) c % p
  | 0 => rfl
  | c + 1 => by
    rw [dtU, sumN]
    unfold fadd fmul
    rw [Int.emod_emod_of_dvd _ (Int.dvd_refl p), Int.add_emod, dtU_sum p g l c, Int.emod_emod_of_dvd _ (Int.dvd_refl p), ← Int.add_emod]
theorem mxU_sum (p : Int) (f : Nat → Int) (rows : List (List Int)) (m k : Nat) (hk : k < m) : ∀ c, c ≤ rows.length → (∀ i, i < rows.length → (nthL rows i).length = m) → nth (mxU p f rows m c) k % p = sumN (fun i => f i * nth (nthL rows i) k) c % p
  | 0, _, _ => by
    rw [mxU, nth_eq (by simpa using hk)]; simp [sumN]
  | c + 1, h1, h2 => by
    have hl := mxU_length p f rows m h2 c (by omega)
    rw [mxU, sumN, addc_nth p _ _ _ k (by rw [hl, h2 c (by omega)]) (by rw [hl]; exact hk)]
    unfold fadd fmul
    rw [Int.emod_emod_of_dvd _ (Int.dvd_refl p), Int.add_emod, mxU_sum p f rows m k hk c (by omega) h2, Int.emod_emod_of_dvd _ (Int.dvd_refl p), ← Int.add_emod]
theorem dtU_red {p : Int} (hp : 2 ≤ p) (g : Nat → Int) (l : List Int) (c : Nat) : dtU p g l c % p = dtU p g l c := Int.emod_eq_of_lt (dtU_bd hp g l c).1 (dtU_bd hp g l c).2
theorem nodL_four (p : Int) (k : Nat) (pl : List Int) (rows : List (List Int)) : ∀ f a n, 1 ≤ n → n ≤ f → ∀ d ∈ nodL p k pl rows f a n, d.length ≤ 4
  | 0, a, n, h1, h2 => by omega
  | f + 1, a, n, h1, h2 => by
    intro d hd
    simp only [nodL] at hd
    split at hd
    · split at hd
      · simp at hd
      · have hb := lfN_bd (show 2 ≤ n by omega)
        rcases List.mem_append.1 hd with h | h
        · exact nodL_four p k pl rows f a (lfN n) hb.1 (by omega) d h
        · exact nodL_four p k pl rows f _ _ (by omega) (by omega) d h
    · simp at hd; subst hd; exact rootF_len _ _ _ _
section
variable {p sh rt : Int} {k n v asked : Nat} {D at_ t : List Int}
theorem opn_N (hp : 2 ≤ p) (ht : t.length = 2 ^ v) (hat : at_.length = v) : plN p (v / 2) (v - v / 2) at_ (opn p sh rt k n D v at_ asked t) = ext t at_ % p := by
  have e2 : (opn p sh rt k n D v at_ asked t).point = oMix p (fun i => wgt (at_.take (v / 2)) i % p) v t := rfl
  unfold plN
  rw [e2, oMix_raw, ← dtU_red hp, dtU_sum]
  obtain ⟨a, ha⟩ : ∃ a, v / 2 = a := ⟨_, rfl⟩
  have hrow := rowsL_row ht
  rw [ha] at hrow ⊢
  obtain ⟨c, hc⟩ : ∃ c, v - a = c := ⟨_, rfl⟩
  rw [hc] at hrow ⊢
  have hv : v = a + c := by omega
  unfold ext
  rw [exS_sumN, ht, hv, Nat.pow_add, sumN_grid, sumN_turn]
  refine sumN_mod p _ fun j hj => ?_
  rw [unitsL_nth p _ hj, Int.mul_emod, mxU_sum p _ _ _ _ hj _ (by rw [rowsL_length]; exact Nat.le_refl _) hrow, Int.emod_emod_of_dvd _ (Int.dvd_refl p), ← Int.mul_emod, Int.mul_comm, sumN_mul]
  refine sumN_mod p _ fun i hi => ?_
  have e1 : nth (nthL (rowsL t (2 ^ c) (2 ^ a)) i) j = nth t (i * 2 ^ c + j) := by rw [rowsL_nth _ _ _ _ hi, nth_take _ _ _ hj, nth_drop]
  rw [e1, wgt_cut at_ a c i j (by omega) hj]
  have e3 : wgt (at_.drop a) j * (wgt (at_.take a) i % p * nth t (i * 2 ^ c + j)) = wgt (at_.take a) i % p * (wgt (at_.drop a) j * nth t (i * 2 ^ c + j)) := by grind
  have e4 : nth t (i * 2 ^ c + j) * (wgt (at_.take a) i * wgt (at_.drop a) j) = wgt (at_.take a) i * (wgt (at_.drop a) j * nth t (i * 2 ^ c + j)) := by grind
  rw [e3, e4, Int.mul_emod, Int.emod_emod_of_dvd _ (Int.dvd_refl p), ← Int.mul_emod]
theorem opn_le (hn1 : 1 ≤ n) (hn2 : n ≤ 65536) (hv : v ≤ 12) (ht : t.length = 2 ^ v) (_ha1 : 1 ≤ asked) (ha2 : asked ≤ 64) : PldLe (opn p sh rt k n D v at_ asked t) 1048576 := by
  obtain ⟨L, hL⟩ : ∃ L, plL p k D (opn p sh rt k n D v at_ asked t) at_ n asked = L := ⟨_, rfl⟩
  have hin : ∀ x ∈ L, 0 ≤ x ∧ x < (n : Int) := by rw [← hL]; exact plL_all (by omega)
  have hlen : L.length ≤ asked := by rw [← hL]; exact plL_len
  have ho : (opn p sh rt k n D v at_ asked t).places = L := hL
  have hr : (opn p sh rt k n D v at_ asked t).rows = shoR p (oCol p sh rt n v t) L L.length := by rw [← ho]; rfl
  have hd : (opn p sh rt k n D v at_ asked t).nodes = nodL p k L (oCol p sh rt n v t) n 0 n := by rw [← ho]; rfl
  have hp4 : 2 ^ (v - v / 2) ≤ 4096 := pow12 (by omega)
  have hp5 : 2 ^ (v / 2) ≤ 4096 := pow12 (by omega)
  have hrl : (opn p sh rt k n D v at_ asked t).rows.length = L.length := by rw [hr, shoR_length (Nat.le_refl _)]
  refine ⟨?_, ?_, ?_, by rw [ho]; omega, by rw [hrl]; omega, fun i hi => ?_, ?_, fun i hi => ?_⟩
  · have := rootF_len p k n (oCol p sh rt n v t)
    rw [show (opn p sh rt k n D v at_ asked t).root = rootF p k n (oCol p sh rt n v t) from rfl]; omega
  · have := oMix_length p (fun i => fpow p (oR p k D (opn p sh rt k n D v at_ asked t).root at_) i) v t ht
    rw [show (opn p sh rt k n D v at_ asked t).mixed = oMix p (fun i => fpow p (oR p k D (opn p sh rt k n D v at_ asked t).root at_) i) v t from rfl, this]; omega
  · have := oMix_length p (fun i => wgt (at_.take (v / 2)) i % p) v t ht
    rw [show (opn p sh rt k n D v at_ asked t).point = oMix p (fun i => wgt (at_.take (v / 2)) i % p) v t from rfl, this]; omega
  · have hi2 : i < L.length := by rw [hrl] at hi; exact hi
    have hm : nthL (opn p sh rt k n D v at_ asked t).rows i ∈ (opn p sh rt k n D v at_ asked t).rows := by rw [nthL_eq hi]; exact List.getElem_mem hi
    rw [hr] at hm ⊢
    obtain ⟨x, hx, e⟩ : ∃ x ∈ L.take L.length, (nthL (oCol p sh rt n v t) x.toNat).map (fof p) = nthL (shoR p (oCol p sh rt n v t) L L.length) i := by
      unfold shoR at hm
      exact List.mem_map.1 hm
    have := hin x (List.mem_of_mem_take hx)
    rw [← e, List.length_map]
    unfold oCol
    rw [colsL_row _ _ _ _ _ _ (by omega), rowsL_length]
    omega
  · rw [hd]
    have := (nodL_length p k L (oCol p sh rt n v t) n 0 n hn1 (Nat.le_refl _)).2
    omega
  · have hm : nthL (opn p sh rt k n D v at_ asked t).nodes i ∈ (opn p sh rt k n D v at_ asked t).nodes := by rw [nthL_eq hi]; exact List.getElem_mem hi
    rw [hd] at hm ⊢
    have := nodL_four p k L (oCol p sh rt n v t) n 0 n hn1 (Nat.le_refl _) _ hm
    omega
end
end Go.Att
end
