/- Tables: a set of places; the holes: plain words. -/
import Derived.Test.YtainhfnanamobaaGreatDoorM2
import Derived.Test.YtainhfnanamobaaGreatDoorM3
namespace Go.Att
open Go.Maps Go.RowKit
/-- A map's datum that reads as a set of numbers. -/
structure SetD {H : Type} (D : DataW H) (S : Int → Bool) : Prop where
  isMap : IsMap D
  yes : ∀ k : Int, S k = true → ∀ z : DataW H, D.atKey (.int .i64 k) z = .lit (.bool true)
  no : ∀ k : Int, S k = false → ∀ z : DataW H, D.atKey (.int .i64 k) z = z
theorem SetD.nil {H : Type} : SetD (.map [] : DataW H) (fun _ => false) := ⟨isMap_empty, fun _ h => (nomatch h), fun _ _ _ => rfl⟩
theorem SetD.put {H : Type} {D : DataW H} {S : Int → Bool} (h : SetD D S) {k : Int} (hk : WideAt.IsKeyLit (Lit.int .i64 k)) : SetD (D.put (.int .i64 k) (.lit (.bool true))) (fun j => S j || decide (j = k)) := by
  refine ⟨h.isMap.put _ _, fun j hj z => ?_, fun j hj z => ?_⟩
  · by_cases e : j = k
    · subst e; exact atKey_put_same h.isMap hk _ _
    · rw [atKey_put_other (lit_ne e)]
      exact h.yes j (by simpa [e] using hj) z
  · simp only [Bool.or_eq_false_iff, decide_eq_false_iff_not] at hj
    rw [atKey_put_other (lit_ne hj.2)]
    exact h.no j hj.1 z
/-- A set in a map's block; n bounds how many entries it has. -/
def Tset (P : Program) (K B : TypeId) (w : World) (mb : Nat) (n : Int) (S : Int → Bool) : Prop := ∃ (c : Nat) (D : DataW Unit), (c : Int) ≤ n ∧ w.ownsMap P K (plainElem P B) mb c D ∧ SetD D S
section
variable {P : Program} {K B T : TypeId} {w w' : World} {mb : Nat} {n : Int} {S : Int → Bool}
theorem Tset.lt (h : Tset P K B w mb n S) : mb < w.heap.size := by obtain ⟨c, D, _, h2, _⟩ := h; exact h2.lt
theorem Tset.kept (h : Tset P K B w mb n S) {row : Option Nat} (hg : w.grownBy w' row) (hne : some mb ≠ row) : Tset P K B w' mb n S := by
  obtain ⟨c, D, h1, h2, h3⟩ := h; exact ⟨c, D, h1, h2.kept hg hne, h3⟩
theorem Tset.mono (h : Tset P K B w mb n S) {m : Int} (hm : n ≤ m) : Tset P K B w mb m S := by
  obtain ⟨c, D, h1, h2, h3⟩ := h; exact ⟨c, D, Int.le_trans h1 hm, h2, h3⟩
theorem Tset.made (w : World) : Tset P K B (w.alloc (.map #[] 0)) w.heap.size 0 (fun _ => false) := ⟨0, .map [], Int.le_refl _, World.ownsMap_made _ _ _ _, SetD.nil⟩
theorem Tset.ext (h : Tset P K B w mb n S) (hx : Ext w w') : Tset P K B w' mb n S := h.kept (hx.grownBy none) (by simp)
theorem plainElem_bool_inv {P : Program} {e : TypeId} (he : P.underlying e = some .bool) {v : Value} {H : Type} {x : Bool} {ps : List MemPlace} (h : plainElem (H := H) P e v = some (.lit (.bool x), ps)) : v = .bool x := by
  unfold plainElem at h
  rw [he] at h
  cases v <;> simp at h
  rw [h.1]
variable (hk : P.underlying K = some (.int .i64)) (hb : P.underlying B = some .bool) (ht : P.underlying T = some (.map K B))
include hk hb ht
theorem Tset.look (hz : ∀ w, (zeroValue B).run P w = .ok (.bool false) w) (h : Tset P K B w mb n S) {k : Int} (h0 : 0 ≤ k) (h1 : k ≤ 2147483647) : (Instr.lookup T (.map (some mb)) (.int .i64 k) false).run P w = .ok (.bool (S k)) w := by
  obtain ⟨c, D, _, h2, h3⟩ := h
  obtain ⟨v, ps, hr, hv⟩ := h2.lookup (int_keyed hk) ht (hz w) (plainElem_bool hb false) (keyOf_int_mk hk (wf_small h0 h1))
  have e : D.atKey (.int .i64 k) (.lit (.bool false)) = .lit (.bool (S k)) := by
    cases hs : S k with
    | true => exact h3.yes k hs _
    | false => exact h3.no k hs _
  rw [e] at hv
  rw [hr, plainElem_bool_inv hb hv]
theorem Tset.add (h : Tset P K B w mb n S) (hn : n < 9223372036854775807) {k : Int} (h0 : 0 ≤ k) (h1 : k ≤ 2147483647) :
    ∃ w', (Instr.mapUpdate T (.map (some mb)) (.int .i64 k) (.bool true)).run P w = .ok () w' ∧ Tset P K B w' mb (n + 1) (fun j => S j || decide (j = k)) ∧ w.grownBy w' (some mb) := by
  obtain ⟨c, D, hc, ho, hd⟩ := h
  obtain ⟨w', hr, ho', hg⟩ := ho.update (int_keyed hk) ht (by unfold maxLen; omega) (keyOf_int_mk hk (wf_small h0 h1)) (plainElem_bool hb true)
  exact ⟨w', hr, ⟨c + 1, _, by omega, ho', hd.put trivial⟩, hg⟩
end
/-- The greatest of some numbers, or 0. -/
def topL (xs : List Int) : Int := xs.foldl (fun x y => if y > x then y else x) 0
theorem topL_snoc (xs : List Int) (a : Int) : topL (xs ++ [a]) = if a > topL xs then a else topL xs := by simp [topL]
theorem top_fold : ∀ (xs : List Int) (m : Int), m ≤ xs.foldl (fun x y => if y > x then y else x) m ∧ (∀ x ∈ xs, x ≤ xs.foldl (fun x y => if y > x then y else x) m) ∧ ∀ b, m ≤ b → (∀ x ∈ xs, x ≤ b) → xs.foldl (fun x y => if y > x then y else x) m ≤ b
  | [], m => ⟨Int.le_refl _, fun x hx => (nomatch hx), fun b h _ => h⟩
  | a :: xs, m => by
    rw [List.foldl_cons]
    obtain ⟨h1, h2, h3⟩ := top_fold xs (if a > m then a else m)
    generalize xs.foldl (fun x y => if y > x then y else x) (if a > m then a else m) = r at h1 h2 h3 ⊢
    have hm : m ≤ (if a > m then a else m) ∧ a ≤ (if a > m then a else m) := by split <;> omega
    refine ⟨by omega, fun x hx => ?_, fun b hb hx => h3 b ?_ (fun x h => hx x (by simp [h]))⟩
    · rw [List.mem_cons] at hx
      rcases hx with rfl | hx
      · omega
      · exact h2 x hx
    · have := hx a (by simp)
      split <;> omega
theorem topL_bd {xs : List Int} {b : Int} (h : ∀ x ∈ xs, x ≤ b) (h0 : 0 ≤ b) : 0 ≤ topL xs ∧ topL xs ≤ b :=
  ⟨(top_fold xs 0).1, (top_fold xs 0).2.2 b h0 h⟩
theorem topL_ge {xs : List Int} : ∀ x ∈ xs, x ≤ topL xs := (top_fold xs 0).2.1
/-- The numbers below one that are none of some. -/
def holesUp (xs : List Int) (a : Nat) : List Int := ((List.range a).filter fun k : Nat => decide ((k : Int) ∉ xs)).map Int.ofNat
theorem holesUp_succ (xs : List Int) (a : Nat) : holesUp xs (a + 1) = if (a : Int) ∈ xs then holesUp xs a else holesUp xs a ++ [(a : Int)] := by
  unfold holesUp
  rw [List.range_succ, List.filter_append, List.map_append]
  by_cases h : (a : Int) ∈ xs <;> simp [h]
theorem holesUp_pre (xs : List Int) {a b : Nat} (h : a ≤ b) : ∃ r, holesUp xs b = holesUp xs a ++ r := by
  induction b with
  | zero => obtain rfl : a = 0 := by omega
            exact ⟨[], by simp⟩
  | succ b ih =>
    by_cases e : a = b + 1
    · subst e; exact ⟨[], by simp⟩
    · obtain ⟨r, hr⟩ := ih (by omega)
      rw [holesUp_succ]
      split
      · exact ⟨r, hr⟩
      · exact ⟨r ++ [(b : Int)], by rw [hr, List.append_assoc]⟩
theorem holesUp_full {xs : List Int} {a b : Nat} (h : a ≤ b) (hl : (holesUp xs a).length = 513) : holesUp xs a = (holesUp xs b).take 513 := by
  obtain ⟨r, hr⟩ := holesUp_pre xs h
  rw [hr, ← hl, List.take_left]
/-- The places of a step; of all. -/
def atsOf (t : Stp) : List Int := [accA t.acc 0, accA t.acc 1, accA t.acc 2]
def atsAll (l : List Stp) : List Int := l.flatMap atsOf
theorem atsAll_take {l : List Stp} {i : Nat} (h : i < l.length) : atsAll (l.take (i + 1)) = atsAll (l.take i) ++ atsOf l[i] := by
  unfold atsAll
  rw [List.take_succ_eq_append_getElem h, List.flatMap_append]
  simp
theorem atsOf_take (t : Stp) (j : Nat) (h : j < 3) : (atsOf t).take (j + 1) = (atsOf t).take j ++ [accA t.acc j] := by
  have h3 : j = 0 ∨ j = 1 ∨ j = 2 := by omega
  rcases h3 with rfl | rfl | rfl <;> rfl
/-- The holes of a run. -/
def missL (l : List Stp) : List Int := holesUp (atsAll l) (topL (atsAll l)).toNat
theorem set_snoc (xs : List Int) (a : Int) : (fun k => decide (k ∈ xs ++ [a])) = fun k => decide (k ∈ xs) || decide (k = a) := by
  funext k
  by_cases h1 : k ∈ xs <;> by_cases h2 : k = a <;> simp [h1, h2]
end Go.Att
