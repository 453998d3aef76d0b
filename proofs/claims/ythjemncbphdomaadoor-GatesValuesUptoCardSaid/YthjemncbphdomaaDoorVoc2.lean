/- Slices of the call's own: append, make, store, in the words of XVoc. -/
import Derived.Test.YthjemncbphdomaaDoorVoc
namespace Go.Att
open Go.RowKit

theorem own_ext {w w' : World} {B e sz n : Nat} {v : Value} {xs : List Value} (h : w.ownsRow B e sz v n xs) (hx : Ext w w') : w'.ownsRow B e sz v n xs := by
  refine ⟨h.1, ?_⟩
  rcases h.2 with h2 | ⟨g, cap, cur, hv, hb, hg, hr⟩
  · exact .inl h2
  · exact .inr ⟨g, cap, cur, hv, hb, by rw [hx.below.block g (Array.getElem?_eq_some_iff.1 hg).1]; exact hg, hr⟩

/-- What is owned reads. -/
theorem Sl.of_own {w : World} {B e sz n : Nat} {v : Value} {xs : List Value} (h : w.ownsRow B e sz v n xs) (hsz : 0 < sz) : Sl w sz v n xs := by
  obtain ⟨h1, h2⟩ := h
  rcases h2 with ⟨rfl, rfl⟩ | ⟨g, cap, cur, rfl, hb, hg, hn, hm, hs, ht⟩
  · have : xs = [] := List.eq_nil_of_length_eq_zero (by simpa using h1)
    subst this
    exact ⟨none, 0, rfl, by simp, Nat.le_refl _, Nat.zero_le _, fun i hi => by simp at hi⟩
  · refine ⟨some ⟨g, 0, none⟩, cap, rfl, h1, hn, hm, fun i hi => ⟨g, 0, rfl, ?_⟩⟩
    rw [Nat.zero_add, cell_of_row w g i cur e (0, 0) hg]
    have h3 : xs[i]? = cur[i]? := by
      rw [← ht, List.getElem?_take, if_pos (by omega)]; simp
    rw [← h3, List.getElem?_eq_getElem hi]
theorem Ints.of_own {w : World} {B e n : Nat} {v : Value} {l : List Int} (h : w.ownsRow B e 1 v n (l.map (Value.int .i64))) : Ints w v l := by
  have hl : n = l.length := by have := h.1; simp at this; omega
  subst hl
  exact Sl.of_own h (by omega)
theorem Ints.nil (w : World) : Ints w (.slice none 0 0) [] := ⟨none, 0, rfl, by simp, Nat.le_refl _, Nat.zero_le _, fun i hi => by simp at hi⟩

section
variable {P : Program} {ops : Array Oper} {rest : List Oper} {o : Oper} {a : Act} {Q : Exit → Act → World → Prop}
/-- 'append(s, x)' onto a slice of the call's own, x one element of one cell, just boxed. -/
theorem wpList_app1 {W : World} (hgd : o.guard = none) (s x : Operand) (t : TypeId)
    (ho : o.op = .call { callee := .builtin .append, args := #[s, x], argTypes := #[t, t] })
    {e bytes : Nat} {z : Value} (ht : SlT P t e 1 bytes z) (hz : z.oneCell' = true) {w0 : World} (hx0 : Ext w0 W) {v : Value} {n : Nat} {xs : List Value} (hown : W.ownsRow w0.heap.size e 1 v n xs)
    (hs : a.eval s = v) (u : Value) (hu : u.oneCell' = true) (hx : a.eval x = .slice (some ⟨W.heap.size, 0, none⟩) 1 1) (h63 : n + 1 ≤ 4294967296) (hby : bytes ≤ 4096)
    (h : ∀ v' w', w'.ownsRow w0.heap.size e 1 v' (n + 1) (xs ++ [u]) → Ext w0 w' → W.grownBy w' v.ownBlock → wpList P ops Q rest (a.put o.dst v') w') : wpList P ops Q (o :: rest) a (W.alloc (.cells #[u] e)) := by
  obtain ⟨i, hi, hiz, his, hib⟩ := ht.inf
  have hB : (n + 1) * bytes ≤ 4294967296 * 4096 := Nat.mul_le_mul h63 hby
  refine wpList_append_own (P := P) _ hgd s x t ho w0.heap.size e i z 1 bytes ht.und hi hiz his hib ?_ (by omega) v n xs hs (hown.alloc _) ⟨W.heap.size, 0, none⟩ 1 1 [u] hx rfl ?_ ?_ ?_ ?_ ?_ ?_
  · cases z <;> first | rfl | simp [Value.oneCell'] at hz
  · intro j y hy
    cases j with
    | zero => simp at hy; subst hy; simp [Addr.add]
    | succ j => simp at hy
  · intro y hy; simp at hy; subst hy; exact hu
  · unfold maxLen; omega
  · omega
  · have := hx0.size; simp; omega
  · intro v' w' h1 h2 h3
    have hg : W.grownBy w' v.ownBlock := ⟨h2.os, h2.tape, h2.output, by have := h2.size; simp at this; omega, fun k hk hne => by
      rw [h2.block k (by simp; omega) hne]; exact heap_alloc_old W _ hk⟩
    refine h v' w' h1 ?_ hg
    exact Below.grown hx0.below hg hx0.size (fun k hk => (hown.lt k hk).1)
end

/-- Pairs of numbers, flat. -/
def flatP (l : List (Int × Int)) : List Value := l.flatMap fun c => [.int .i64 c.1, .int .i64 c.2]
theorem flatP_length (l : List (Int × Int)) : (flatP l).length = l.length * 2 := by
  induction l with
  | nil => rfl
  | cons c l ih => simp only [flatP, List.flatMap_cons, List.length_append, List.length_cons, List.length_nil] at *; omega
theorem flatP_get (l : List (Int × Int)) (i : Nat) (h : i < l.length) : (flatP l)[i * 2]? = some (.int .i64 l[i].1) ∧ (flatP l)[i * 2 + 1]? = some (.int .i64 l[i].2) := by
  induction l generalizing i with
  | nil => simp at h
  | cons c l ih =>
    cases i with
    | zero => simp [flatP]
    | succ i =>
      have := ih i (by simpa using h)
      have e : (i + 1) * 2 = i * 2 + 2 := by omega
      simp only [flatP, List.flatMap_cons, List.cons_append, List.nil_append, e] at *
      exact this
/-- A slice of pairs. -/
def Prs (w : World) (v : Value) (l : List (Int × Int)) : Prop := Sl w 2 v l.length (flatP l)
def nthP (l : List (Int × Int)) (i : Nat) : Int × Int := l.getD i (0, 0)
theorem nthP_eq {l : List (Int × Int)} {i : Nat} (h : i < l.length) : nthP l i = l[i] := by simp [nthP, h]
theorem Prs.ext {w w' : World} {v : Value} {l : List (Int × Int)} (h : Prs w v l) (hx : Ext w w') : Prs w' v l := Sl.ext h hx
theorem Prs.len {w : World} {v : Value} {l : List (Int × Int)} (h : Prs w v l) : l.length ≤ 9223372036854775807 := by have := Sl.len h; unfold maxLen at this; omega
theorem Prs.run_len {P : Program} {w : World} {v : Value} {l : List (Int × Int)} (h : Prs w v l) {t e bytes : Nat} {z : Value} (ht : SlT P t e 2 bytes z) (ty : TypeId) (w' : World) :
    (Builtin.len_ #[t] ty #[v]).run P w' = .ok (.int .i64 l.length) w' := Sl.run_len h ht ty w'
theorem Prs.run_index {P : Program} {w : World} {v : Value} {l : List (Int × Int)} (h : Prs w v l) {t e bytes : Nat} {z : Value} (ht : SlT P t e 2 bytes z) (i : Nat) (hi : i < l.length) (w' : World) :
    (Instr.indexAt t v (.int .i64 i)).run P w' = .ok (.pointer (some (elt v i 2))) w' := Sl.run_index h ht i (by omega) (by omega) w'
theorem Prs.fst {w : World} {v : Value} {l : List (Int × Int)} (h : Prs w v l) (i : Nat) (hi : i < l.length) : w.cell? (elt v i 2) = some (.int .i64 (nthP l i).1) := by
  have := Sl.cell h i 0 hi (by omega)
  simp only [Addr.add, if_true, Nat.add_zero] at this
  rw [this, (flatP_get l i hi).1, nthP_eq hi]
theorem Prs.snd {w : World} {v : Value} {l : List (Int × Int)} (h : Prs w v l) (i : Nat) (hi : i < l.length) : w.cell? ⟨(elt v i 2).block, (elt v i 2).off + 1, none⟩ = some (.int .i64 (nthP l i).2) := by
  have := Sl.cell h i 1 hi (by omega)
  simp only [Addr.add] at this
  rw [if_neg (by omega)] at this
  rw [this, (flatP_get l i hi).2, nthP_eq hi]
end Go.Att
