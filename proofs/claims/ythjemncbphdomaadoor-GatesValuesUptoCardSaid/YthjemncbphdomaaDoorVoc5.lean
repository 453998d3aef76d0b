/- Slices of the call's own beside others: where an append's result lies; what stays. -/
import Derived.Test.YthjemncbphdomaaDoorVoc4
namespace Go.Att
open Go.RowKit
section
variable {P : Program}
theorem append_where {w : World} {base t ty e : Nat} {i : TypeInfo} {z : Value} (ht : P.underlying t = some (.slice e)) (hi : P.info? e = some i) (hz : i.zero = some z)
    {v : Value} {n : Nat} {xs : List Value} (hown : w.ownsRow base e i.size v n xs)
    {a : Addr} {m c : Nat} {news : List Value} (hl : news.length = m * i.size) (hnews : ∀ j u, news[j]? = some u → w.cell? (a.add j) = some u) (h1 : ∀ u ∈ news, u.oneCell' = true)
    (h63 : n + m ≤ maxLen) (hbytes : (n + m) * i.bytes ≤ 140737488355328) {v' : Value} {w' : World} (hr : (Builtin.append_ #[t, t] ty #[v, .slice (some a) m c]).run P w = .ok v' w') :
    v'.ownBlock = v.ownBlock ∨ v'.ownBlock = some w.heap.size := by
  have hsm : n + m ≤ 9223372036854775807 := by simp only [maxLen] at h63; omega
  rcases hown.2 with ⟨rfl, rfl⟩ | ⟨g, cap, cur, rfl, hbg, hg, hnc, hcm, hcs, htake⟩
  · have hx : xs = [] := List.eq_nil_of_length_eq_zero (by simpa using hown.1)
    subst hx
    rcases Nat.eq_zero_or_pos m with hm | hm
    · subst hm
      have : (Builtin.append_ #[t, t] ty #[.slice none 0 0, .slice (some a) 0 c]).run P w = .ok (.slice none 0 0) w := by
        simp [Builtin.append_, run_underlying ht, sizeOf, typeInfo, hi, Builtin.lenOf, Builtin.firstCells, loadCells, loadCellsFrom]
      rw [this] at hr
      injection hr with h2 h3
      exact .inl (by rw [← h2])
    · have h4 := run_append_nil (P := P) w t ty e i z ht hi hz a m c news hl hnews hm (by omega) (by rw [Nat.zero_add] at hbytes; omega)
      rw [h4] at hr
      injection hr with h2 h3
      exact .inr (by rw [← h2]; rfl)
  · by_cases hroom : n + m ≤ cap
    · have hfit : n * i.size + news.length ≤ cur.size := by rw [hl, hcs, ← Nat.add_mul]; exact Nat.mul_le_mul_right _ hroom
      rw [run_append_room (P := P) w t ty e i ht hi g n cap cur hg a m c news hl hnews h1 hroom hfit] at hr
      injection hr with h2 h3
      exact .inl (by rw [← h2]; rfl)
    · rw [run_append_grow (P := P) w t ty e i z ht hi hz ⟨g, 0, none⟩ n cap xs hown.1 (hown.cells (g := g) rfl) a m c news hl hnews (by omega) (by omega) (growslice_fits (by omega) hbytes)] at hr
      injection hr with h2 h3
      exact .inr (by rw [← h2]; rfl)

/-- A slice that is the call's own lies where it lay, or in memory that is new since. -/
def Moved (W : World) (v v' : Value) : Prop := v'.ownBlock = v.ownBlock ∨ ∀ k, v'.ownBlock = some k → W.heap.size ≤ k
/-- A slice lies in memory that is new since. -/
def NewIn (W : World) (v : Value) : Prop := ∀ k, v.ownBlock = some k → W.heap.size ≤ k
theorem NewIn.of_own {W w : World} {e sz n : Nat} {v : Value} {xs : List Value} (h : w.ownsRow W.heap.size e sz v n xs) : NewIn W v := fun k hk => (h.lt k hk).1
theorem NewIn.mono {W W' : World} {v : Value} (h : NewIn W' v) (hx : W.heap.size ≤ W'.heap.size) : NewIn W v := fun k hk => Nat.le_trans hx (h k hk)
theorem NewIn.nil (W : World) : NewIn W (.slice none 0 0) := fun k hk => by cases hk
/-- A slice lies in memory that there is. -/
def OldIn (W : World) (v : Value) : Prop := ∀ k, v.ownBlock = some k → k < W.heap.size
theorem OldIn.of_own {w : World} {B e sz n : Nat} {v : Value} {xs : List Value} (h : w.ownsRow B e sz v n xs) : OldIn w v := fun k hk => (h.lt k hk).2
theorem OldIn.ext {W W' : World} {v : Value} (h : OldIn W v) (hx : W.heap.size ≤ W'.heap.size) : OldIn W' v := fun k hk => Nat.lt_of_lt_of_le (h k hk) hx
theorem Moved.refl (W : World) (v : Value) : Moved W v v := .inl rfl
theorem Moved.trans {W W' : World} {a b c : Value} (h : Moved W a b) (k : Moved W' b c) (hx : W.heap.size ≤ W'.heap.size) : Moved W a c := by
  rcases k with k | k
  · rcases h with h | h
    · exact .inl (k.trans h)
    · exact .inr fun q hq => h q (by rw [← k]; exact hq)
  · exact .inr fun q hq => Nat.le_trans hx (k q hq)
/-- What was grown where it may, is as it was elsewhere. -/
theorem grown_trans {W w w' : World} {a b : Value} (h : W.grownBy w a.ownBlock) (hm : Moved W a b) (k : w.grownBy w' b.ownBlock) : W.grownBy w' a.ownBlock :=
  ⟨k.os.trans h.os, k.tape.trans h.tape, k.output.trans h.output, Nat.le_trans h.size k.size, fun q hq hne => by
    rw [k.block q (Nat.lt_of_lt_of_le hq h.size) ?_]
    · exact h.block q hq hne
    · rcases hm with e | e
      · rw [e]; exact hne
      · intro hc; have := e q hc.symm; omega⟩
theorem Ext.grownBy {w w' : World} (h : Ext w w') (b : Option Nat) : w.grownBy w' b := ⟨h.below.os, h.below.tape, h.below.output, h.size, fun k hk _ => h.below.block k hk⟩
theorem grown_ext {W w w' : World} {b : Option Nat} (h : W.grownBy w b) (k : Ext w w') : W.grownBy w' b :=
  ⟨k.below.os.trans h.os, k.below.tape.trans h.tape, k.below.output.trans h.output, Nat.le_trans h.size k.size, fun q hq hne => by
    rw [k.below.block q (Nat.lt_of_lt_of_le hq h.size)]; exact h.block q hq hne⟩
theorem Sl.grown {w w' : World} {b : Option Nat} {sz n : Nat} {v : Value} {cs : List Value} (h : Sl w sz v n cs) (hg : w.grownBy w' b) (hne : ∀ k, v.ownBlock = some k → some k ≠ b) : Sl w' sz v n cs := by
  obtain ⟨ao, cap, rfl, h2, h3, h4, h5⟩ := h
  refine ⟨ao, cap, rfl, h2, h3, h4, fun i hi => ?_⟩
  obtain ⟨q, off, rfl, hc⟩ := h5 i hi
  exact ⟨q, off, rfl, hg.cell hc (hne q rfl)⟩
theorem Ints.grown {w w' : World} {b : Option Nat} {v : Value} {l : List Int} (h : Ints w v l) (hg : w.grownBy w' b) (hne : ∀ k, v.ownBlock = some k → some k ≠ b) : Ints w' v l := Sl.grown h hg hne
/-- A slice that came later lies elsewhere than one that is owned. -/
theorem new_ne {W : World} {B e sz n : Nat} {v u : Value} {xs : List Value} (h : W.ownsRow B e sz v n xs) (hu : NewIn W u) : ∀ k, u.ownBlock = some k → some k ≠ v.ownBlock := by
  intro k hk hc
  have := hu k hk
  have := (h.lt k hc.symm).2
  omega
theorem Ext.own_grown {w0 W w' : World} {e sz n : Nat} {v : Value} {xs : List Value} (hx : Ext w0 W) (hown : W.ownsRow w0.heap.size e sz v n xs) (hg : W.grownBy w' v.ownBlock) : Ext w0 w' :=
  Below.grown hx.below hg hx.size (fun k hk => (hown.lt k hk).1)
end
section
variable {P : Program} {ops : Array Oper} {rest : List Oper} {o : Oper} {a : Act} {Q : Exit → Act → World → Prop}
/-- 'append(s, x)' onto a slice of the call's own, x one element, just boxed; where the result lies. -/
theorem wpList_appNw {W : World} (hgd : o.guard = none) (s x : Operand) (t : TypeId)
    (ho : o.op = .call { callee := .builtin .append, args := #[s, x], argTypes := #[t, t] })
    {e sz bytes : Nat} {z : Value} (ht : SlT P t e sz bytes z) (hz : z.cells.size = sz) {B : Nat} (hx0 : B ≤ W.heap.size) {v : Value} {n : Nat} {xs : List Value} (hown : W.ownsRow B e sz v n xs)
    (hs : a.eval s = v) (us : Array Value) (hl : us.toList.length = sz) (hu : ∀ u ∈ us.toList, u.oneCell' = true) (hx : a.eval x = .slice (some ⟨W.heap.size, 0, none⟩) 1 1) (h63 : n + 1 ≤ 4294967296) (hby : bytes ≤ 4096)
    (h : ∀ v' w', w'.ownsRow B e sz v' (n + 1) (xs ++ us.toList) → W.grownBy w' v.ownBlock → Moved W v v' → wpList P ops Q rest (a.put o.dst v') w') : wpList P ops Q (o :: rest) a (W.alloc (.cells us e)) := by
  obtain ⟨i, hi, hiz, his, hib⟩ := ht.inf
  have hB : (n + 1) * bytes ≤ 4294967296 * 4096 := Nat.mul_le_mul h63 hby
  have hcell : ∀ j u, us.toList[j]? = some u → (W.alloc (.cells us e)).cell? ((⟨W.heap.size, 0, none⟩ : Addr).add j) = some u := by
    intro j y hy
    rw [Addr.add_lit, Nat.zero_add]
    simpa using hy
  have hown' := hown.alloc (.cells us e)
  obtain ⟨v', w', hr, h2, h3, h4⟩ := run_append_own (P := P) (W.alloc (.cells us e)) B t o.type e i z sz bytes ht.und hi hiz his hib hz ht.pos v n xs hown' ⟨W.heap.size, 0, none⟩ 1 1 us.toList (by rw [hl, Nat.one_mul]) hcell hu (by unfold maxLen; omega) (by omega) (by simp; omega)
  subst his; subst hib
  have hw := append_where (P := P) ht.und hi hiz hown' (m := 1) (c := 1) (by rw [hl, Nat.one_mul]) hcell hu (by unfold maxLen; omega) (by omega) hr
  have hg : W.grownBy w' v.ownBlock := ⟨h3.os, h3.tape, h3.output, by have := h3.size; simp at this; omega, fun k hk hne => by
      rw [h3.block k (by simp; omega) hne]; exact heap_alloc_old W _ hk⟩
  refine wpList_plain hgd fun K hK => ?_
  unfold Oper.wp
  simp [execOp, ho, resolve, invoke, builtin, hs, hx, hr, Result.andThen]
  refine hK _ _ (h v' w' h2 hg ?_)
  rcases hw with hw | hw
  · exact .inl hw
  · refine .inr fun k hk => ?_
    rw [hw] at hk
    have := Option.some.inj hk
    simp at this; omega
end
end Go.Att
