/- Slices of the call's own, more: a store into an element, append of a whole slice, make. -/
import Derived.Test.YthjemncbphdomaaDoorVoc2
namespace Go.Att
open Go.RowKit

section
variable {P : Program} {ops : Array Oper} {rest : List Oper} {o : Oper} {a : Act} {Q : Exit → Act → World → Prop}

theorem elt_own {w : World} {B e sz n : Nat} {v : Value} {xs : List Value} (h : w.ownsRow B e sz v n xs) {i : Nat} (hi : i < n) : ∃ g cap cur, v = .slice (some ⟨g, 0, none⟩) n cap ∧ B ≤ g ∧ w.heap[g]? = some (.cells cur e (0, 0)) ∧ n ≤ cap ∧ cap ≤ maxLen ∧ cur.size = cap * sz ∧ cur.toList.take (n * sz) = xs ∧ elt v i sz = ⟨g, i * sz, none⟩ := by
  rcases h.2 with ⟨rfl, rfl⟩ | ⟨g, cap, cur, rfl, h1, h2, h3, h4, h5, h6⟩
  · omega
  · exact ⟨g, cap, cur, rfl, h1, h2, h3, h4, h5, h6, by simp [elt, Addr.add_lit]⟩

theorem run_set {W : World} {t e sz bytes : Nat} {z : Value} (ht : SlT P t e sz bytes z) {B n : Nat} {v : Value} {xs : List Value} (hown : W.ownsRow B e sz v n xs) (i : Nat) (hi : i < n) (val : Value) (hus : val.cells.toList.length = sz) (h1 : ∀ u ∈ val.cells.toList, u.oneCell' = true) :
    ∃ w', (Instr.storeAt e (.pointer (some (elt v i sz))) val).run P W = .ok () w' ∧ w'.ownsRow B e sz v n (xs.take (i * sz) ++ val.cells.toList ++ xs.drop (i * sz + sz)) ∧ W.grownBy w' v.ownBlock := by
  obtain ⟨g, cap, cur, rfl, hb, hg, hn, hm, hs, htk, he⟩ := elt_own hown hi
  have hle : (i + 1) * sz ≤ cap * sz := Nat.mul_le_mul_right _ (by omega)
  have hle2 : (i + 1) * sz ≤ n * sz := Nat.mul_le_mul_right _ (by omega)
  rw [Nat.succ_mul] at hle hle2
  have hle3 : n * sz ≤ cap * sz := Nat.mul_le_mul_right _ hn
  have hst := run_storeCells_at (P := P) g (i * sz) e val.cells.toList 0 cur W hg (by rw [hus]; omega) h1
  have hxl : xs.length = n * sz := hown.1
  refine ⟨W.setRow g (cur.toList.take (i * sz + 0) ++ val.cells.toList ++ cur.toList.drop (i * sz + 0 + val.cells.toList.length)).toArray, ?_, ?_, ?_⟩
  rotate_left
  · refine ⟨?_, .inr ⟨g, cap, _, rfl, hb, setRow_heap W g cur (cur.toList.take (i * sz + 0) ++ val.cells.toList ++ cur.toList.drop (i * sz + 0 + val.cells.toList.length)).toArray e (0, 0) hg, hn, hm, ?_, ?_⟩⟩
    · simp only [List.length_append, List.length_take, List.length_drop, hus]; omega
    · simp only [List.size_toArray, List.length_append, List.length_take, List.length_drop, hus, Array.length_toList]; omega
    · rw [hus, Nat.add_zero, ← htk]
      apply List.ext_getElem?
      intro j
      simp only [List.getElem?_append, List.getElem?_take, List.getElem?_drop, List.length_append, List.length_take, List.length_drop, Array.length_toList, hus]
      by_cases h2 : j < n * sz
      · rw [if_pos h2]
        by_cases h3 : j < i * sz
        · rw [if_pos (by omega), if_pos (by omega), if_pos h3, if_pos (by omega), if_pos (by omega), if_pos h3, if_pos h2]
        · by_cases h4 : j < i * sz + sz
          · rw [if_pos (by omega), if_neg (by omega), if_pos (by omega), if_neg (by omega)]; congr 1; omega
          · rw [if_neg (by omega), if_neg (by omega), if_pos (by omega)]; congr 1; omega
      · rw [if_neg h2, if_neg (by omega), if_neg (by omega)]
  · exact ⟨rfl, rfl, rfl, by simp, fun k _ hk => setRow_other W g k _ (fun e => hk (by simp [Value.ownBlock, e]))⟩
  · have hsz : val.cells.size = sz := by rw [← Array.length_toList, hus]
    simp [Instr.storeAt, Instr.sureAddr, he, storeVar, ht.run_size, hsz, hst]

/-- 'out[i] = x' into a slice of the call's own. -/
theorem wpList_set {W : World} (hgd : o.guard = none) (hd : o.dst = none) (ad x : Operand) (e : Nat) (ho : o.op = .store e ad x) {t sz bytes : Nat} {z : Value} (ht : SlT P t e sz bytes z) {B n : Nat} {v : Value} {xs : List Value} (hown : W.ownsRow B e sz v n xs) (i : Nat) (hi : i < n)
    (ha : a.eval ad = .pointer (some (elt v i sz))) (val : Value) (hx : a.eval x = val) (hus : val.cells.toList.length = sz) (h1 : ∀ u ∈ val.cells.toList, u.oneCell' = true)
    (h : ∀ w', w'.ownsRow B e sz v n (xs.take (i * sz) ++ val.cells.toList ++ xs.drop (i * sz + sz)) → W.grownBy w' v.ownBlock → wpList P ops Q rest a w') : wpList P ops Q (o :: rest) a W := by
  refine wpList_plain hgd fun K hK => ?_
  obtain ⟨w', hr, h2, h3⟩ := run_set (P := P) ht hown i hi val hus h1
  unfold Oper.wp
  simp [execOp, ho, ha, hx, hr, Result.andThen, Oper.upon, hd, Act.put]
  exact hK _ _ (h w' h2 h3)

theorem run_append_none {w : World} (base : Nat) (t ty e : TypeId) (i : TypeInfo) (size : Nat) (ht : P.underlying t = some (.slice e)) (hi : P.info? e = some i)
    (v : Value) (n : Nat) (xs : List Value) (c : Nat) (hown : w.ownsRow base e size v n xs) :
    (Builtin.append_ #[t, t] ty #[v, .slice none 0 c]).run P w = .ok v w := by
  rcases hown.2 with ⟨rfl, rfl⟩ | ⟨g, cap, cur, rfl, _, _, hnc, _⟩
  · simp [Builtin.append_, run_underlying ht, sizeOf, typeInfo, hi, Builtin.lenOf, Builtin.firstCells]
  · simp [Builtin.append_, run_underlying ht, sizeOf, typeInfo, hi, Builtin.lenOf, Builtin.firstCells, hnc, storeCells]
/-- 'append(s, l...)' onto a slice of the call's own. -/
theorem wpList_appSl {W : World} (hgd : o.guard = none) (s x : Operand) (t : TypeId)
    (ho : o.op = .call { callee := .builtin .append, args := #[s, x], argTypes := #[t, t] })
    {e sz bytes : Nat} {z : Value} (ht : SlT P t e sz bytes z) (hz : z.cells.size = sz) {w0 : World} (hx0 : Ext w0 W) {v : Value} {n : Nat} {xs : List Value} (hown : W.ownsRow w0.heap.size e sz v n xs)
    (hs : a.eval s = v) {vl : Value} {m : Nat} {cs : List Value} (hl : Sl W sz vl m cs) (h1 : ∀ u ∈ cs, u.oneCell' = true) (hx : a.eval x = vl) (h63 : n + m ≤ 4294967296) (hby : bytes ≤ 4096)
    (h : ∀ v' w', w'.ownsRow w0.heap.size e sz v' (n + m) (xs ++ cs) → Ext w0 w' → W.grownBy w' v.ownBlock → wpList P ops Q rest (a.put o.dst v') w') : wpList P ops Q (o :: rest) a W := by
  obtain ⟨i, hi, hiz, his, hib⟩ := ht.inf
  have hB : (n + m) * bytes ≤ 4294967296 * 4096 := Nat.mul_le_mul h63 hby
  obtain ⟨ao, cap, rfl, h2, h3, h4, h5⟩ := hl
  have fin : ∀ v' w', w'.ownsRow w0.heap.size e sz v' (n + m) (xs ++ cs) → W.grownBy w' v.ownBlock → wpList P ops Q rest (a.put o.dst v') w' := fun v' w' k1 k2 =>
    h v' w' k1 (Below.grown hx0.below k2 hx0.size (fun k hk => (hown.lt k hk).1)) k2
  have go : ∀ ad : Addr, ad.spot = none → (∀ j u, cs[j]? = some u → W.cell? (ad.add j) = some u) → a.eval x = .slice (some ad) m cap → wpList P ops Q (o :: rest) a W := by
    intro ad _ hc hx'
    refine wpList_append_own (P := P) _ hgd s x t ho w0.heap.size e i z sz bytes ht.und hi hiz his hib hz ht.pos v n xs hs hown ad m cap cs hx' h2 hc h1 (by unfold maxLen; omega) (by omega) hx0.size ?_
    intro v' w' k1 k2 _
    exact fin v' w' k1 k2
  cases ao with
  | some ad =>
    rcases Nat.eq_zero_or_pos cs.length with h0 | h0
    · -- nothing is appended
      have : cs = [] := List.eq_nil_of_length_eq_zero h0
      subst this
      by_cases hsp : ad.spot = none
      · exact go ad hsp (fun j u hu => by simp at hu) hx
      · refine wpList_append_own (P := P) _ hgd s x t ho w0.heap.size e i z sz bytes ht.und hi hiz his hib hz ht.pos v n xs hs hown ad m cap [] hx h2 (fun j u hu => by simp at hu) (fun u hu => by simp at hu) (by unfold maxLen; omega) (by omega) hx0.size ?_
        intro v' w' k1 k2 _
        exact fin v' w' k1 k2
    · obtain ⟨b, off, hb, _⟩ := h5 0 h0
      obtain rfl := Option.some.inj hb
      refine go _ rfl (fun j u hu => ?_) hx
      obtain ⟨hj, rfl⟩ := List.getElem?_eq_some_iff.1 hu
      obtain ⟨b', off', hb', hc'⟩ := h5 j hj
      obtain ⟨rfl, rfl⟩ : b = b' ∧ off = off' := by simpa using hb'
      rw [Addr.add_lit]; exact hc'
  | none =>
    have h0 : cs.length = 0 := by
      rcases Nat.eq_zero_or_pos cs.length with h0 | h0
      · exact h0
      · obtain ⟨b, off, hb, _⟩ := h5 0 h0; simp at hb
    have hcs : cs = [] := List.eq_nil_of_length_eq_zero h0
    subst hcs
    have hm0 : m = 0 := by
      have hp := ht.pos
      rcases Nat.eq_zero_or_pos m with h6 | h6
      · exact h6
      · have : 0 < m * sz := Nat.mul_pos h6 hp
        simp at h2; omega
    subst hm0
    refine wpList_plain hgd fun K hK => ?_
    have hrun := run_append_none (P := P) w0.heap.size t o.type e i sz ht.und hi v n xs cap hown
    unfold Oper.wp
    simp [execOp, ho, resolve, invoke, builtin, hs, hx, hrun, Result.andThen]
    exact hK _ _ (fin _ W (by simpa using hown) (World.grownBy.refl _ _))
/-- 'append(s, x)' onto a slice of the call's own, x one element, just boxed. -/
theorem wpList_appN {W : World} (hgd : o.guard = none) (s x : Operand) (t : TypeId)
    (ho : o.op = .call { callee := .builtin .append, args := #[s, x], argTypes := #[t, t] })
    {e sz bytes : Nat} {z : Value} (ht : SlT P t e sz bytes z) (hz : z.cells.size = sz) {w0 : World} (hx0 : Ext w0 W) {v : Value} {n : Nat} {xs : List Value} (hown : W.ownsRow w0.heap.size e sz v n xs)
    (hs : a.eval s = v) (us : Array Value) (hl : us.toList.length = sz) (hu : ∀ u ∈ us.toList, u.oneCell' = true) (hx : a.eval x = .slice (some ⟨W.heap.size, 0, none⟩) 1 1) (h63 : n + 1 ≤ 4294967296) (hby : bytes ≤ 4096)
    (h : ∀ v' w', w'.ownsRow w0.heap.size e sz v' (n + 1) (xs ++ us.toList) → Ext w0 w' → W.grownBy w' v.ownBlock → wpList P ops Q rest (a.put o.dst v') w') : wpList P ops Q (o :: rest) a (W.alloc (.cells us e)) := by
  obtain ⟨i, hi, hiz, his, hib⟩ := ht.inf
  have hB : (n + 1) * bytes ≤ 4294967296 * 4096 := Nat.mul_le_mul h63 hby
  refine wpList_append_own (P := P) _ hgd s x t ho w0.heap.size e i z sz bytes ht.und hi hiz his hib hz ht.pos v n xs hs (hown.alloc _) ⟨W.heap.size, 0, none⟩ 1 1 us.toList hx (by rw [hl, Nat.one_mul]) ?_ hu ?_ ?_ ?_ ?_
  · intro j y hy
    rw [Addr.add_lit, Nat.zero_add]
    simpa using hy
  · unfold maxLen; omega
  · omega
  · have := hx0.size; simp; omega
  · intro v' w' h1 h2 _
    have hg : W.grownBy w' v.ownBlock := ⟨h2.os, h2.tape, h2.output, by have := h2.size; simp at this; omega, fun k hk hne => by
      rw [h2.block k (by simp; omega) hne]; exact heap_alloc_old W _ hk⟩
    exact h v' w' h1 (Below.grown hx0.below hg hx0.size (fun k hk => (hown.lt k hk).1)) hg
end
end Go.Att
