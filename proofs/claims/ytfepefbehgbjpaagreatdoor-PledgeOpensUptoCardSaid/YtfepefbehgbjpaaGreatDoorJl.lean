/- A table's rows, the program's side: contract. -/
import Derived.Test.YtfepefbehgbjpaaGreatDoorJh
import Derived.Test.YtfepefbehgbjpaaGreatDoorZx12
import Derived.Test.YtfepefbehgbjpaaGreatDoorSx
namespace Go.Att
open Go.RowKit
def prL (p : Int) (l : List Int) (M : Nat) {C : Nat} (pre : List (Fin C)) : List (List Int) := pre.map fun i => ((l.drop (i.1 * M)).take M).map (fof p)
theorem prL_snoc (p : Int) (l : List Int) (M : Nat) {C : Nat} (pre : List (Fin C)) (i : Fin C) : prL p l M (pre ++ [i]) = prL p l M pre ++ [((l.drop (i.1 * M)).take M).map (fof p)] := by simp [prL]
theorem prL_length (p : Int) (l : List Int) (M : Nat) {C : Nat} (pre : List (Fin C)) : (prL p l M pre).length = pre.length := by simp [prL]
theorem prL_upF (p : Int) (l : List Int) (M C : Nat) : ∀ (j : Nat) (h : j ≤ C), prL p l M (upF C j h) = (List.range j).map fun i => ((l.drop (i * M)).take M).map (fof p)
  | 0, _ => rfl
  | j + 1, h => by rw [upF, prL_snoc, prL_upF p l M C j, List.range_succ, List.map_append]; rfl
theorem rowsL_map (p : Int) (l : List Int) (M C : Nat) : ((List.range C).map fun i => ((l.drop (i * M)).take M).map (fof p)) = rowsL (l.map (fof p)) M C := by
  unfold rowsL
  refine List.map_congr_left fun i _ => ?_
  rw [List.map_take, List.map_drop]
section
variable {w w' : World} {row : Option Nat}
theorem nc_ne (hr : ∀ r, row = some r → ∃ o : Obj, w.heap[r]? = some o ∧ o.isCells = false) {b off : Nat} {v : Value} (hc : w.cell? ⟨b, off, none⟩ = some v) : some b ≠ row := by
  intro e
  obtain ⟨o, ho, hn⟩ := hr b e.symm
  unfold World.cell? at hc
  rw [ho] at hc
  cases o <;> simp_all [Obj.isCells]
theorem ints_nc (hg : w.grownBy w' row) (hr : ∀ r, row = some r → ∃ o : Obj, w.heap[r]? = some o ∧ o.isCells = false) {v : Value} {l : List Int} (h : Ints w v l) : Ints w' v l := by
  obtain ⟨ao, cap, rfl, h2, h3, h4, h5⟩ := h
  refine ⟨ao, cap, rfl, h2, h3, h4, fun i hi => ?_⟩
  obtain ⟨q, off, rfl, hc⟩ := h5 i hi
  exact ⟨q, off, rfl, hg.cell hc (nc_ne hr hc)⟩
theorem own_nc (hg : w.grownBy w' row) (hr : ∀ r, row = some r → ∃ o : Obj, w.heap[r]? = some o ∧ o.isCells = false) {B e sz n : Nat} {v : Value} {xs : List Value} (h : w.ownsRow B e sz v n xs) : w'.ownsRow B e sz v n xs := by
  refine row_grown h hg fun k hk e1 => ?_
  obtain ⟨o, ho, hn⟩ := hr k e1.symm
  rcases h.2 with ⟨rfl, _⟩ | ⟨g, cap, cur, rfl, _, hgg, _⟩
  · cases hk
  · obtain rfl : g = k := Option.some.inj hk
    rw [hgg] at ho
    cases ho
    simp [Obj.isCells] at hn
theorem own_cells {B e sz n : Nat} {v : Value} {xs : List Value} (h : w.ownsRow B e sz v n xs) : ∀ j o, v.ownBlock = some j → w.heap[j]? = some o → o.isCells = true := by
  intro k o hk ho
  rcases h.2 with ⟨rfl, _⟩ | ⟨g, cap, cur, rfl, _, hgg, _⟩
  · cases hk
  · obtain rfl : g = k := Option.some.inj hk
    rw [hgg] at ho
    cases ho
    rfl
theorem Grid.nc {B e : Nat} {v : Value} {L : List (List Int)} {R : Nat → Value} (h : Grid B w e v L R) (hg : w.grownBy w' row) (hr : ∀ r, row = some r → ∃ o : Obj, w.heap[r]? = some o ∧ o.isCells = false) : Grid B w' e v L R :=
  ⟨own_nc hg hr h.own, fun i hi => ints_nc hg hr (h.row i hi), fun i hi k hk => ⟨(h.lt i hi k hk).1, Nat.lt_of_lt_of_le (h.lt i hi k hk).2.1 hg.size, (h.lt i hi k hk).2.2⟩⟩
end
section
variable {F : Fence} {fn : Nat} {P : Program} {ops : Array Oper} {rest : List Oper} {o : Oper} {a : Act} {Q : Exit → Act → World → Prop}
theorem wpListIn_appNw {W : World} (hgd : o.guard = none) (s x : Operand) (t : TypeId)
    (ho : o.op = .call { callee := .builtin .append, args := #[s, x], argTypes := #[t, t] })
    {e sz bytes : Nat} {z : Value} (ht : SlT P t e sz bytes z) (hz : z.cells.size = sz) {B : Nat} (hx0 : B ≤ W.heap.size) {v : Value} {n : Nat} {xs : List Value} (hown : W.ownsRow B e sz v n xs)
    (hs : a.eval s = v) (us : Array Value) (hl : us.toList.length = sz) (hu : ∀ u ∈ us.toList, u.oneCell' = true) (hx : a.eval x = .slice (some ⟨W.heap.size, 0, none⟩) 1 1) (h63 : n + 1 ≤ 4294967296) (hby : bytes ≤ 4096)
    (h : ∀ v' w', w'.ownsRow B e sz v' (n + 1) (xs ++ us.toList) → W.grownBy w' v.ownBlock → Moved W v v' → wpListIn F fn P ops Q rest (a.put o.dst v') w') : wpListIn F fn P ops Q (o :: rest) a (W.alloc (.cells us e)) := by
  obtain ⟨i, hi, hiz, his, hib⟩ := ht.inf
  have hB : (n + 1) * bytes ≤ 4294967296 * 4096 := Nat.mul_le_mul h63 hby
  have hcell : ∀ j u, us.toList[j]? = some u → (W.alloc (.cells us e)).cell? ((⟨W.heap.size, 0, none⟩ : Addr).add j) = some u := by
    intro j y hy
    rw [Addr.add_lit, Nat.zero_add]
    simpa using hy
  have hown' := hown.alloc (.cells us e)
  obtain ⟨v', w', hr, h2, h3, h4⟩ := run_append_own (P := P) (W.alloc (.cells us e)) B t o.type e i z sz bytes ht.und hi hiz his hib hz ht.pos v n xs hown' ⟨W.heap.size, 0, none⟩ 1 1 us.toList (by rw [hl, Nat.one_mul]) hcell hu (by unfold maxLen; omega) (by omega) (by simp; omega)
  subst his; subst hib
  have hw := append_where (P := P) ht.und hi hiz hown' (m := 1) (c := 1) (by rw [hl, Nat.one_mul]) hcell hu (by unfold maxLen; omega) (by omega) hr
  have hg : W.grownBy w' v.ownBlock := ⟨h3.os, h3.tape, h3.output, by have := h3.size; simp at this; omega, fun k hk hne => by
      rw [h3.block k (by simp; omega) hne]; exact heap_alloc_old W _ hk⟩
  have hmv : Moved W v v' := by
    rcases hw with hw | hw
    · exact .inl hw
    · refine .inr fun k hk => ?_
      rw [hw] at hk
      have := Option.some.inj hk
      simp at this; omega
  refine wpListIn_plain hgd fun K hK => ?_
  unfold Oper.wpIn
  refine ⟨?_, ?_⟩
  · simp [Oper.about, ho, resolve, Target.leads, Sem.run_pure]
  · rw [Oper.semAt_plain F _ _ (by rw [ho]; intro c hc'; cases hc')]
    simp [execOp, ho, resolve, invoke, builtin, hs, hx, hr, Result.andThen]
    exact hK _ _ (h v' w' h2 hg hmv)
end
end Go.Att
namespace Go.Proofs.YtfepefbehgbjpaaGreatDoor
open Go.RowKit Go.Att Go.Shelf
attribute [local go_sem] Oper.semAt_some
section
variable {w : World}
end
end Go.Proofs.YtfepefbehgbjpaaGreatDoor
