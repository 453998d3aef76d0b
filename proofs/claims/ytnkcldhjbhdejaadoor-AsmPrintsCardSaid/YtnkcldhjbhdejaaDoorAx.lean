/- Code as text, the document's side: whether an instruction can be written, outright; plain bounds; a slice that is made, as a block known whole. -/
import Derived.Test.YtnkcldhjbhdejaaDoorAw
import Derived.Test.YtnkcldhjbhdejaaDoorIq
namespace Go.Att
open Go.RowKit
theorem opdsA_le (N : Nat) (x : In4) (i : Nat) (h : ∀ j, j < i → fitsA (valA x j) = true) : (opdsA N x i).length ≤ 23 * i := by
  induction i with
  | zero => simp [opdsA]
  | succ i ih =>
    have h1 := ih (fun j hj => h j (by omega))
    have h2 := opdA_le N x i (h i (by omega))
    rw [opdsA_succ]
    simp only [List.length_append, List.length_cons]
    omega
theorem fitsA_nat {k : Nat} (h : k ≤ 4096) : fitsA (k : Int) = true := by unfold fitsA; rw [decide_eq_true_eq]; omega
theorem lineA_le (N : Nat) (x : In4) (h : rightA x = true) : (lineA N x).length ≤ 73 := by
  have h1 := opsA_len x.op.toNat
  have h2 := wordA_len x.op.toNat
  have h3 := opdsA_le N x (opsA x.op.toNat).length (fun j hj => rightA_val h j (by omega))
  unfold lineA
  simp only [List.length_append]
  omega
/-- The label of a place, where it is wanted. -/
def labA (l : List In4) (k : Nat) : List UInt8 := if wantA l k l.length = true then 108 :: (Lib.itoa k ++ [58, 10]) else []
theorem labA_le (l : List In4) (k : Nat) (hk : k ≤ 4096) : (labA l k).length ≤ 24 := by
  have := itoa_le _ (fitsA_nat hk)
  unfold labA
  split
  · simp only [List.length_append, List.length_cons, List.length_nil]; omega
  · simp
theorem rowA_eq (l : List In4) (k : Nat) : rowA l k = labA l k ++ (if k < l.length then lineA l.length (nthI l k) ++ [10] else []) := rfl
theorem rowA_le (l : List In4) (h : ∀ i, i < l.length → rightA (nthI l i) = true) (hl : l.length ≤ 4096) (k : Nat) (hk : k ≤ l.length) : (rowA l k).length ≤ 110 := by
  have h1 := labA_le l k (by omega)
  rw [rowA_eq]
  split
  · have h2 := lineA_le l.length (nthI l k) (h k (by omega))
    simp only [List.length_append, List.length_cons, List.length_nil]; omega
  · simp only [List.length_append, List.length_nil]; omega
theorem textU_le (sz : Int) (l : List In4) (hs : fitsA sz = true) (h : ∀ i, i < l.length → rightA (nthI l i) = true) (hl : l.length ≤ 4096) (k : Nat) (hk : k ≤ l.length + 1) : (textU sz l k).length ≤ 30 + 110 * k := by
  induction k with
  | zero =>
    have := itoa_le _ hs
    simp only [textU, List.range_zero, List.flatMap_nil, List.length_append, List.length_cons, List.length_nil]; omega
  | succ k ih =>
    have h1 := ih (by omega)
    have h2 := rowA_le l h hl k (by omega)
    rw [textU_succ, List.length_append]
    omega
section
variable {P : Program} {ops : Array Oper} {rest : List Oper} {o : Oper} {a : Act} {Q : Exit → Act → World → Prop}
theorem ix_blk {t e bytes : Nat} {z : Value} (ht : SlT P t e 1 bytes z) (b : Nat) {n i : Nat} (hi : i < n) (hn : n ≤ maxLen) (w : World) : (Instr.indexAt t (.slice (some ⟨b, 0, none⟩) n n) (.int .i64 (i : Int))).run P w = .ok (.pointer (some ⟨b, i, none⟩)) w := by
  obtain ⟨W, hW⟩ : ∃ W : World, BlkOf W b (List.replicate n (.int .i64 0)) e := ⟨{ (default : World) with heap := Array.replicate (b + 1) (.cells (List.replicate n (Value.int .i64 0)).toArray e (0, 0)) }, by unfold BlkOf; simp⟩
  have hsl : Sl W 1 (.slice (some ⟨b, 0, none⟩) n n) n (List.replicate n (.int .i64 0)) := ⟨some ⟨b, 0, none⟩, n, rfl, by simp, Nat.le_refl _, hn, fun i hi => by
    refine ⟨_, _, rfl, ?_⟩
    rw [Nat.zero_add, hW.cell]
    exact List.getElem?_eq_getElem hi⟩
  have := Sl.run_index (P := P) hsl ht (i : Int) (by omega) (by omega) w
  rw [this, Int.toNat_natCast]
  simp only [elt, Addr.add, Nat.mul_one]
  by_cases h0 : i = 0
  · subst h0; rfl
  · rw [if_neg h0]; simp
/-- 'make([]T, n)' with elements of one cell: a block known whole. -/
theorem wpList_mkB {W : World} (hgd : o.guard = none) (l c : Operand) (t : TypeId) (hop : o.op = Op.makeSlice t l c) {e bytes : Nat} {z : Value} (ht : SlT P t e 1 bytes z) (hz1 : z.cells = #[z]) (hby : bytes ≤ 65536)
    {kl kc : IntKind} {C : Int} {n : Nat} (hl : a.eval l = .int kl C) (hc : a.eval c = .int kc C) (hC : C = (n : Int)) (h1 : n ≤ 4294967296)
    (h : ∀ w', BlkOf w' W.heap.size (List.replicate n z) e → W.grownBy w' none → wpList P ops Q rest (a.put o.dst (.slice (some ⟨W.heap.size, 0, none⟩) n n)) w') : wpList P ops Q (o :: rest) a W := by
  obtain ⟨i, hi, hiz, his, hib⟩ := ht.inf
  have hB : i.bytes * n ≤ 65536 * 4294967296 := Nat.mul_le_mul (by omega) h1
  refine wpList_make_full W hgd l c t hop W.heap.size e i z 1 ht.und hi hiz his kl kc C C n hl hc hC hC (by omega) (by unfold maxLen; omega) (Nat.le_refl _) ?_
  intro w' h2 h3
  refine h w' ?_ h3
  obtain ⟨g1, g2⟩ := h2
  rcases g2 with ⟨g2, _⟩ | ⟨g, cap, cur, g2, _, g3, _, _, g4, g5⟩
  · cases g2
  · simp only [Value.slice.injEq, Option.some.injEq, Addr.mk.injEq] at g2
    obtain ⟨⟨rfl, -, -⟩, -, rfl⟩ := g2
    rw [List.take_of_length_le (by simp; omega)] at g5
    unfold BlkOf
    have e2 : (madeCells z.cells (n * 1)).toList = List.replicate n z := by
      apply List.ext_getElem?
      intro k
      simp only [madeCells, hz1, Nat.mul_one, List.getElem?_replicate]
      by_cases hk : k < n
      · simp [hk, Nat.mod_one]
      · simp [hk]
    rw [g3, show cur = cur.toList.toArray by simp, g5, e2]
end
end Go.Att
namespace Go.Proofs.YtnkcldhjbhdejaaDoor
open Go.RowKit Go.Att
theorem aproper_any (x : In4) (w : World) :
    Calls Tryd.prog 19 #[.agg #[.int .i64 x.op, .int .i64 x.a, .int .i64 x.b, .int .i64 x.c]] w fun e w' => e = .returned (.bool (rightA x)) ∧ Ext w w' := by
  by_cases h : 0 ≤ x.op ∧ x.op < 14
  · cases hf : (fitsA x.a && fitsA x.b && fitsA x.c) with
    | false => exact aproper_off x w h hf
    | true =>
      rw [Bool.and_eq_true, Bool.and_eq_true] at hf
      exact aproper_fit x w h hf.1.1 hf.1.2 hf.2
  · exact aproper_out x w h
theorem new_in (w : World) (n : Nat) (c : Nat) : NewIn w (.slice (some ⟨w.heap.size, 0, none⟩) n c) := fun k hk => by simp [Value.ownBlock] at hk; omega
set_option maxRecDepth 100000 in
set_option maxHeartbeats 2000000 in
theorem aneeds_new (w : World) : Calls Tryd.prog 18 #[] w (Gives w fun u w' => Strs w' u needsA ∧ NewIn w u) := by
  go_enter Tryd.func18, Tryd.ntmps18
  go_wp2_with fail
  go_ret
  exact .mk _ rfl (Ext.alloc _ _) ⟨strs_new w _ 9 needsA (by kernel_rfl) (by decide), new_in _ _ _⟩
theorem Strs.grown {w w' : World} {v : Value} {L : List (List UInt8)} {b : Nat} (h : Strs w v L) (hg : w.grownBy w' (some b)) (hn : ∀ k, v.ownBlock = some k → k ≠ b) : Strs w' v L := Sl.grown h hg (fun k hk e => hn k hk (Option.some.inj e))
theorem aget_c (x : In4) (t : Bool) (j : Nat) (hj : j < 3) {c : Int} (hc : letA t j = c) (W : World) : Calls Tryd.prog 20 #[.agg #[.int .i64 x.op, .int .i64 x.a, .int .i64 x.b, .int .i64 x.c], .int .u8 c] W fun e w' => e = .returned (.int .i64 (valA x j)) ∧ Ext W w' := by
  rw [← hc]; exact aget_any x t j hj W
theorem let_c {t : Bool} {j : Nat} {c : Int} (hc : letA t j = c) : c = if t = true then 65 + (j : Int) else 97 + (j : Int) := by rw [← hc]; rfl
theorem slBoolA : SlT Tryd.prog 40 4 1 1 (.bool false) := .mk' Tryd.underlying40 (by kernel_rfl) (by decide)
end Go.Proofs.YtnkcldhjbhdejaaDoor
