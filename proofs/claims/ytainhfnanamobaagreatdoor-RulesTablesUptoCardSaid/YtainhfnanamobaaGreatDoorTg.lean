/- Tables: how a row comes about, plain; the laws for its blocks. -/
import Derived.Test.YtainhfnanamobaaGreatDoorTe
import Derived.Laws.CopyOwn
namespace Go.Att
open Go.RowKit
theorem ext_none {w w' : World} (h : w.grownBy w' none) : Ext w w' := ⟨h.os, h.tape, h.output, h.size, fun i hi => h.block i hi (by simp)⟩
/-- A row, cell by cell. -/
def mk1 (W : Nat) (a b c : Int) (q : Nat) : List Value := (((((List.replicate W (0 : Int)).map (Value.int .i64)).set 0 (.int .i64 a)).set 1 (.int .i64 b)).set 2 (.int .i64 c)).set (20 + q) (.int .i64 1)
def mk2 (X : List Value) (x y z : Int) : List Value := X.take 3 ++ [.int .i64 x, .int .i64 y, .int .i64 z] ++ X.drop (3 + 3)
def mk3 (X : List Value) (x y z : Int) : List Value := X.take 7 ++ [.int .i64 x, .int .i64 y, .int .i64 z] ++ X.drop (7 + 3)
theorem row_made {p : Int} {cd : List In4} {t : Stp} {q : Nat} (hq : t.pc = q) (m : Int) (S : List (Int × Int)) (r : Nat) :
    ((mk3 (mk2 (mk1 (20 + cd.length) t.fp t.ap t.rv q) (accA t.acc 0) (accA t.acc 1) (accA t.acc 2)) (accI t.acc 0) (accI t.acc 1) (accI t.acc 2)).set 6 (.int .i64 m)).set 11 (.int .i64 (hintS p cd t)) = (rowK p cd t m S 0 r).map (Value.int .i64) := by
  have hp : ∀ j, pickS S 0 j = (0, 0) := fun j => by unfold pickS; rw [if_neg (by omega)]
  unfold rowK
  rw [hp, hp, hp, hp]
  have e0 : (List.replicate (20 + cd.length) (0 : Int)).map (Value.int .i64) = [.int .i64 0, .int .i64 0, .int .i64 0, .int .i64 0, .int .i64 0, .int .i64 0, .int .i64 0, .int .i64 0, .int .i64 0, .int .i64 0, .int .i64 0, .int .i64 0, .int .i64 0, .int .i64 0, .int .i64 0, .int .i64 0, .int .i64 0, .int .i64 0, .int .i64 0, .int .i64 0] ++ (List.replicate cd.length (0 : Int)).map (Value.int .i64) := by
    rw [← List.replicate_append_replicate, List.map_append]; rfl
  have e1 : mk1 (20 + cd.length) t.fp t.ap t.rv q = [.int .i64 t.fp, .int .i64 t.ap, .int .i64 t.rv, .int .i64 0, .int .i64 0, .int .i64 0, .int .i64 0, .int .i64 0, .int .i64 0, .int .i64 0, .int .i64 0, .int .i64 0, .int .i64 0, .int .i64 0, .int .i64 0, .int .i64 0, .int .i64 0, .int .i64 0, .int .i64 0, .int .i64 0] ++ (selM cd.length t.pc).map (Value.int .i64) := by
    unfold mk1
    rw [e0]
    simp only [List.cons_append, List.nil_append, List.set_cons_zero, List.set_cons_succ]
    have e2 : ∀ (A B : List Value), A.length = 20 → (A ++ B).set (20 + q) (.int .i64 1) = A ++ B.set q (.int .i64 1) := fun A B hA => by
      rw [List.set_append_right _ _ (by omega), show 20 + q - A.length = q by omega]
    have e3 := e2 [.int .i64 t.fp, .int .i64 t.ap, .int .i64 t.rv, .int .i64 0, .int .i64 0, .int .i64 0, .int .i64 0, .int .i64 0, .int .i64 0, .int .i64 0, .int .i64 0, .int .i64 0, .int .i64 0, .int .i64 0, .int .i64 0, .int .i64 0, .int .i64 0, .int .i64 0, .int .i64 0, .int .i64 0] ((List.replicate cd.length (0 : Int)).map (Value.int .i64)) rfl
    simp only [List.cons_append, List.nil_append] at e3
    rw [e3]
    unfold selM
    rw [hq, Int.toNat_natCast, List.map_set]
  rw [e1]
  rfl
theorem mk1_eq (n : Nat) (a b c : Int) (q : Nat) : mk1 (20 + n) a b c q = [.int .i64 a, .int .i64 b, .int .i64 c, .int .i64 0, .int .i64 0, .int .i64 0, .int .i64 0, .int .i64 0, .int .i64 0, .int .i64 0, .int .i64 0, .int .i64 0, .int .i64 0, .int .i64 0, .int .i64 0, .int .i64 0, .int .i64 0, .int .i64 0, .int .i64 0, .int .i64 0] ++ ((List.replicate n (0 : Int)).map (Value.int .i64)).set q (.int .i64 1) := by
  have e0 : (List.replicate (20 + n) (0 : Int)).map (Value.int .i64) = [.int .i64 0, .int .i64 0, .int .i64 0, .int .i64 0, .int .i64 0, .int .i64 0, .int .i64 0, .int .i64 0, .int .i64 0, .int .i64 0, .int .i64 0, .int .i64 0, .int .i64 0, .int .i64 0, .int .i64 0, .int .i64 0, .int .i64 0, .int .i64 0, .int .i64 0, .int .i64 0] ++ (List.replicate n (0 : Int)).map (Value.int .i64) := by
    rw [← List.replicate_append_replicate, List.map_append]; rfl
  unfold mk1
  rw [e0]
  simp only [List.cons_append, List.nil_append, List.set_cons_zero, List.set_cons_succ]
  have e2 : ∀ (A B : List Value), A.length = 20 → (A ++ B).set (20 + q) (.int .i64 1) = A ++ B.set q (.int .i64 1) := fun A B hA => by
    rw [List.set_append_right _ _ (by omega), show 20 + q - A.length = q by omega]
  have e3 := e2 [.int .i64 a, .int .i64 b, .int .i64 c, .int .i64 0, .int .i64 0, .int .i64 0, .int .i64 0, .int .i64 0, .int .i64 0, .int .i64 0, .int .i64 0, .int .i64 0, .int .i64 0, .int .i64 0, .int .i64 0, .int .i64 0, .int .i64 0, .int .i64 0, .int .i64 0, .int .i64 0] ((List.replicate n (0 : Int)).map (Value.int .i64)) rfl
  simp only [List.cons_append, List.nil_append] at e3
  rw [e3]
theorem mk3_six (n : Nat) (a b c : Int) (q : Nat) (x y z u v w : Int) : (mk3 (mk2 (mk1 (20 + n) a b c q) x y z) u v w).set 6 (.int .i64 0) = mk3 (mk2 (mk1 (20 + n) a b c q) x y z) u v w := by
  rw [mk1_eq]; rfl
theorem mk1_length (W : Nat) (a b c : Int) (q : Nat) : (mk1 W a b c q).length = W := by simp [mk1]
theorem mk2_length {X : List Value} {W : Nat} (h : X.length = W) (hW : 20 ≤ W) (x y z : Int) : (mk2 X x y z).length = W := by simp [mk2]; omega
theorem mk3_length {X : List Value} {W : Nat} (h : X.length = W) (hW : 20 ≤ W) (x y z : Int) : (mk3 X x y z).length = W := by simp [mk3]; omega
/-- A row behind a copy. -/
theorem BlkOf.row {w : World} {b : Nat} {cs ds : List Value} {t : TypeId} (h : BlkOf w b cs t) : BlkOf (w.setRow b ds.toArray) b ds t := setRow_heap w b _ _ t _ h
theorem setRow_grown (w : World) (b : Nat) (cs : Array Value) : w.grownBy (w.setRow b cs) (some b) := ⟨rfl, rfl, rfl, by simp [World.setRow], fun k _ hne => setRow_other w b k cs (fun e => hne (by rw [e]))⟩
section
variable {P : Program}
/-- 'r[k:]' of a slice over a whole block. -/
theorem run_from {t e bytes : Nat} {z : Value} (ht : SlT P t e 1 bytes z) (b : Nat) {n k : Nat} (hk : k < n) (h0 : 0 < k) (w : World) : (Instr.sliceAt t (.slice (some ⟨b, 0, none⟩) n n) (some (.int .i64 (k : Int))) none none).run P w = .ok (.slice (some ⟨b, k, none⟩) (n - k) (n - k)) w := by
  have hu : P.underlying t = some (.slice (P.elem t)) := by rw [ht.und, elem_of ht.und]
  rw [run_sliceAt_slice (h := hu), run_slice_l (ht := hu) (h0 := by omega) (h1 := by omega), elem_of ht.und, ht.run_size]
  have hne : ¬ n = k := by omega
  simp [Result.andThen, sliced, hne, Addr.add_lit]
end
/-- The cells of the step that a row shows. -/
theorem stp_cells {w : World} {v : Value} {l : List Stp} (h : Sl w 10 v l.length (flatS l)) (hne : 1 ≤ l.length) (i : Nat) {k : Nat} (hk : k = min i (l.length - 1)) :
    w.cell? (elt v k 10) = some (.int .i64 (stpAt l i).pc) ∧ w.cell? ⟨(elt v k 10).block, (elt v k 10).off + 1, none⟩ = some (.int .i64 (stpAt l i).fp) ∧ w.cell? ⟨(elt v k 10).block, (elt v k 10).off + 2, none⟩ = some (.int .i64 (stpAt l i).ap) ∧ w.cell? ⟨(elt v k 10).block, (elt v k 10).off + 3, none⟩ = some (.int .i64 (stpAt l i).rv) ∧
    w.cell? ⟨(elt v k 10).block, (elt v k 10).off + 4, none⟩ = some (.int .i64 (accA (stpAt l i).acc 0)) ∧ w.cell? ⟨(elt v k 10).block, (elt v k 10).off + 5, none⟩ = some (.int .i64 (accA (stpAt l i).acc 1)) ∧ w.cell? ⟨(elt v k 10).block, (elt v k 10).off + 6, none⟩ = some (.int .i64 (accA (stpAt l i).acc 2)) ∧
    w.cell? ⟨(elt v k 10).block, (elt v k 10).off + 7, none⟩ = some (.int .i64 (accI (stpAt l i).acc 0)) ∧ w.cell? ⟨(elt v k 10).block, (elt v k 10).off + 8, none⟩ = some (.int .i64 (accI (stpAt l i).acc 1)) ∧ w.cell? ⟨(elt v k 10).block, (elt v k 10).off + 9, none⟩ = some (.int .i64 (accI (stpAt l i).acc 2)) := by
  subst hk
  have hlt : min i (l.length - 1) < l.length := by omega
  have e : stpAt l i = l[min i (l.length - 1)] := by
    unfold stpAt
    rw [List.getD_eq_getElem?_getD, List.getElem?_eq_getElem hlt]; rfl
  rw [e]
  exact stp_all h _ hlt
theorem own_ne_own2 {w : World} {B B' e e' sz sz' n n' : Nat} {v v' : Value} {xs ys : List Value} (h : w.ownsRow B e sz v n xs) (h' : w.ownsRow B' e' sz' v' n' ys) (hne : e ≠ e') : ∀ q, v'.ownBlock = some q → v.ownBlock ≠ some q := by
  intro q hq hq2
  rcases h.2 with ⟨rfl, _⟩ | ⟨g, cap, cur, rfl, _, hg, _⟩
  · simp [Value.ownBlock] at hq2
  · rcases h'.2 with ⟨rfl, _⟩ | ⟨g', cap', cur', rfl, _, hg', _⟩
    · simp [Value.ownBlock] at hq
    · simp [Value.ownBlock] at hq hq2
      subst hq hq2
      rw [hg] at hg'
      simp only [Option.some.injEq, Obj.cells.injEq] at hg'
      exact hne hg'.2.1
theorem row_grown2 {w w' : World} {B B' e e' sz sz' n n' : Nat} {v v' : Value} {xs ys : List Value} (h : w.ownsRow B e sz v n xs) (h' : w.ownsRow B' e' sz' v' n' ys) (hne : e ≠ e') (hg : w.grownBy w' v'.ownBlock) : w'.ownsRow B e sz v n xs := by
  have hq := own_ne_own2 h h' hne
  cases hu : v'.ownBlock with
  | none => rw [hu] at hg; exact own_ext h (ext_none hg)
  | some q => rw [hu] at hg; exact (Turned.one (c := q) hg).own h (hq q hu) (hq q hu)
theorem row_read {p : Int} {cd : List In4} {t : Stp} {m : Int} {S : List (Int × Int)} {r k : Nat} (hk : k < 4) :
    ((rowK p cd t m S 0 r).map (Value.int .i64))[3 + k]? = some (.int .i64 (nthP (prs4 t m) k).1) ∧ ((rowK p cd t m S 0 r).map (Value.int .i64))[7 + k]? = some (.int .i64 (nthP (prs4 t m) k).2) := by
  have h4 : k = 0 ∨ k = 1 ∨ k = 2 ∨ k = 3 := by omega
  rcases h4 with rfl | rfl | rfl | rfl <;> exact ⟨rfl, rfl⟩
theorem prs4_take {t : Stp} {m : Int} {k : Nat} (hk : k < 4) : (prs4 t m).take (k + 1) = (prs4 t m).take k ++ [nthP (prs4 t m) k] := by
  have h4 : k = 0 ∨ k = 1 ∨ k = 2 ∨ k = 3 := by omega
  rcases h4 with rfl | rfl | rfl | rfl <;> rfl
theorem flatP_snoct (L : List (Int × Int)) (x : Int × Int) : flatP (L ++ [x]) = flatP L ++ #[Value.int .i64 x.1, Value.int .i64 x.2].toList := by simp [flatP]
end Go.Att
