/- Tables: rows under way, each a block of its own. -/
import Derived.Test.YtainhfnanamobaaGreatDoorTd
import Derived.Test.YtainhfnanamobaaGreatDoorTc
namespace Go.Att
open Go.RowKit
/-- The rows of a table under way: each a block of its own. -/
structure RowsAt (w : World) (B : Nat) (e eR : TypeId) (v : Value) (n W : Nat) (bs : Nat → Nat) (L : Nat → List Int) : Prop where
  own : w.ownsRow B eR 1 v n ((List.range n).map fun r => .slice (some ⟨bs r, 0, none⟩) W W)
  row : ∀ r, r < n → BlkOf w (bs r) ((L r).map (Value.int .i64)) e
  base : ∀ r, r < n → B ≤ bs r
  nd : ∀ r s, r < s → s < n → bs r ≠ bs s
  ne : eR ≠ e
section
variable {w w' : World} {B : Nat} {e eR : TypeId} {v : Value} {n W : Nat} {bs : Nat → Nat} {L : Nat → List Int}
theorem RowsAt.out (h : RowsAt w B e eR v n W bs L) {r : Nat} (hr : r < n) : v.ownBlock ≠ some (bs r) := own_not_blk h.own (h.row r hr) h.ne
theorem RowsAt.ext (h : RowsAt w B e eR v n W bs L) (hx : Ext w w') : RowsAt w' B e eR v n W bs L :=
  ⟨own_ext h.own hx, fun r hr => (h.row r hr).ext hx, h.base, h.nd, h.ne⟩
/-- A block that is none of the table's was written. -/
theorem RowsAt.kept (h : RowsAt w B e eR v n W bs L) {q : Nat} (hg : w.grownBy w' (some q)) (h1 : v.ownBlock ≠ some q) (h2 : ∀ r, r < n → bs r ≠ q) : RowsAt w' B e eR v n W bs L :=
  ⟨(Turned.one (c := q) hg).own h.own h1 h1, fun r hr => (h.row r hr).grown hg (fun e => h2 r hr (Option.some.inj e)), h.base, h.nd, h.ne⟩
theorem RowsAt.kept' (h : RowsAt w B e eR v n W bs L) {u : Value} (hg : w.grownBy w' u.ownBlock) (h1 : ∀ q, u.ownBlock = some q → v.ownBlock ≠ some q) (h2 : ∀ r, r < n → u.ownBlock ≠ some (bs r)) : RowsAt w' B e eR v n W bs L := by
  cases hu : u.ownBlock with
  | none =>
    rw [hu] at hg
    exact h.ext ⟨hg.os, hg.tape, hg.output, hg.size, fun i hi => hg.block i hi (by simp)⟩
  | some q =>
    rw [hu] at hg
    exact h.kept hg (h1 q hu) (fun r hr e => h2 r hr (by rw [hu, e]))
/-- One row more. -/
theorem RowsAt.push (h : RowsAt w B e eR v n W bs L) {b : Nat} {v' : Value} (hb : BlkOf w b ((L n).map (Value.int .i64)) e) (hB : B ≤ b) (hne : ∀ r, r < n → bs r ≠ b)
    (ho : w'.ownsRow B eR 1 v' (n + 1) (((List.range n).map fun r => .slice (some ⟨bs r, 0, none⟩) W W) ++ [.slice (some ⟨b, 0, none⟩) W W])) (hg : w.grownBy w' v.ownBlock) :
    RowsAt w' B e eR v' (n + 1) W (fun r => if r = n then b else bs r) L := by
  refine ⟨?_, fun r hr => ?_, fun r hr => ?_, fun r s hrs hs => ?_, h.ne⟩
  · rw [List.range_succ, List.map_append]
    rw [show (List.map (fun r => Value.slice (some ⟨if r = n then b else bs r, 0, none⟩) W W) (List.range n)) = (List.range n).map fun r => .slice (some ⟨bs r, 0, none⟩) W W from List.map_congr_left (fun r hr => by
      have := List.mem_range.1 hr
      rw [if_neg (by omega)])]
    simpa using ho
  · by_cases e : r = n
    · subst e
      simp only [if_true]
      exact hb.grown hg (fun e => own_not_blk h.own hb h.ne e.symm)
    · rw [if_neg e]
      exact (h.row r (by omega)).grown hg (fun e => h.out (show r < n by omega) e.symm)
  · by_cases e : r = n
    · rw [if_pos e]; exact hB
    · rw [if_neg e]; exact h.base r (by omega)
  · by_cases e1 : s = n
    · subst e1
      rw [if_neg (by omega), if_pos rfl]
      exact hne r hrs
    · rw [if_neg (by omega), if_neg e1]
      exact h.nd r s hrs (by omega)
theorem map_set2 (l : List Int) (i : Nat) (x : Int) : (l.map (Value.int .i64)).set i (.int .i64 x) = (l.set i x).map (Value.int .i64) := by rw [List.map_set]
/-- Two cells of one row are written. -/
theorem RowsAt.write (h : RowsAt w B e eR v n W bs L) {r0 i j : Nat} {x y : Int} (hr0 : r0 < n) {L' : Nat → List Int} (h1 : L' r0 = ((L r0).set i x).set j y) (h2 : ∀ r, r ≠ r0 → L' r = L r) :
    RowsAt ((w.setCell ⟨bs r0, i, none⟩ (.int .i64 x)).setCell ⟨bs r0, j, none⟩ (.int .i64 y)) B e eR v n W bs L' := by
  have hg := grown_one (setCell_grown w (bs r0) i (.int .i64 x)) (setCell_grown _ (bs r0) j (.int .i64 y))
  refine ⟨(Turned.one (c := bs r0) hg).own h.own (h.out hr0) (h.out hr0), fun r hr => ?_, h.base, h.nd, h.ne⟩
  by_cases e : r = r0
  · subst e
    rw [h1, ← map_set2, ← map_set2]
    exact ((h.row r hr).set i _).set j _
  · rw [h2 r e]
    refine (h.row r hr).grown hg (fun e2 => ?_)
    have e3 := Option.some.inj e2
    rcases Nat.lt_or_gt_of_ne e with hlt | hlt
    · exact h.nd r r0 hlt hr0 e3
    · exact h.nd r0 r hlt hr e3.symm
theorem RowsAt.rws (h : RowsAt w B e eR v n W bs L) (hl : ∀ r, r < n → (L r).length = W) (hW : W ≤ maxLen) : Rws w v ((List.range n).map L) := by
  refine ⟨fun r => .slice (some ⟨bs r, 0, none⟩) W W, ?_, fun i hi => ?_⟩
  · have := Sl.of_own h.own (by omega)
    simpa using this
  · have hi' : i < n := by simpa using hi
    have e : nthL ((List.range n).map L) i = L i := by rw [nthL_eq hi]; simp
    rw [e]
    unfold Ints
    rw [hl i hi']
    exact (h.row i hi').sl (by simp [hl i hi']) hW
theorem RowsAt.row_at (h : RowsAt w B e eR v n W bs L) {r : Nat} (hr : r < n) : Ext w w → w.cell? (elt v r 1) = some (.slice (some ⟨bs r, 0, none⟩) W W) := fun _ => by
  have hs := Sl.of_own h.own (by omega)
  have := Sl.cell hs r 0 hr (by omega)
  simp only [Addr.add, if_true, Nat.add_zero, Nat.mul_one] at this
  rw [this]
  simp [hr]
end
end Go.Att
