/- A region that draws its order, in a round of a range over a function: its first n operations are quiet, the others stand in one order: the text's order serves for all. No program in sight. Every part of a part: Every, parts and its closure: contracts. -/
import Derived.Test.YtgnomhbbbcfehaaGreatDoorQt
import Derived.RangeFuncNested
import Derived.RangeFuncBound
import Derived.RangeFuncCalls
import Derived.RangeFuncLeaves
import Derived.OrdersIn
import Derived.TacticsIn
import Derived.Test.YtgnomhbbbcfehaaGreatDoorSsj
import Derived.Shelf.Abstract
import Derived.WalkKit
import Derived.OwnWalkIn
import Derived.TacticsInMore
import Derived.LoopNIn
import Derived.LoopIn
section
namespace Go
section
variable {P : Program} {l : List Oper} {n : Nat} {C : World → Prop}
end
end Go
end
section
namespace Go.Att
open Go.RowKit
theorem sum_mem1 {l : List Nat} {x : Nat} (h : x ∈ l) : x ≤ l.sum := by
  induction l with
  | nil => cases h
  | cons a r ih =>
    rw [List.sum_cons]
    rcases List.mem_cons.mp h with e | e
    · omega
    · have := ih e; omega
theorem len_wei (ks : List Tr) : ks.length ≤ (ks.map weiT).sum := by
  induction ks with
  | nil => exact Nat.le_refl 0
  | cons t r ih => cases t; rw [List.map_cons, List.sum_cons, List.length_cons, weiT_mk]; omega
section
variable {w w' : World} {T E : TypeId} {t : Tr} {lo hi : Nat} {v : Value}
theorem own_below {B e sz n : Nat} {xs : List Value} (h : w.ownsRow B e sz v n xs) (hb : Below hi w w') (hA : ∀ A, v.ownBlock = some A → A < hi) : w'.ownsRow B e sz v n xs := by
  refine ⟨h.1, ?_⟩
  rcases h.2 with h2 | ⟨g, cap, cur, hv, hbg, hgg, hr⟩
  · exact .inl h2
  · subst hv
    exact .inr ⟨g, cap, cur, rfl, hbg, by rw [hb.block g (hA g rfl)]; exact hgg, hr⟩
theorem trAt.below (h : trAt T E t lo hi w v) (hb : Below hi w w') : trAt T E t lo hi w' v := by
  induction t using Tr.ind generalizing v with
  | h kd n s ks p ih =>
    obtain ⟨q, kv, vs, h1, h2, h3, h4, h5, h6, h7⟩ := trAt_mk.mp h
    refine trAt_mk.mpr ⟨q, kv, vs, h1, h2, h3, ?_, own_below h5 hb h6, h6, h7.imp fun x t ht hx => ih t ht hx⟩
    unfold BlkOf at *
    rw [hb.block q h3]; exact h4
end
end Go.Att
namespace Go.Proofs.YtgnomhbbbcfehaaGreatDoor
open Go.RowKit Go.Att Go.Shelf
attribute [local go_sem] Oper.semAt_some
end Go.Proofs.YtgnomhbbbcfehaaGreatDoor
end
