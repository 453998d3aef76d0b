/- What a table over variables looks like over a domain, the program's side: contracts. -/
import Derived.Test.YtcpnidomdkaefaaGreatDoorJe
import Derived.Test.YtcpnidomdkaefaaGreatDoorZx2
import Derived.Test.YtcpnidomdkaefaaGreatDoorZx3
namespace Go.Att
open Go.RowKit
/-- A shape: the field, the domain, 2^a rows of 2^b elements. -/
def ShpOf (w : World) (s f d : Value) (a b : Nat) : Prop := ∃ k, s = .pointer (some ⟨k, 0, none⟩) ∧ w.cell? ⟨k, 0, none⟩ = some f ∧ w.cell? ⟨k, 1, none⟩ = some d ∧ w.cell? ⟨k, 2, none⟩ = some (.int .i64 a) ∧ w.cell? ⟨k, 3, none⟩ = some (.int .i64 b)
theorem ShpOf.ext {w w' : World} {s f d : Value} {a b : Nat} (h : ShpOf w s f d a b) (hx : Ext w w') : ShpOf w' s f d a b := by
  obtain ⟨k, h0, h1, h2, h3, h4⟩ := h
  exact ⟨k, h0, hx.cell h1, hx.cell h2, hx.cell h3, hx.cell h4⟩
/-- Whether there is room. -/
def roomB (n : Int) (v : Nat) : Bool := decide ((2 : Int) ^ (v - v / 2) ≤ n / 2)
def ShpGot (f d : Value) (n : Int) (v : Nat) (u : Value) (w : World) : Prop := ∃ s, u = .tuple #[s, .bool (roomB n v)] ∧ ShpOf w s f d (v / 2) (v - v / 2)
end Go.Att
namespace Go.Proofs.YtcpnidomdkaefaaGreatDoor
open Go.RowKit Go.Att
section
variable {w : World}
set_option maxRecDepth 100000 in
set_option maxHeartbeats 8000000 in
theorem shaped_any {d : Value} {bf : Nat} {n sh r : Int} (hd : DomOf w d (.pointer (some ⟨bf, 0, none⟩)) n sh r) (h1 : 1 ≤ n) (h2 : n ≤ 65536) (v : Nat) (hv : v ≤ 12) :
    Calls Tryz.prog 31 #[d, .int .i64 v] w (Gives w (ShpGot (.pointer (some ⟨bf, 0, none⟩)) d n v)) := by
  have HD := Lib.hid hd
  obtain ⟨b, rfl, -⟩ := hd
  have hq : (v : Int).tdiv 2 = ((v / 2 : Nat) : Int) := by rw [Int.tdiv_eq_ediv_of_nonneg (by omega)]; omega
  obtain ⟨a, ha⟩ : ∃ a, v / 2 = a := ⟨_, rfl⟩
  have hs : (v : Int) - (a : Int) = ((v - a : Nat) : Int) := by omega
  obtain ⟨c, hc⟩ : ∃ c, v - a = c := ⟨_, rfl⟩
  rw [ha] at hq
  rw [hc] at hs
  go_enter Tryz.func31, Tryz.ntmps31
  go_upto_region 3 with (go_at_call 89; refine (dfield_any HD.out).mono ?_; rintro e w1 ⟨rfl, m, rfl⟩)
  have hx1 := (Ext.drewN w m).trans (Ext.alloc (w.drewN m) (Obj.cells #[.pointer (some ⟨bf, 0, none⟩), .pointer (some ⟨b, 0, none⟩), .int .i64 a, .int .i64 c] 82))
  have g0 : _ = some (Value.pointer (some ⟨bf, 0, none⟩)) := cell_new (w.drewN m) #[.pointer (some ⟨bf, 0, none⟩), .pointer (some ⟨b, 0, none⟩), .int .i64 a, .int .i64 c] 82 0
  have g1 : _ = some (Value.pointer (some ⟨b, 0, none⟩)) := cell_new (w.drewN m) #[.pointer (some ⟨bf, 0, none⟩), .pointer (some ⟨b, 0, none⟩), .int .i64 a, .int .i64 c] 82 1
  have g2 : _ = some (Value.int .i64 a) := cell_new (w.drewN m) #[.pointer (some ⟨bf, 0, none⟩), .pointer (some ⟨b, 0, none⟩), .int .i64 a, .int .i64 c] 82 2
  have g3 : _ = some (Value.int .i64 c) := cell_new (w.drewN m) #[.pointer (some ⟨bf, 0, none⟩), .pointer (some ⟨b, 0, none⟩), .int .i64 a, .int .i64 c] 82 3
  rw [show (w.drewN m).heap.size = w.heap.size from rfl] at g0 g1 g2 g3
  generalize (w.drewN m).alloc (Obj.cells #[.pointer (some ⟨bf, 0, none⟩), .pointer (some ⟨b, 0, none⟩), .int .i64 a, .int .i64 c] 82) = w4 at *
  have HX4 := Lib.hid hx1
  have HSH := Lib.hid (show ShpOf w4 (.pointer (some ⟨w.heap.size, 0, none⟩)) (.pointer (some ⟨bf, 0, none⟩)) (.pointer (some ⟨b, 0, none⟩)) a c from ⟨_, rfl, g0, g1, g2, g3⟩)
  have HRM := Lib.hid (show roomB n v = decide ((2 : Int) ^ c ≤ n / 2) from by unfold roomB; rw [ha, hc])
  have HA := Lib.hid ha
  have HC := Lib.hid (show v - v / 2 = c from by rw [ha]; exact hc)
  have hc6 : c = 0 ∨ c = 1 ∨ c = 2 ∨ c = 3 ∨ c = 4 ∨ c = 5 ∨ c = 6 := by omega
  have hn2 : n.tdiv 2 = n / 2 := Int.tdiv_eq_ediv_of_nonneg (by omega)
  clear hx1 g0 g1 g2 hq hs ha hc
  have HD4 := Lib.hid (HD.out.ext HX4.out)
  rcases hc6 with rfl | rfl | rfl | rfl | rfl | rfl | rfl
  all_goals
    go_quiet ((go_at_call 35; exact size_q HD4.out _))
    go_wp2_with fail
    go_ret2
    exact .mk _ rfl (HX4.out.trans (Ext.drewN _ _)) ⟨_, by rw [HRM.out]; trivial, by rw [HC.out, HA.out]; exact HSH.out.ext (Ext.drewN _ _)⟩
end
end Go.Proofs.YtcpnidomdkaefaaGreatDoor
