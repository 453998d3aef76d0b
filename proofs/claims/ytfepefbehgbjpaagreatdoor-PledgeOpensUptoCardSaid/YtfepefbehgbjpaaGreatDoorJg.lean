/- What a table over variables looks like over a domain, the program's side: contracts. -/
import Derived.Test.YtfepefbehgbjpaaGreatDoorJe
import Derived.Test.YtfepefbehgbjpaaGreatDoorZx2
import Derived.Test.YtfepefbehgbjpaaGreatDoorZx6
namespace Go.Att
open Go.RowKit
def ShpOf (w : World) (s f d : Value) (a b : Nat) : Prop := ∃ k, s = .pointer (some ⟨k, 0, none⟩) ∧ w.cell? ⟨k, 0, none⟩ = some f ∧ w.cell? ⟨k, 1, none⟩ = some d ∧ w.cell? ⟨k, 2, none⟩ = some (.int .i64 a) ∧ w.cell? ⟨k, 3, none⟩ = some (.int .i64 b)
theorem ShpOf.ext {w w' : World} {s f d : Value} {a b : Nat} (h : ShpOf w s f d a b) (hx : Ext w w') : ShpOf w' s f d a b := by
  obtain ⟨k, h0, h1, h2, h3, h4⟩ := h
  exact ⟨k, h0, hx.cell h1, hx.cell h2, hx.cell h3, hx.cell h4⟩
def roomB (n : Int) (v : Nat) : Bool := decide ((2 : Int) ^ (v - v / 2) ≤ n / 2)
def ShpGot (f d : Value) (n : Int) (v : Nat) (u : Value) (w : World) : Prop := ∃ s, u = .tuple #[s, .bool (roomB n v)] ∧ ShpOf w s f d (v / 2) (v - v / 2)
end Go.Att
namespace Go.Proofs.YtfepefbehgbjpaaGreatDoor
open Go.RowKit Go.Att
section
variable {w : World}
set_option maxRecDepth 100000 in
set_option maxHeartbeats 8000000 in
theorem shaped_any {d : Value} {bf : Nat} {n sh r : Int} (hd : DomOf w d (.pointer (some ⟨bf, 0, none⟩)) n sh r) (h1 : 1 ≤ n) (h2 : n ≤ 65536) (v : Nat) (hv : v ≤ 12) :
    Calls Tryz.prog 56 #[d, .int .i64 v] w (Gives w (ShpGot (.pointer (some ⟨bf, 0, none⟩)) d n v)) := by
  have HD := Lib.hid hd
  obtain ⟨b, rfl, -⟩ := hd
  have hq : (v : Int).tdiv 2 = ((v / 2 : Nat) : Int) := by rw [Int.tdiv_eq_ediv_of_nonneg (by omega)]; omega
  obtain ⟨a, ha⟩ : ∃ a, v / 2 = a := ⟨_, rfl⟩
  have hs : (v : Int) - (a : Int) = ((v - a : Nat) : Int) := by omega
  obtain ⟨c, hc⟩ : ∃ c, v - a = c := ⟨_, rfl⟩
  rw [ha] at hq
  rw [hc] at hs
  go_enter Tryz.func56, Tryz.ntmps56
  go_upto_region 3 with (go_at_call 109; refine (dfield_any HD.out).mono ?_; rintro e w1 ⟨rfl, m, rfl⟩)
  have hx1 := (Ext.drewN w m).trans (Ext.alloc (w.drewN m) (Obj.cells #[.pointer (some ⟨bf, 0, none⟩), .pointer (some ⟨b, 0, none⟩), .int .i64 a, .int .i64 c] 72))
  have g0 : _ = some (Value.pointer (some ⟨bf, 0, none⟩)) := cell_new (w.drewN m) #[.pointer (some ⟨bf, 0, none⟩), .pointer (some ⟨b, 0, none⟩), .int .i64 a, .int .i64 c] 72 0
  have g1 : _ = some (Value.pointer (some ⟨b, 0, none⟩)) := cell_new (w.drewN m) #[.pointer (some ⟨bf, 0, none⟩), .pointer (some ⟨b, 0, none⟩), .int .i64 a, .int .i64 c] 72 1
  have g2 : _ = some (Value.int .i64 a) := cell_new (w.drewN m) #[.pointer (some ⟨bf, 0, none⟩), .pointer (some ⟨b, 0, none⟩), .int .i64 a, .int .i64 c] 72 2
  have g3 : _ = some (Value.int .i64 c) := cell_new (w.drewN m) #[.pointer (some ⟨bf, 0, none⟩), .pointer (some ⟨b, 0, none⟩), .int .i64 a, .int .i64 c] 72 3
  rw [show (w.drewN m).heap.size = w.heap.size from rfl] at g0 g1 g2 g3
  generalize (w.drewN m).alloc (Obj.cells #[.pointer (some ⟨bf, 0, none⟩), .pointer (some ⟨b, 0, none⟩), .int .i64 a, .int .i64 c] 72) = w4 at *
  have HX4 := Lib.hid hx1
  have HSH := Lib.hid (show ShpOf w4 (.pointer (some ⟨w.heap.size, 0, none⟩)) (.pointer (some ⟨bf, 0, none⟩)) (.pointer (some ⟨b, 0, none⟩)) a c from ⟨_, rfl, g0, g1, g2, g3⟩)
  have HRM := Lib.hid (show roomB n v = decide ((2 : Int) ^ c ≤ n / 2) from by unfold roomB; rw [ha, hc])
  have HA := Lib.hid ha
  have HC := Lib.hid (show v - v / 2 = c from by rw [ha]; exact hc)
  have hc6 : c = 0 ∨ c = 1 ∨ c = 2 ∨ c = 3 ∨ c = 4 ∨ c = 5 ∨ c = 6 := by omega
  have hn2 : n.tdiv 2 = n / 2 := Int.tdiv_eq_ediv_of_nonneg (by omega)
  clear hx1 g0 g1 g2 hq hs ha hc
  have HD4 := Lib.hid (HD.out.ext HX4.out)
  rcases hc6 with rfl | rfl | rfl | rfl | rfl | rfl | rfl
  all_goals
    go_quiet ((go_at_call 37; exact size_q HD4.out _))
    go_wp2_with fail
    go_ret2
    exact .mk _ rfl (HX4.out.trans (Ext.drewN _ _)) ⟨_, by rw [HRM.out]; trivial, by rw [HC.out, HA.out]; exact HSH.out.ext (Ext.drewN _ _)⟩
set_option maxRecDepth 100000 in
set_option maxHeartbeats 8000000 in
theorem blen_any (k : Nat) (hk : k ≤ 12) (x : Int) (hx : x = (2 : Int) ^ k) (W : World) :
    Calls Tryz.prog 73 #[.int .u64 x] W fun e w' => e = .returned (.int .i64 ((k : Int) + 1)) ∧ W = w' := by
  subst hx
  rcases le12 hk with rfl | rfl | rfl | rfl | rfl | rfl | rfl | rfl | rfl | rfl | rfl | rfl | rfl
  all_goals
    clear hk
    go_enter Tryz.func73, Tryz.ntmps73
    go_wp2
    go_ret
    exact ⟨by kernel_rfl, rfl⟩
set_option maxRecDepth 100000 in
set_option maxHeartbeats 8000000 in
theorem of_ok {d : Value} {bf : Nat} {n sh r : Int} (hd : DomOf w d (.pointer (some ⟨bf, 0, none⟩)) n sh r) (h1 : 1 ≤ n) (h2 : n ≤ 65536) {vt : Value} {l : List Int} (hv : Ints w vt l) (k : Nat) (hk : k ≤ 12) (hl : l.length = 2 ^ k) :
    Calls Tryz.prog 23 #[d, vt] w (Gives w (ShpGot (.pointer (some ⟨bf, 0, none⟩)) d n k)) := by
  have hll := hv.run_len (P := Tryz.prog) slInts
  rw [hl, show ((2 ^ k : Nat) : Int) = (2 : Int) ^ k by simp] at hll
  have CB := Lib.hid (blen_any k hk)
  have C := Lib.hid (fun (x : Int) (hx : x = (k : Int)) => by have := shaped_any hd h1 h2 k hk; rw [← hx] at this; exact this)
  clear hd hv hl h1 h2
  rcases le12 hk with rfl | rfl | rfl | rfl | rfl | rfl | rfl | rfl | rfl | rfl | rfl | rfl | rfl
  all_goals
    clear hk
    go_enter Tryz.func23, Tryz.ntmps23
    go_wp2_with (first | (go_at_call 73; refine (CB.out _ (by rfl) _).mono ?_; rintro e w' ⟨rfl, rfl⟩) | go_at_call 56; refine (C.out _ (by rfl)).mono ?_; rintro e w1 ⟨v1, rfl, hx1, s, rfl, hs⟩)
    go_ret2
    exact .mk _ rfl hx1 ⟨_, rfl, hs⟩
set_option maxRecDepth 100000 in
set_option maxHeartbeats 8000000 in
theorem of_no (d : Value) {vt : Value} {l : List Int} (hv : Ints w vt l) (hn : varOf l.length < 0) :
    Calls Tryz.prog 23 #[d, vt] w fun e w' => e = .returned (.tuple #[.pointer none, .bool false]) ∧ w = w' := by
  have hll := hv.run_len (P := Tryz.prog) slInts
  have hlen := hv.len
  clear hv
  generalize hnn : (l.length : Int) = n at *
  have h00 : 0 ≤ n := by omega
  have hn9 : n ≤ 9223372036854775807 := by omega
  clear hnn hlen
  by_cases h0 : n = 0
  · subst h0
    go_enter Tryz.func23, Tryz.ntmps23
    go_wp2_with fail
    go_ret2
    exact ⟨rfl, rfl⟩
  · have hz : (n == 0) = false := by rw [beq_eq_false_iff_ne]; exact h0
    by_cases h2 : 4096 < n
    · cases hm : (bits BinOp.and IntKind.i64 n (n - 1) != 0)
      all_goals
        go_enter Tryz.func23, Tryz.ntmps23
        go_wp2_with fail
        go_ret2
        exact ⟨rfl, rfl⟩
    · have hm : (bits BinOp.and IntKind.i64 n (n - 1) != 0) = true := by rw [twoB_iff (by omega) (by omega), var_two (by omega) (by omega), decide_eq_false (by omega)]; rfl
      clear hn
      go_enter Tryz.func23, Tryz.ntmps23
      go_wp2_with fail
      go_ret2
      exact ⟨rfl, rfl⟩
end
end Go.Proofs.YtfepefbehgbjpaaGreatDoor
