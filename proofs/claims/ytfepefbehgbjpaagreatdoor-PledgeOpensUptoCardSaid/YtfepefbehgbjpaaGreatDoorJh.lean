/- What a table fits in; its rows: the document's side: contracts. -/
import Derived.Test.YtfepefbehgbjpaaGreatDoorJg
import Derived.Test.YtfepefbehgbjpaaGreatDoorZx19
import Derived.Test.YtfepefbehgbjpaaGreatDoorZx14
namespace Go.Att
open Go.RowKit
def rowsL (l : List Int) (m c : Nat) : List (List Int) := (List.range c).map fun i => (l.drop (i * m)).take m
theorem rowsL_length (l : List Int) (m c : Nat) : (rowsL l m c).length = c := by simp [rowsL]
theorem rowsL_nth (l : List Int) (m c i : Nat) (h : i < c) : nthL (rowsL l m c) i = (l.drop (i * m)).take m := by
  unfold nthL rowsL
  simp [List.getD_eq_getElem?_getD, h]
def sectV (v : Value) (i j : Nat) : Value := match v with
  | .slice a _ cap => sliced a i j cap 1
  | v => v
section
variable {P : Program} {w : World} {v : Value} {l : List Int}
theorem Ints.run_part (h : Ints w v l) {t e bytes : Nat} {z : Value} (ht : SlT P t e 1 bytes z) (i j : Nat) (hij : i ≤ j) (hj : j ≤ l.length) (w' : World) :
    (Instr.sliceAt t v (some (.int .i64 i)) (some (.int .i64 j)) none).run P w' = .ok (sectV v i j) w' := by
  obtain ⟨ao, cap, rfl, h2, h3, h4, h5⟩ := h
  have hu : P.underlying t = some (.slice (P.elem t)) := by rw [ht.und, elem_of ht.und]
  rw [run_sliceAt_slice (h := hu), run_slice_lh (ht := hu) (h0 := by omega) (h1 := by omega) (h2 := by omega), elem_of ht.und, ht.run_size]
  simp [Result.andThen, sectV]
theorem Ints.part (h : Ints w v l) (i j : Nat) (hij : i < j) (hj : j ≤ l.length) : Ints w (sectV v i j) ((l.drop i).take (j - i)) := by
  obtain ⟨ao, cap, rfl, h2, h3, h4, h5⟩ := h
  have hl : ((l.drop i).take (j - i)).length = j - i := by simp; omega
  obtain ⟨b, off, e1, _⟩ := h5 0 (by simp; omega)
  subst e1
  refine ⟨some ⟨b, off + i, none⟩, cap - i, ?_, by simp, by omega, by omega, fun q hq => ?_⟩
  · rw [hl]
    simp only [sectV, sliced, if_neg (show ¬ cap = i by omega), Option.map_some, Addr.add_lit, Nat.mul_one]
  · have hq' : q < j - i := by rw [List.length_map, hl] at hq; exact hq
    obtain ⟨b', off', e1, e2⟩ := h5 (i + q) (by simp; omega)
    injection e1 with e1; injection e1 with e1 e3
    subst e1 e3
    refine ⟨b, off + i, rfl, ?_⟩
    rw [Nat.add_assoc, e2]; simp
end
theorem range_snocV (R : Nat → Value) (n : Nat) : (List.range (n + 1)).map R = (List.range n).map R ++ [R n] := by simp [List.range_succ]
end Go.Att
namespace Go.Proofs.YtfepefbehgbjpaaGreatDoor
open Go.RowKit Go.Att
section
variable {w : World}
set_option maxRecDepth 100000 in
set_option maxHeartbeats 4000000 in
theorem rfits_no (p n sh r v : Int) (hv : v < 0) :
    Calls Tryz.prog 9 #[.agg #[.int .i64 p, .int .i64 n, .int .i64 sh, .int .i64 r], .int .i64 v] w fun e w' => e = .returned (.bool false) ∧ Ext w w' := by
  have HX0 := Lib.hid (Ext.alloc w (Obj.cells #[.int .i64 p, .int .i64 n, .int .i64 sh, .int .i64 r] 39))
  go_enter Tryz.func9, Tryz.ntmps9
  go_wp2_with fail
  go_ret
  exact ⟨rfl, HX0.out⟩
set_option maxRecDepth 100000 in
set_option maxHeartbeats 4000000 in
theorem rfits_ok (p n sh r : Int) (v : Nat) (hv : v ≤ 12) (h1 : 1 ≤ n) (h2 : n ≤ 65536) :
    Calls Tryz.prog 9 #[.agg #[.int .i64 p, .int .i64 n, .int .i64 sh, .int .i64 r], .int .i64 v] w fun e w' => e = .returned (.bool (roomB n v)) ∧ Ext w w' := by
  have HX0 := Lib.hid (Ext.alloc w (Obj.cells #[.int .i64 p, .int .i64 n, .int .i64 sh, .int .i64 r] 39))
  have HB := Lib.hid (BlkOf.new w [.int .i64 p, .int .i64 n, .int .i64 sh, .int .i64 r] 39)
  have e1 : (w.alloc (Obj.cells #[.int .i64 p, .int .i64 n, .int .i64 sh, .int .i64 r] 39)).cell? ⟨w.heap.size, 1, none⟩ = some (.int .i64 n) := HB.out.cell 1
  have hq : (v : Int).tdiv 2 = ((v / 2 : Nat) : Int) := by rw [Int.tdiv_eq_ediv_of_nonneg (by omega)]; omega
  obtain ⟨a, ha⟩ : ∃ a, v / 2 = a := ⟨_, rfl⟩
  have hs : (v : Int) - (a : Int) = ((v - a : Nat) : Int) := by omega
  obtain ⟨c, hc⟩ : ∃ c, v - a = c := ⟨_, rfl⟩
  have hc6 : c ≤ 60 := by omega
  have HRM := Lib.hid (show roomB n v = decide ((2 : Int) ^ c ≤ n / 2) from by unfold roomB; rw [ha, hc])
  have hn2 : n.tdiv 2 = n / 2 := Int.tdiv_eq_ediv_of_nonneg (by omega)
  have CT := Lib.hid (rtwo_any c · hc6)
  rw [ha] at hq
  rw [hc] at hs
  clear ha hc
  generalize (2 : Int) ^ c = M at *
  go_enter Tryz.func9, Tryz.ntmps9
  go_wp2_with (go_at_call 41; refine (CT.out _).mono ?_; rintro e w' ⟨rfl, rfl⟩)
  go_ret
  exact ⟨by rw [HRM.out]; trivial, HX0.out⟩
end
end Go.Proofs.YtfepefbehgbjpaaGreatDoor
