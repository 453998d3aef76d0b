/- A range over the parts of a slice: slices.Chunk: contracts. -/
import Derived.Test.YtaajjaadlpgbiaaGreatDoorZx13
import Derived.Test.YtaajjaadlpgbiaaGreatDoorZx12
import Derived.RangeFuncNested
import Derived.RangeFuncBound
import Derived.RangeFuncCalls
import Derived.RangeFuncLeaves
import Derived.Shelf.Abstract
import Derived.Shelf.RegionOpen
import Derived.WalkKit
import Derived.OwnWalkIn
import Derived.TacticsInMore
import Derived.LoopNIn
import Derived.LoopIn
namespace Go.Att
open Go.RowKit
/-- The first k of c places. -/
def upF (c : Nat) : (k : Nat) → k ≤ c → List (Fin c)
  | 0, _ => []
  | k + 1, h => upF c k (by omega) ++ [⟨k, h⟩]
theorem upF_length (c : Nat) : ∀ (k : Nat) (h : k ≤ c), (upF c k h).length = k
  | 0, _ => rfl
  | k + 1, h => by rw [upF, List.length_append, upF_length c k]; rfl
/-- What a round over parts keeps: the two blocks of the iterator's own. -/
def KpC (B : Nat) (W W' : World) : Prop := W.heap.size ≤ W'.heap.size ∧ ∀ k, B ≤ k → k < B + 2 → k < W.heap.size → W'.heap[k]? = W.heap[k]?
theorem KpC.refl (B : Nat) (W : World) : KpC B W W := ⟨Nat.le_refl _, fun _ _ _ _ => rfl⟩
theorem KpC.trans {B : Nat} {X Y Z : World} (h : KpC B X Y) (k : KpC B Y Z) : KpC B X Z :=
  ⟨Nat.le_trans h.1 k.1, fun q h1 h2 h3 => (k.2 q h1 h2 (Nat.lt_of_lt_of_le h3 h.1)).trans (h.2 q h1 h2 h3)⟩
theorem KpC.of_ext {B : Nat} {W W' : World} (h : Ext W W') : KpC B W W' := ⟨h.size, fun q _ _ h3 => h.below.block q h3⟩
theorem KpC.of_grown {B : Nat} {W W' : World} {b : Option Nat} (h : W.grownBy W' b) (hb : ∀ k, b = some k → k < B ∨ B + 2 ≤ k) : KpC B W W' :=
  ⟨h.size, fun q h1 h2 h3 => h.block q h3 (fun e => by have := hb q e.symm; omega)⟩
theorem KpC.cell {B : Nat} {W W' : World} (h : KpC B W W') {k o : Nat} (h1 : B ≤ k) (h2 : k < B + 2) {v : Value} (hc : W.cell? ⟨k, o, none⟩ = some v) : W'.cell? ⟨k, o, none⟩ = some v := by
  rw [World.cell?_of_block (a := ⟨k, o, none⟩) (h.2 k h1 h2 (World.block_lt_of_cell? W _ hc))]; exact hc
end Go.Att
namespace Go.Proofs.YtaajjaadlpgbiaaGreatDoor
open Go.RowKit Go.Att Go.Shelf
attribute [local go_sem] Oper.semAt_some
theorem KpC.putObj {B : Nat} {w : World} (hn : B + 2 ≤ w.heap.size) (W : World) (l : Nat) (o o' : Obj) (hl : w.heap.size ≤ l) (_ : W.heap[l]? = some o) (_ : o.isCells = false) (_ : o.isWalk = false) : KpC B W (W.putObj l o') :=
  KpC.of_grown (grownBy_putObj' W l o') (fun k e => by cases e; omega)
set_option maxRecDepth 100000 in
set_option maxHeartbeats 4000000 in
theorem chunk_any (ao : Option Addr) (len cap : Nat) (q : Nat) (hq : 1 ≤ q) (w : World) :
    Calls Tryz.prog 83 #[.slice ao len cap, .int .i64 q] w fun e w' => e = .returned (.func (.func 129) #[] #[.pointer (some ⟨w.heap.size, 0, none⟩), .pointer (some ⟨w.heap.size + 1, 0, none⟩)]) ∧ w' = (w.alloc (.cells #[.slice ao len cap] 23)).alloc (.cells #[.int .i64 q] 3) := by
  have hq1 : ¬ (q : Int) < 1 := by omega
  go_enter Tryz.func83, Tryz.ntmps83
  go_wp2_with fail
  go_ret
  exact ⟨rfl, rfl⟩
set_option maxRecDepth 100000 in
set_option maxHeartbeats 8000000 in
theorem chunk_stops {w : World} (B q c : Nat) (v : Value) (l : List Int) (hq : 1 ≤ q) (hlc : l.length = c * q) (hb : l.length ≤ 4294967296) (hB0 : w.cell? ⟨B, 0, none⟩ = some v) (hB1 : w.cell? ⟨B + 1, 0, none⟩ = some (.int .i64 q)) (hv : Ints w v l) (n : Nat) (hn : 1 ≤ n) :
    SeqStopsK Fence.wide n Tryz.prog 129 #[.pointer (some ⟨B, 0, none⟩), .pointer (some ⟨B + 1, 0, none⟩)] (fun x : Fin c => #[cutV v (x.1 * q) (x.1 * q + q)]) (KpC B) (fun xs => xs = upF c c (Nat.le_refl c)) (fun pre => ∃ k, ∃ h : k ≤ c, pre = upF c k h) c w := by
  intro l0 J Jx W hW hJ hJx hY h0
  have HV := Lib.hid hv
  have HQ0 := Lib.hid ((show Ext w W from hW).cell hB0)
  have HQ1 := Lib.hid ((show Ext w W from hW).cell hB1)
  have HJA := Lib.hid hJ
  have HY := Lib.hid hY
  clear hB0 hB1 hv hW hJ hJx hY
  obtain ⟨N, hN⟩ : ∃ N, l.length = N := ⟨_, rfl⟩
  have HN := Lib.hid hN
  have HC := Lib.hid (hN.symm.trans hlc)
  have hll := HV.out.run_len (P := Tryz.prog) slInts
  rw [hN] at hb hll
  clear hlc hN
  refine callsIn_of_wp Tryz.func129 rfl trivial ?_ rfl
  simp only [Tryz.ntmps129, List.size_toArray, List.length_cons, List.length_nil, Nat.reduceAdd, Nat.reduceSub, Array.replicate_succ, Array.replicate_zero, List.push_toArray, List.append_toArray, List.nil_append, List.cons_append]
  have hc0 := HQ0.out
  have hc1 := HQ1.out
  gi_wp2
  gi_loopw [4, 5] (fun x4 _ wr => ∃ k : Nat, ∃ hk : k ≤ c, ∃ i : Nat, i = k * q ∧ i ≤ N ∧ x4 = .int .i64 i ∧ J (upF c k hk) wr ∧ KpC B W wr) (fun x4 _ _ => N - (intOf x4).toNat)
  case atStart => exact ⟨0, Nat.zero_le _, 0, by simp, Nat.zero_le _, rfl, h0, KpC.refl _ _⟩
  case round =>
    clear hc0 hc1
    obtain ⟨k, hk, i, hik, hi, rfl, hJs, hKW⟩ := hrel
    have HIK := Lib.hid hik; have HJ := Lib.hid hJs; have HK := Lib.hid hKW
    have hc0 := hKW.cell (Nat.le_refl _) (by omega) HQ0.out
    have hc1 := hKW.cell (by omega) (by omega) HQ1.out
    clear hik hJs hKW
    by_cases hkc : k < c
    · have hiN : i + q ≤ N := by
        rw [HIK.out, HC.out, ← Nat.succ_mul]; exact Nat.mul_le_mul_right _ hkc
      have hdrop := fun w' => HV.out.run_drop (P := Tryz.prog) slInts i (by rw [HN.out]; exact hi) w'
      have hld := (HV.out.drop i (by rw [HN.out]; exact hi)).run_len (P := Tryz.prog) slInts
      rw [List.length_drop, HN.out] at hld
      have hcut := fun w' => HV.out.run_cut (P := Tryz.prog) slInts i (i + q) (by omega) (by rw [HN.out]; exact hiN) w'
      rw [show ((i + q : Nat) : Int) = (i : Int) + q from by omega] at hcut
      have hmin : min (q : Int) ((N - i : Nat) : Int) = q := by omega
      have hlt : (i : Int) < N := by omega
      have hw : IntKind.i64.wrap ((i : Int) + q) = (i : Int) + q := IntWalk.i64_in _ (by omega)
      generalize fromV v i = fv at *
      gi_wp2
      refine wpIn_wide.2 ?_
      go_quiet (fail)
      have HJ1 := Lib.hid (HJA.out _ _ _ none HJ.out ((Ext.drewN wr nq).grownBy none) (fun r e => by cases e))
      have HK1 := Lib.hid (HK.out.trans (KpC.of_ext (Ext.drewN wr nq)))
      have hc2 := HK1.out.cell (Nat.le_refl _) (by omega) HQ0.out
      have hc3 := HK1.out.cell (by omega) (by omega) HQ1.out
      clear hc0 hc1 HJ HK
      generalize wr.drewN nq = w2 at *
      obtain ⟨fn, tmps, assign, body, hy, hR⟩ := HY.out _ (⟨k, hkc⟩ : Fin c) w2 HJ1.out (by rw [upF_length]; exact hkc)
      dsimp only at hy
      rw [← HIK.out] at hy
      gi_wp2
      refine hR.mono ?_
      rintro e w3 (⟨rfl, hJ3, hk3⟩ | ⟨rfl, hJx3⟩)
      · have hc4 := hk3.cell (Nat.le_refl _) (by omega) hc2
        have hc5 := hk3.cell (by omega) (by omega) hc3
        have HJ3 := Lib.hid hJ3
        have HK3 := Lib.hid (HK1.out.trans hk3)
        clear hJ3 hk3 hc2 hc3 HJ1 HK1
        gi_wp2
        go_roundw
        case rel => exact ⟨k + 1, hkc, i + q, by rw [HIK.out, Nat.succ_mul], by omega, by go_num, HJ3.out, HK3.out⟩
        case measure => simp [intOf]; omega
      · have HJX := Lib.hid hJx3
        clear hJx3 hc2 hc3 HJ1 HK1
        gi_wp2
        refine bodyPost_ret (results_none rfl _ _ _) rfl ?_
        exact ⟨⟨_, rfl⟩, .inr ⟨_, ⟨k + 1, hkc, rfl⟩, HJX.out⟩⟩
    · obtain rfl : k = c := by omega
      have hge : ¬ (i : Int) < N := by
        have := HIK.out; have := HC.out; omega
      gi_wp2
      go_end0
      first | exact ⟨⟨_, rfl⟩, .inl HJ.out⟩ | exact ⟨⟨_, rfl⟩, .inl ⟨_, rfl, HJ.out⟩⟩
end Go.Proofs.YtaajjaadlpgbiaaGreatDoor
