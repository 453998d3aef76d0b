/- A region that draws its order, in a round of a range over a function: its first n operations are quiet, the others stand in one order: the text's order serves for all. No program in sight. A range over the parts of a slice: slices.Chunk: contracts. -/
import Derived.Test.YtaajjaadlpgbiaaGreatDoorQt
import Derived.RangeFuncNested
import Derived.RangeFuncBound
import Derived.RangeFuncCalls
import Derived.RangeFuncLeaves
import Derived.OrdersIn
import Derived.TacticsIn
import Derived.Test.YtaajjaadlpgbiaaGreatDoorZx15
import Derived.Shelf.Abstract
import Derived.Shelf.RegionOpen
import Derived.WalkKit
import Derived.OwnWalkIn
import Derived.TacticsInMore
import Derived.LoopNIn
import Derived.LoopIn
section
namespace Go
section
variable {P : Program} {l : List Oper} {n : Nat} {C : World → Prop}
def noDefer (l : List Oper) : Bool := l.all fun o => match o.op with
  | .defer _ => false
  | _ => true
theorem noDefer_at (h : noDefer l = true) {i : Nat} {o : Oper} (ho : l[i]? = some o) : ∀ c, o.op ≠ .defer c := fun c hc => by
  have := List.all_eq_true.1 h o (List.mem_of_getElem? ho)
  simp [hc] at this
theorem Rows.inRound {lr q : Nat} {row : String} {args : Array Value} {w : World} {R : Value → World → Prop} (h : Rows P row args w R) : RowsIn (Fence.wide.inRound lr) q P row args w R :=
  fun c cs _ => let ⟨v, w', r, s⟩ := h c cs; ⟨v, w', r, stepsIn_wide.2 s⟩
theorem Calls.inRound {lr q : Nat} {f : FuncId} {args : Array Value} {w : World} {R : Ending → World → Prop} (h : Calls P f args w R) : CallsIn (Fence.wide.inRound lr) q P f args w R :=
  CallsIn.inRound lr (callsIn_wide.2 h)
theorem Oper.wpIn_of_wp {o : Oper} (hd : ∀ c, o.op ≠ .defer c) {lr q : Nat} {a : Act} {w : World} {K : Act → World → Prop} {Q : Exit → Act → World → Prop} (h : o.wp P a w K Q) : o.wpIn (Fence.wide.inRound lr) q P a w K Q := by
  refine ⟨fun _ _ => trivial, ?_⟩
  rw [Oper.semAt_eq _ _ _ hd]
  unfold Oper.wp at h
  generalize (execOp a.eval o).run P w = r at *
  cases r with
  | ok x w' =>
    cases x <;> simp only [Oper.upon, Oper.uponIn] at h ⊢ <;>
      first
        | exact h
        | exact ⟨fun h => (by cases h), (Calls.inRound h).mono (fun e w'' he => by cases e <;> exact he)⟩
        | exact ⟨fun h => (by cases h), Rows.inRound h⟩
  | halt x w' => cases x <;> simp only [Oper.upon, Oper.uponIn] at h ⊢ <;> exact h
theorem wpAnyIn_of_seq {ops : Array Oper} {md : Region.Mode} {lr q : Nat} {Q' : Exit → Act → World → Prop} : ∀ (l : List Oper) (k : Nat) (listed : Array Bool) (a : Act) (w : World), (∀ j, l[j]? = ops[k + j]?) →
    Region.seqB md ops l.length k listed = true → wpListIn (Fence.wide.inRound lr) q P ops Q' l a w → wpAnyIn (Fence.wide.inRound lr) q P md ops Q' l.length listed a w
  | [], _, _, _, _, _, hB, h => ⟨by simpa [Region.seqB] using hB, h⟩
  | o :: l, k, listed, a, w, hl, hB, h => by
    have h0 : ops[k]? = some o := by simpa using (hl 0).symm
    simp only [List.length_cons, Region.seqB, Bool.and_eq_true, decide_eq_true_eq] at hB
    refine ⟨fun h1 => (by rw [hB.1] at h1; cases h1), fun i hi => ?_⟩
    rw [hB.1] at hi
    have hik : i = k := by simpa using hi
    subst hik
    have hw : wpOpIn (Fence.wide.inRound lr) q P ops Q' i (wpListIn (Fence.wide.inRound lr) q P ops Q' l) a w := by unfold wpOpIn; simp only [h0]; exact h
    exact wpOpIn_mono (fun a' w' h' => wpAnyIn_of_seq l (i + 1) _ a' w' (fun j => by have := hl (j + 1); simpa [Nat.add_assoc, Nat.add_comm 1 j] using this) hB.2 h') hw
theorem wpOpIn_small {Q' : Exit → Act → World → Prop} (hok : headOk l n = true) (hnd : noDefer l = true) {lr q : Nat} {i : Nat} (hin : i < n) {a : Act} {K : Act → Prop} {K' : Act → World → Prop} {w : World} (hC : C w) (h : ∀ a w', C w' → K a → K' a w')
    (hh : qOp P (l.take n).toArray C i K a) : wpOpIn (Fence.wide.inRound lr) q P l.toArray Q' i K' a w := by
  have e : (l.take n).toArray[i]? = l.toArray[i]? := by simp [hin]
  unfold qOp at hh
  unfold wpOpIn
  rw [e] at hh
  cases ho : l.toArray[i]? with
  | none => simp only [ho] at hh ⊢; exact h _ _ hC hh
  | some o =>
    simp only [ho] at hh ⊢
    have ho' : l[i]? = some o := by simpa using ho
    have hw : Region.wanted o (yielded l.toArray a.tmps) = Region.wanted o (yielded (l.take n).toArray a.tmps) := by
      unfold Region.wanted
      cases hg : o.guard with
      | none => rfl
      | some gb =>
        obtain ⟨g, b⟩ := gb
        have := (headOk_spec hok hin ho').1 g b hg
        have e2 : (l.take n).toArray[g]? = l.toArray[g]? := by simp [this]
        simp only [yielded, e2]
    rw [hw]
    split
    · rename_i h1; simp only [h1, if_true] at hh; exact Oper.wpIn_of_wp (noDefer_at hnd ho') (Oper.wp_of_quiet hC h hh)
    · rename_i h1; simp only [h1] at hh; exact ⟨fun _ _ => trivial, h _ _ hC hh⟩

theorem headIn_all {Q0 : Act → Prop} {Q' : Exit → Act → World → Prop} {g : Nat} (hok : headOk l n = true) (hnd : noDefer l = true) {lr q : Nat} {m : Nat} (hs : waitB l m n = true) (hc : Region.chainB .any l.toArray n = true) (hn : n < l.length)
    (hL : ∀ big a w, C w → Q0 a → HeadInv .any l.toArray n big → (∀ j, j < n → big[j]? = some true) → wpAnyIn (Fence.wide.inRound lr) q P .any l.toArray Q' g big a w) :
    ∀ (f : Nat) (big small : Array Bool) (a : Act) (w : World), C w → Marks l n big small → (∀ j, j < m → small[j]? = some true) → small.toList.count false = f → wpAnyQ P .any (l.take n).toArray C Q0 f small a → wpAnyIn (Fence.wide.inRound lr) q P .any l.toArray Q' (f + g) big a w
  | 0, big, small, a, w, hw, hm, hmm, hcnt, h => by
    rw [Nat.zero_add]
    refine hL big a w hw h.2 hm.inv fun j hj => ?_
    have hjs : j < small.size := by rw [hm.size]; exact hj
    rw [hm.same j hj, Array.getElem?_eq_getElem hjs]
    cases hb : small[j] with
    | true => rfl
    | false =>
      have : false ∈ small.toList := by rw [← hb]; exact Array.mem_toList_iff.2 (Array.getElem_mem hjs)
      have := List.count_pos_iff.2 this
      omega
  | f + 1, big, small, a, w, hw, hm, hmm, hcnt, h => by
    rw [show f + 1 + g = (f + g) + 1 by omega]
    have hne : ∃ i, i < n ∧ small[i]? = some false := by
      have : false ∈ small.toList := List.count_pos_iff.1 (by omega)
      obtain ⟨i, hi, e⟩ := List.getElem_of_mem this
      exact ⟨i, by simpa [hm.size] using hi, by rw [← Array.getElem?_toList, List.getElem?_eq_getElem hi, e]⟩
    obtain ⟨i0, hi0, hu0⟩ := hne
    refine ⟨fun h0 => absurd h0 (ready_some hok (by omega) hm hi0 hu0), fun i hi => ?_⟩
    have hin : i < n := by
      rcases Nat.lt_or_ge i n with h1 | h1
      · exact h1
      · refine absurd hi (not_yet hs hc hn hm.inv i0 ?_ hi0 (by rw [hm.same _ hi0, hu0]) i h1)
        rcases Nat.lt_or_ge i0 m with h2 | h2
        · have := hmm i0 h2; rw [hu0] at this; cases this
        · exact h2
    have hi' := ready_small hok hm hin hi
    have hun := (mem_ready.1 hi').1
    have his : i < small.size := by rw [hm.size]; exact hin
    have hf : small[i] = false := by rw [Array.getD_eq_getD_getElem?, Array.getElem?_eq_getElem his] at hun; exact hun
    refine wpOpIn_small hok hnd hin hw (fun a' w' hw' hk => headIn_all hok hnd hs hc hn hL f _ _ a' w' hw' (hm.set hi hin) (fun j hj => by
      rw [Array.getElem?_setIfInBounds]
      have := hmm j hj
      split
      · rename_i e; subst e; first | rfl | rw [if_pos his]
      · exact this) ?_ hk) (h.2 i hi')
    rw [Array.toList_setIfInBounds, List.count_set (by simpa using his)]
    have : small.toList[i]'(by simpa using his) = false := by rw [Array.getElem_toList]; exact hf
    simp [this, hcnt]

/-- The rule, in a round. -/
theorem wpIn_region_quiet_tail {lr q id : Nat} {Q : Exit → Act → World → Prop} {a : Act} {w : World} (n : Nat) (hm : P.follows .mixedOrders = true) (hnd : noDefer l = true)
    (hB : (Region.lexB .any (l.take n).toArray && headOk l n && decide (n < l.length) && waitB l 0 n && Region.chainB .any l.toArray n && Region.seqB .any l.toArray (l.length - n) n (Array.replicate n true ++ Array.replicate (l.length - n) false)) = true)
    (h : wpQuiet P (l.take n).toArray (fun w' => ∃ m, w' = w.drewN m) (fun a' => ∀ w', (∃ m, w' = w.drewN m) → wpListIn (Fence.wide.inRound lr) q P l.toArray Q (l.drop n) a' w') (l.take n) a) : (Code.region id l.toArray true).wpIn (Fence.wide.inRound lr) q P Q a w := by
  simp only [Bool.and_eq_true, decide_eq_true_eq] at hB
  obtain ⟨⟨⟨⟨⟨hB, hok⟩, hn⟩, hs⟩, hc⟩, hseq⟩ := hB
  simp only [Region.lexB, Bool.and_eq_true] at hB
  have h1 := wpAnyQ_lex (C := fun w' => ∃ m, w' = w.drewN m) (md := .any) hB.1 (l.take n) 0 (Array.replicate n false) a (by simp) (by
    have := hB.2
    simp only [List.size_toArray, List.length_take] at this
    rw [Nat.min_eq_left (by omega)] at this
    rw [List.length_take, Nat.min_eq_left (by omega)]; exact this) h
  have inv0 : HeadInv .any l.toArray n (Array.replicate l.toArray.size false) :=
    ⟨by simp, fun j oj _ hl => (by rw [getD_replicate_false] at hl; cases hl), fun t _ ht => getD_in (by simpa using ht) (getD_replicate_false _ _)⟩
  refine wpIn_region_any hm ?_
  have H := headIn_all (P := P) (C := fun w' => ∃ m, w' = w.drewN m) (Q' := Q) (g := l.length - n) (lr := lr) (q := q) hok hnd hs hc hn (fun big a' w' hw' hq hinv hall => by
    have e : big = Array.replicate n true ++ Array.replicate (l.length - n) false := by
      refine Array.ext_getElem? fun j => ?_
      rcases Nat.lt_or_ge j n with hj | hj
      · rw [hall j hj, Array.getElem?_append_left (by simpa using hj)]; simp [hj]
      · rw [Array.getElem?_append_right (by simpa using hj)]
        have hsz := hinv.size
        rcases Nat.lt_or_ge j l.length with hj2 | hj2
        · have := hinv.tail j hj (by simpa using hj2)
          have hjs : j < big.size := by rw [hsz]; simpa using hj2
          rw [Array.getD_eq_getD_getElem?, Array.getElem?_eq_getElem hjs] at this
          rw [Array.getElem?_eq_getElem hjs]
          simp at this
          rw [this, Array.size_replicate, Array.getElem?_replicate, if_pos (by omega)]
        · rw [Array.getElem?_eq_none (by rw [hsz]; simpa using hj2), Array.getElem?_eq_none (by simp; omega)]
    subst e
    have := wpAnyIn_of_seq (md := .any) (P := P) (ops := l.toArray) (Q' := Q) (l.drop n) n _ a' w' (fun j => by simp [List.getElem?_drop]) (by rw [List.length_drop]; exact hseq) (hq w' hw')
    rwa [List.length_drop] at this) (l.take n).length (Array.replicate l.toArray.size false) (Array.replicate n false) a { w with drawn := w.drawn + 1 } ⟨1, rfl⟩ ⟨inv0, by simp, fun j hj => by
      rw [Array.getElem?_replicate, Array.getElem?_replicate, if_pos hj, if_pos (by simp; omega)]⟩ (fun j hj => by omega) (by simp; omega) h1
  rw [List.length_take, Nat.min_eq_left (by omega), show n + (l.length - n) = l.toArray.size by simp; omega] at H
  exact H

end
end Go
end
section
namespace Go.Att
open Go.RowKit
/-- The first k of c places. -/
def upF (c : Nat) : (k : Nat) → k ≤ c → List (Fin c)
  | 0, _ => []
  | k + 1, h => upF c k (by omega) ++ [⟨k, h⟩]
theorem upF_length (c : Nat) : ∀ (k : Nat) (h : k ≤ c), (upF c k h).length = k
  | 0, _ => rfl
  | k + 1, h => by rw [upF, List.length_append, upF_length c k]; rfl
/-- What a round over parts keeps: the two blocks of the iterator's own. -/
def KpC (B : Nat) (W W' : World) : Prop := W.heap.size ≤ W'.heap.size ∧ ∀ k, B ≤ k → k < B + 2 → k < W.heap.size → W'.heap[k]? = W.heap[k]?
theorem KpC.refl (B : Nat) (W : World) : KpC B W W := ⟨Nat.le_refl _, fun _ _ _ _ => rfl⟩
theorem KpC.trans {B : Nat} {X Y Z : World} (h : KpC B X Y) (k : KpC B Y Z) : KpC B X Z :=
  ⟨Nat.le_trans h.1 k.1, fun q h1 h2 h3 => (k.2 q h1 h2 (Nat.lt_of_lt_of_le h3 h.1)).trans (h.2 q h1 h2 h3)⟩
theorem KpC.of_ext {B : Nat} {W W' : World} (h : Ext W W') : KpC B W W' := ⟨h.size, fun q _ _ h3 => h.below.block q h3⟩
theorem KpC.of_grown {B : Nat} {W W' : World} {b : Option Nat} (h : W.grownBy W' b) (hb : ∀ k, b = some k → k < B ∨ B + 2 ≤ k) : KpC B W W' :=
  ⟨h.size, fun q h1 h2 h3 => h.block q h3 (fun e => by have := hb q e.symm; omega)⟩
theorem KpC.cell {B : Nat} {W W' : World} (h : KpC B W W') {k o : Nat} (h1 : B ≤ k) (h2 : k < B + 2) {v : Value} (hc : W.cell? ⟨k, o, none⟩ = some v) : W'.cell? ⟨k, o, none⟩ = some v := by
  rw [World.cell?_of_block (a := ⟨k, o, none⟩) (h.2 k h1 h2 (World.block_lt_of_cell? W _ hc))]; exact hc
end Go.Att
namespace Go.Proofs.YtaajjaadlpgbiaaGreatDoor
open Go.RowKit Go.Att Go.Shelf
attribute [local go_sem] Oper.semAt_some
theorem KpC.putObj {B : Nat} {w : World} (hn : B + 2 ≤ w.heap.size) (W : World) (l : Nat) (o o' : Obj) (hl : w.heap.size ≤ l) (_ : W.heap[l]? = some o) (_ : o.isCells = false) (_ : o.isWalk = false) : KpC B W (W.putObj l o') :=
  KpC.of_grown (grownBy_putObj' W l o') (fun k e => by cases e; omega)
set_option maxRecDepth 100000 in
set_option maxHeartbeats 4000000 in
theorem chunk_any (ao : Option Addr) (len cap : Nat) (q : Nat) (hq : 1 ≤ q) (w : World) :
    Calls Tryz.prog 83 #[.slice ao len cap, .int .i64 q] w fun e w' => e = .returned (.func (.func 129) #[] #[.pointer (some ⟨w.heap.size, 0, none⟩), .pointer (some ⟨w.heap.size + 1, 0, none⟩)]) ∧ w' = (w.alloc (.cells #[.slice ao len cap] 23)).alloc (.cells #[.int .i64 q] 3) := by
  have hq1 : ¬ (q : Int) < 1 := by omega
  go_enter Tryz.func83, Tryz.ntmps83
  go_wp2_with fail
  go_ret
  exact ⟨rfl, rfl⟩
set_option maxRecDepth 100000 in
set_option maxHeartbeats 8000000 in
theorem chunk_stops {w : World} (B q c : Nat) (v : Value) (l : List Int) (hq : 1 ≤ q) (hlc : l.length = c * q) (hb : l.length ≤ 4294967296) (hB0 : w.cell? ⟨B, 0, none⟩ = some v) (hB1 : w.cell? ⟨B + 1, 0, none⟩ = some (.int .i64 q)) (hv : Ints w v l) (n : Nat) (hn : 1 ≤ n) :
    SeqStopsK Fence.wide n Tryz.prog 129 #[.pointer (some ⟨B, 0, none⟩), .pointer (some ⟨B + 1, 0, none⟩)] (fun x : Fin c => #[cutV v (x.1 * q) (x.1 * q + q)]) (KpC B) (fun xs => xs = upF c c (Nat.le_refl c)) (fun pre => ∃ k, ∃ h : k ≤ c, pre = upF c k h) c w := by
  intro l0 J Jx W hW hJ hJx hY h0
  have HV := Lib.hid hv
  have HQ0 := Lib.hid ((show Ext w W from hW).cell hB0)
  have HQ1 := Lib.hid ((show Ext w W from hW).cell hB1)
  have HJA := Lib.hid hJ
  have HY := Lib.hid hY
  clear hB0 hB1 hv hW hJ hJx hY
  obtain ⟨N, hN⟩ : ∃ N, l.length = N := ⟨_, rfl⟩
  have HN := Lib.hid hN
  have HC := Lib.hid (hN.symm.trans hlc)
  have hll := HV.out.run_len (P := Tryz.prog) slInts
  rw [hN] at hb hll
  clear hlc hN
  refine callsIn_of_wp Tryz.func129 rfl trivial ?_ rfl
  simp only [Tryz.ntmps129, List.size_toArray, List.length_cons, List.length_nil, Nat.reduceAdd, Nat.reduceSub, Array.replicate_succ, Array.replicate_zero, List.push_toArray, List.append_toArray, List.nil_append, List.cons_append]
  have hc0 := HQ0.out
  have hc1 := HQ1.out
  gi_wp2
  gi_loopw [4, 5] (fun x4 _ wr => ∃ k : Nat, ∃ hk : k ≤ c, ∃ i : Nat, i = k * q ∧ i ≤ N ∧ x4 = .int .i64 i ∧ J (upF c k hk) wr ∧ KpC B W wr) (fun x4 _ _ => N - (intOf x4).toNat)
  case atStart => exact ⟨0, Nat.zero_le _, 0, by simp, Nat.zero_le _, rfl, h0, KpC.refl _ _⟩
  case round =>
    clear hc0 hc1
    obtain ⟨k, hk, i, hik, hi, rfl, hJs, hKW⟩ := hrel
    have HIK := Lib.hid hik; have HJ := Lib.hid hJs; have HK := Lib.hid hKW
    have hc0 := hKW.cell (Nat.le_refl _) (by omega) HQ0.out
    have hc1 := hKW.cell (by omega) (by omega) HQ1.out
    clear hik hJs hKW
    by_cases hkc : k < c
    · have hiN : i + q ≤ N := by
        rw [HIK.out, HC.out, ← Nat.succ_mul]; exact Nat.mul_le_mul_right _ hkc
      have hdrop := fun w' => HV.out.run_drop (P := Tryz.prog) slInts i (by rw [HN.out]; exact hi) w'
      have hld := (HV.out.drop i (by rw [HN.out]; exact hi)).run_len (P := Tryz.prog) slInts
      rw [List.length_drop, HN.out] at hld
      have hcut := fun w' => HV.out.run_cut (P := Tryz.prog) slInts i (i + q) (by omega) (by rw [HN.out]; exact hiN) w'
      rw [show ((i + q : Nat) : Int) = (i : Int) + q from by omega] at hcut
      have hmin : min (q : Int) ((N - i : Nat) : Int) = q := by omega
      have hlt : (i : Int) < N := by omega
      have hw : IntKind.i64.wrap ((i : Int) + q) = (i : Int) + q := IntWalk.i64_in _ (by omega)
      generalize fromV v i = fv at *
      gi_wp2
      refine wpIn_wide.2 ?_
      go_quiet (fail)
      have HJ1 := Lib.hid (HJA.out _ _ _ none HJ.out ((Ext.drewN wr nq).grownBy none) (fun r e => by cases e))
      have HK1 := Lib.hid (HK.out.trans (KpC.of_ext (Ext.drewN wr nq)))
      have hc2 := HK1.out.cell (Nat.le_refl _) (by omega) HQ0.out
      have hc3 := HK1.out.cell (by omega) (by omega) HQ1.out
      clear hc0 hc1 HJ HK
      generalize wr.drewN nq = w2 at *
      obtain ⟨fn, tmps, assign, body, hy, hR⟩ := HY.out _ (⟨k, hkc⟩ : Fin c) w2 HJ1.out (by rw [upF_length]; exact hkc)
      dsimp only at hy
      rw [← HIK.out] at hy
      gi_wp2
      refine hR.mono ?_
      rintro e w3 (⟨rfl, hJ3, hk3⟩ | ⟨rfl, hJx3⟩)
      · have hc4 := hk3.cell (Nat.le_refl _) (by omega) hc2
        have hc5 := hk3.cell (by omega) (by omega) hc3
        have HJ3 := Lib.hid hJ3
        have HK3 := Lib.hid (HK1.out.trans hk3)
        clear hJ3 hk3 hc2 hc3 HJ1 HK1
        gi_wp2
        go_roundw
        case rel => exact ⟨k + 1, hkc, i + q, by rw [HIK.out, Nat.succ_mul], by omega, by go_num, HJ3.out, HK3.out⟩
        case measure => simp [intOf]; omega
      · have HJX := Lib.hid hJx3
        clear hJx3 hc2 hc3 HJ1 HK1
        gi_wp2
        refine bodyPost_ret (results_none rfl _ _ _) rfl ?_
        exact ⟨⟨_, rfl⟩, .inr ⟨_, ⟨k + 1, hkc, rfl⟩, HJX.out⟩⟩
    · obtain rfl : k = c := by omega
      have hge : ¬ (i : Int) < N := by
        have := HIK.out; have := HC.out; omega
      gi_wp2
      go_end0
      first | exact ⟨⟨_, rfl⟩, .inl HJ.out⟩ | exact ⟨⟨_, rfl⟩, .inl ⟨_, rfl, HJ.out⟩⟩
end Go.Proofs.YtaajjaadlpgbiaaGreatDoor
end
