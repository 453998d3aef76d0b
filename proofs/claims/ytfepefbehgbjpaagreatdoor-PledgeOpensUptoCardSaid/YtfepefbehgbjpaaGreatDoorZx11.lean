/- The document's digest: what stands behind a list: contract. The sponge, the program's side: what stands behind a list; parts of a slice: contracts. A region that draws its order, in a round of a range over a function: its first n operations are quiet, the others stand in one order: the text's order serves for all. No program in sight. A range over the parts of a slice: slices.Chunk: contracts. The document's digest: a state is stirred; what stands behind a list; the digest: contracts. The document's digest of a list: contract. Lists made one, the library's: slices.Grow at the nil slice, slices.Concat: contracts. The document's chain: contracts. The document's chain: begun, drawn from: contracts. -/
import Derived.Test.YtfepefbehgbjpaaGreatDoorZx10
import Derived.Test.YtfepefbehgbjpaaGreatDoorZx7
import Derived.Test.YtfepefbehgbjpaaGreatDoorZx8
import Derived.Test.YtfepefbehgbjpaaGreatDoorZx3
import Derived.RangeFuncNested
import Derived.RangeFuncBound
import Derived.RangeFuncCalls
import Derived.RangeFuncLeaves
import Derived.OrdersIn
import Derived.TacticsIn
import Derived.Shelf.Abstract
import Derived.Shelf.RegionOpen
import Derived.WalkKit
import Derived.OwnWalkIn
import Derived.TacticsInMore
import Derived.LoopNIn
import Derived.LoopIn
import Derived.Lib.AppendZeros
import Derived.Maps.AppendAt
section
namespace Go.Att
open Go.RowKit
def padU (p : Int) (l : List Int) (i : Nat) : List Int := l.map (fof p) ++ 1 :: List.replicate i 0
theorem padU_snoc (p : Int) (l : List Int) (i : Nat) : padU p l (i + 1) = padU p l i ++ [0] := by simp [padU, List.replicate_succ']
theorem padU_all (p : Int) (l : List Int) : padU p l (padN l.length) = padP p l := rfl
theorem padN_end {n i : Nat} (h : i ≤ padN n) : (n + 1 + i) % 4 = 0 ↔ i = padN n := by unfold padN at *; omega
end Go.Att
namespace Go.Proofs.YtfepefbehgbjpaaGreatDoor
open Go.RowKit Go.Att
set_option maxRecDepth 100000 in
set_option maxHeartbeats 4000000 in
theorem rpad_any (p : Int) (v : Value) (l : List Int) (w : World) (hp : 2 ≤ p) (hp2 : p ≤ 2147483647) (hv : Ints w v l) (hs : l.length ≤ 4294967000) :
    Calls Tryz.prog 137 #[.int .i64 p, v] w (Gives w fun u w' => Ints w' u (padP p l) ∧ NewIn w u) := by
  have HV := Lib.hid hv
  clear hv
  go_enter Tryz.func137, Tryz.ntmps137
  go_wp2_with (first | (go_at_call 107; refine (rallO_any p v l w HV.out hp hp2 (by omega)).mono ?_; rintro e w1 ⟨v1, rfl, hx1, ho1⟩) | (at_builtin; refine wpList_app1 rfl _ _ 22 rfl slInts rfl hx1 ho1 rfl _ rfl rfl (by omega) (by omega) ?_; intro v2 w2 HO2 HX2 _))
  have HO2' := Lib.hid (show w2.ownsRow w.heap.size 3 1 v2 (l.length + 1 + 0) ((padU p l 0).map (Value.int .i64)) from by simpa [padU] using HO2)
  have HX2' := Lib.hid HX2
  clear HO2 HX2 ho1 hx1
  go_loopw [5] (fun x5 wr => ∃ i : Nat, i ≤ padN l.length ∧ Hid (wr.ownsRow w.heap.size 3 1 x5 (l.length + 1 + i) ((padU p l i).map (Value.int .i64))) ∧ Hid (Ext w wr)) (fun x5 _ => l.length + 1 + padN l.length - slen x5)
  case atStart => exact ⟨0, Nat.zero_le _, HO2', HX2'⟩
  case round =>
    clear HO2' HX2'
    obtain ⟨i, hi, HO, HX⟩ := hrel
    have hlen := (Sl.of_own HO.out (by omega)).run_len (P := Tryz.prog) slInts
    have HSL := Lib.hid (own_slen HO.out)
    have hpn : padN l.length ≤ 3 := by unfold padN; omega
    have hiff := padN_end hi
    obtain ⟨n, hn⟩ : ∃ n, l.length + 1 + i = n := ⟨_, rfl⟩
    rw [hn] at hlen hiff
    have hem : ((n : Int) % 4 != 0) = !decide (n % 4 = 0) := by
      rw [Bool.eq_iff_iff, bne_iff_ne]; simp; omega
    by_cases hd : i = padN l.length
    · have hem2 : ((n : Int) % 4 != 0) = false := by rw [hem]; simp [hiff.2 hd]
      clear hem hiff
      go_wp2_with fail
      go_ret
      exact .mk _ rfl HX.out ⟨by have := Ints.of_own HO.out; rw [hd, padU_all] at this; exact this, NewIn.of_own HO.out⟩
    · have hem2 : ((n : Int) % 4 != 0) = true := by rw [hem]; simp; exact fun h => hd (hiff.1 h)
      have HS := Lib.hid (padU_snoc p l i)
      have HOo := HO.out
      have HXo := HX.out
      have HN := Lib.hid hn
      clear hem hiff hn
      go_wp2_with (at_builtin; refine wpList_app1 rfl _ _ 22 rfl slInts rfl HXo HOo rfl _ rfl rfl (by omega) (by omega) ?_; intro v4 w4 HO4 HX4 _)
      have HS4 := Lib.hid (own_slen HO4)
      go_roundw
      case rel => exact ⟨i + 1, by omega, Lib.hid (by rw [HS.out, List.map_append]; exact HO4), Lib.hid HX4⟩
      case measure => rw [HSL.out, HS4.out]; omega
end Go.Proofs.YtfepefbehgbjpaaGreatDoor
end
section
namespace Go.Att
open Go.RowKit
def clpV (v : Value) (n : Nat) : Value := match v with
  | .slice a _ _ => .slice a n n
  | v => v
theorem Sl.run_clp {P : Program} {w : World} {sz n : Nat} {v : Value} {cs : List Value} (h : Sl w sz v n cs) {t e bytes : Nat} {z : Value} (ht : SlT P t e sz bytes z) (w' : World) :
    (Instr.sliceAt t v none (some (.int .i64 n)) (some (.int .i64 n))).run P w' = .ok (clpV v n) w' := by
  obtain ⟨ao, cap, rfl, h2, h3, h4, h5⟩ := h
  have hu : P.underlying t = some (.slice (P.elem t)) := by rw [ht.und, elem_of ht.und]
  have ha : ∀ a : Addr, a.add 0 = a := fun a => by unfold Addr.add; simp
  rw [run_sliceAt_slice (h := hu), run_slice_any (ht := hu)]
  simp only [elem_of ht.und, ht.run_size]
  have h3' : (n : Int) ≤ (cap : Int) := by omega
  cases ao <;> simp [Instr.sliceBounds, run_sliceBound, h3', Result.andThen, sliced, clpV, ha]
theorem Sl.clp {w : World} {sz n : Nat} {v : Value} {cs : List Value} (h : Sl w sz v n cs) : Sl w sz (clpV v n) n cs := by
  obtain ⟨ao, cap, rfl, h2, h3, h4, h5⟩ := h
  exact ⟨ao, n, rfl, h2, Nat.le_refl _, Nat.le_trans h3 h4, h5⟩
theorem clpV_block (v : Value) (n : Nat) : (clpV v n).ownBlock = v.ownBlock := by
  unfold clpV
  split
  · rename_i a _ _; cases a <;> rfl
  · rfl
theorem NewIn.clp {W : World} {v : Value} (h : NewIn W v) (n : Nat) : NewIn W (clpV v n) := fun q hq => h q (by rw [clpV_block] at hq; exact hq)
def cutV (v : Value) (i j : Nat) : Value := match v with
  | .slice a _ _ => sliced a i j j 1
  | v => v
theorem Ints.run_cut {P : Program} {w : World} {v : Value} {l : List Int} (h : Ints w v l) {t e bytes : Nat} {z : Value} (ht : SlT P t e 1 bytes z) (i j : Nat) (hij : i ≤ j) (hj : j ≤ l.length) (w' : World) :
    (Instr.sliceAt t v (some (.int .i64 i)) (some (.int .i64 j)) (some (.int .i64 j))).run P w' = .ok (cutV v i j) w' := by
  obtain ⟨ao, cap, rfl, h2, h3, h4, h5⟩ := h
  have hu : P.underlying t = some (.slice (P.elem t)) := by rw [ht.und, elem_of ht.und]
  rw [run_sliceAt_slice (h := hu), run_slice_lhm (ht := hu) (h0 := by omega) (h1 := by omega) (h2 := by omega) (h3 := by omega), elem_of ht.und, ht.run_size]
  simp [Result.andThen, cutV]
theorem Ints.cut {w : World} {v : Value} {l : List Int} (h : Ints w v l) (i j : Nat) (hij : i < j) (hj : j ≤ l.length) : Ints w (cutV v i j) ((l.drop i).take (j - i)) := by
  obtain ⟨ao, cap, rfl, h2, h3, h4, h5⟩ := h
  have hl : ((l.drop i).take (j - i)).length = j - i := by simp; omega
  obtain ⟨b, off, e1, _⟩ := h5 0 (by simp; omega)
  subst e1
  refine ⟨some ⟨b, off + i, none⟩, j - i, ?_, by simp, by omega, by omega, fun q hq => ?_⟩
  · rw [hl]
    simp only [cutV, sliced, if_neg (show ¬ j = i by omega), Option.map_some, Addr.add_lit, Nat.mul_one]
  · have hq' : q < j - i := by rw [List.length_map, hl] at hq; exact hq
    obtain ⟨b', off', e1, e2⟩ := h5 (i + q) (by simp; omega)
    injection e1 with e1; injection e1 with e1 e3
    subst e1 e3
    refine ⟨b, off + i, rfl, ?_⟩
    rw [Nat.add_assoc, e2]; simp
theorem pad_snoc (p : Int) (l : List Int) (i : Nat) (h : i < l.length) : ((l.take (i + 1)).map (fof p)).map (Value.int .i64) = ((l.take i).map (fof p)).map (Value.int .i64) ++ [.int .i64 (fof p (nth l i))] := by
  rw [List.take_succ_eq_append_getElem h, nth_eq h, List.map_append, List.map_append]; rfl
end Go.Att
namespace Go.Proofs.YtfepefbehgbjpaaGreatDoor
open Go.RowKit Go.Att
theorem clipI_any {w : World} {v : Value} {l : List Int} (h : Ints w v l) : Calls Tryz.prog 86 #[v] w fun e w' => e = .returned (clpV v l.length) ∧ w = w' := by
  have hll := h.run_len (P := Tryz.prog) slInts
  have hcl := Sl.run_clp (P := Tryz.prog) h slInts
  go_enter Tryz.func86, Tryz.ntmps86
  go_wp2
  go_ret
  exact ⟨rfl, rfl⟩
set_option maxRecDepth 100000 in
set_option maxHeartbeats 4000000 in
theorem pad_any {w : World} {b bf : Nat} {p g : Int} {fs : List Int} (hc : w.cell? ⟨b, 0, none⟩ = some (.pointer (some ⟨bf, 0, none⟩))) (hf : Fld w (.pointer (some ⟨bf, 0, none⟩)) p g fs) (v : Value) (l : List Int) (hv : Ints w v l) (hs : l.length ≤ 4294967000) :
    Calls Tryz.prog 119 #[.pointer (some ⟨b, 0, none⟩), v] w (Gives w fun u w' => Ints w' u (padP p l) ∧ NewIn w u) := by
  have HF := Lib.hid hf
  have hll := hv.run_len (P := Tryz.prog) slInts
  have HV := Lib.hid hv
  clear hf hv
  obtain ⟨n, hn⟩ : ∃ n, l.length = n := ⟨_, rfl⟩
  have HN := Lib.hid hn
  rw [hn] at hs hll
  clear hn
  go_enter Tryz.func119, Tryz.ntmps119
  go_wp2_with (refine wpList_mk0 rfl _ _ 22 rfl slInts (Ext.refl w) rfl rfl (by omega) (by omega) (by omega) ?_; intro v1 w1 HO HX _)
  go_loopw [5, 7, 14] (fun x5 _ x14 wr => ∃ i : Nat, i ≤ n ∧ x14 = .int .i64 i ∧ wr.ownsRow w.heap.size 3 1 x5 i (((l.take i).map (fof p)).map (Value.int .i64)) ∧ Ext w wr) (fun _ _ x14 _ => n - (intOf x14).toNat)
  case atStart => exact ⟨0, Nat.zero_le _, rfl, by simpa using HO, HX⟩
  case round =>
    obtain ⟨i, hi, rfl, HO1, HX1⟩ := hrel
    by_cases hin : i < n
    · have hix := HV.out.run_index (P := Tryz.prog) slInts i (by rw [HN.out]; exact hin)
      have hcc := (HV.out.ext HX1).cell i (by rw [HN.out]; exact hin)
      have hc1 := HX1.cell hc
      have ST := Lib.hid (pad_snoc p l i (by rw [HN.out]; exact hin))
      go_wp2_with (first | (go_at_call 66; refine (of_any (HF.out.ext HX1) _).mono ?_; rintro e w3 hrd; obtain ⟨rfl, hx3⟩ := hrd.ext; clear hrd; replace HO1 := own_ext HO1 hx3; replace hx3 := HX1.trans hx3) | (at_builtin; refine wpList_appNw rfl _ _ 22 rfl slInts rfl hx3.size HO1 rfl _ rfl (by intro u hu; simp at hu; subst hu; rfl) rfl (by omega) (by omega) ?_; intro v7 w7 HO7 HG7 _))
      go_roundw
      case rel => exact ⟨i + 1, by omega, by go_num, by rw [ST.out]; exact HO7, Ext.own_grown hx3 HO1 HG7⟩
      case measure => simp [intOf]; omega
    · obtain rfl : i = n := by omega
      have HO1' := Lib.hid HO1; have HX1' := Lib.hid HX1
      clear HO1 HX1 HO HX
      go_wp2_with (at_builtin; refine wpList_app1 rfl _ _ 22 rfl slInts rfl HX1'.out HO1'.out rfl _ rfl rfl (by omega) (by omega) ?_; intro v2 w2 HO2 HX2 _)
      have HO2' := Lib.hid (show w2.ownsRow w.heap.size 3 1 v2 (l.length + 1 + 0) ((padU p l 0).map (Value.int .i64)) from by rw [HN.out]; rw [List.take_of_length_le (by rw [HN.out]; exact Nat.le_refl _)] at HO2; simpa [padU] using HO2)
      have HX2' := Lib.hid HX2
      clear HO2 HX2 HO1' HX1'
      go_loopw [5] (fun x5 wr => ∃ i : Nat, i ≤ padN l.length ∧ Hid (wr.ownsRow w.heap.size 3 1 x5 (l.length + 1 + i) ((padU p l i).map (Value.int .i64))) ∧ Hid (Ext w wr)) (fun x5 _ => l.length + 1 + padN l.length - slen x5)
      case atStart => exact ⟨0, Nat.zero_le _, HO2', HX2'⟩
      case round =>
        clear HO2' HX2'
        obtain ⟨i, hi, HO, HX⟩ := hrel
        have hlen := (Sl.of_own HO.out (by omega)).run_len (P := Tryz.prog) slInts
        have HSL := Lib.hid (own_slen HO.out)
        have hpn : padN l.length ≤ 3 := by unfold padN; omega
        have hiff := padN_end hi
        have hll' := HN.out
        obtain ⟨n', hn'⟩ : ∃ n', l.length + 1 + i = n' := ⟨_, rfl⟩
        have hn9 : n' ≤ 4294967100 := by omega
        rw [hn'] at hlen hiff
        have hem : ((n' : Int) % 4 != 0) = !decide (n' % 4 = 0) := by
          rw [Bool.eq_iff_iff, bne_iff_ne]; simp; omega
        by_cases hd : i = padN l.length
        · have hem2 : ((n' : Int) % 4 != 0) = false := by rw [hem]; simp [hiff.2 hd]
          have HI0 := Ints.of_own HO.out
          rw [hd, padU_all] at HI0
          have HI := Lib.hid HI0
          clear HI0
          have HNW := Lib.hid (NewIn.of_own HO.out)
          clear hem hiff hll' hn' hd
          go_wp2_with (go_at_call 86; refine (clipI_any HI.out).mono ?_; rintro e w9 ⟨rfl, rfl⟩)
          go_ret
          exact .mk _ rfl HX.out ⟨Sl.clp HI.out, HNW.out.clp _⟩
        · have hem2 : ((n' : Int) % 4 != 0) = true := by rw [hem]; simp; exact fun h => hd (hiff.1 h)
          have HS := Lib.hid (padU_snoc p l i)
          have HOo := HO.out
          have HXo := HX.out
          have HN' := Lib.hid hn'
          have HLL := Lib.hid hll'
          clear hem hiff hn' hll'
          go_wp2_with (at_builtin; refine wpList_app1 rfl _ _ 22 rfl slInts rfl HXo HOo rfl _ rfl rfl (by have := HLL.out; omega) (by omega) ?_; intro v4 w4 HO4 HX4 _)
          have HS4 := Lib.hid (own_slen HO4)
          go_roundw
          case rel => exact ⟨i + 1, by omega, Lib.hid (by rw [HS.out, List.map_append]; exact HO4), Lib.hid HX4⟩
          case measure => rw [HSL.out, HS4.out]; omega
end Go.Proofs.YtfepefbehgbjpaaGreatDoor
end
section
namespace Go
section
variable {P : Program} {l : List Oper} {n : Nat} {C : World → Prop}
def noDefer (l : List Oper) : Bool := l.all fun o => match o.op with
  | .defer _ => false
  | _ => true
theorem noDefer_at (h : noDefer l = true) {i : Nat} {o : Oper} (ho : l[i]? = some o) : ∀ c, o.op ≠ .defer c := fun c hc => by
  have := List.all_eq_true.1 h o (List.mem_of_getElem? ho)
  simp [hc] at this
theorem Rows.inRound {lr q : Nat} {row : String} {args : Array Value} {w : World} {R : Value → World → Prop} (h : Rows P row args w R) : RowsIn (Fence.wide.inRound lr) q P row args w R :=
  fun c cs _ => let ⟨v, w', r, s⟩ := h c cs; ⟨v, w', r, stepsIn_wide.2 s⟩
theorem Calls.inRound {lr q : Nat} {f : FuncId} {args : Array Value} {w : World} {R : Ending → World → Prop} (h : Calls P f args w R) : CallsIn (Fence.wide.inRound lr) q P f args w R :=
  CallsIn.inRound lr (callsIn_wide.2 h)
theorem Oper.wpIn_of_wp {o : Oper} (hd : ∀ c, o.op ≠ .defer c) {lr q : Nat} {a : Act} {w : World} {K : Act → World → Prop} {Q : Exit → Act → World → Prop} (h : o.wp P a w K Q) : o.wpIn (Fence.wide.inRound lr) q P a w K Q := by
  refine ⟨fun _ _ => trivial, ?_⟩
  rw [Oper.semAt_eq _ _ _ hd]
  unfold Oper.wp at h
  generalize (execOp a.eval o).run P w = r at *
  cases r with
  | ok x w' =>
    cases x <;> simp only [Oper.upon, Oper.uponIn] at h ⊢ <;>
      first
        | exact h
        | exact ⟨fun h => (by cases h), (Calls.inRound h).mono (fun e w'' he => by cases e <;> exact he)⟩
        | exact ⟨fun h => (by cases h), Rows.inRound h⟩
  | halt x w' => cases x <;> simp only [Oper.upon, Oper.uponIn] at h ⊢ <;> exact h
theorem wpAnyIn_of_seq {ops : Array Oper} {md : Region.Mode} {lr q : Nat} {Q' : Exit → Act → World → Prop} : ∀ (l : List Oper) (k : Nat) (listed : Array Bool) (a : Act) (w : World), (∀ j, l[j]? = ops[k + j]?) →
    Region.seqB md ops l.length k listed = true → wpListIn (Fence.wide.inRound lr) q P ops Q' l a w → wpAnyIn (Fence.wide.inRound lr) q P md ops Q' l.length listed a w
  | [], _, _, _, _, _, hB, h => ⟨by simpa [Region.seqB] using hB, h⟩
  | o :: l, k, listed, a, w, hl, hB, h => by
    have h0 : ops[k]? = some o := by simpa using (hl 0).symm
    simp only [List.length_cons, Region.seqB, Bool.and_eq_true, decide_eq_true_eq] at hB
    refine ⟨fun h1 => (by rw [hB.1] at h1; cases h1), fun i hi => ?_⟩
    rw [hB.1] at hi
    have hik : i = k := by simpa using hi
    subst hik
    have hw : wpOpIn (Fence.wide.inRound lr) q P ops Q' i (wpListIn (Fence.wide.inRound lr) q P ops Q' l) a w := by unfold wpOpIn; simp only [h0]; exact h
    exact wpOpIn_mono (fun a' w' h' => wpAnyIn_of_seq l (i + 1) _ a' w' (fun j => by have := hl (j + 1); simpa [Nat.add_assoc, Nat.add_comm 1 j] using this) hB.2 h') hw
theorem wpOpIn_small {Q' : Exit → Act → World → Prop} (hok : headOk l n = true) (hnd : noDefer l = true) {lr q : Nat} {i : Nat} (hin : i < n) {a : Act} {K : Act → Prop} {K' : Act → World → Prop} {w : World} (hC : C w) (h : ∀ a w', C w' → K a → K' a w')
    (hh : qOp P (l.take n).toArray C i K a) : wpOpIn (Fence.wide.inRound lr) q P l.toArray Q' i K' a w := by
  have e : (l.take n).toArray[i]? = l.toArray[i]? := by simp [hin]
  unfold qOp at hh
  unfold wpOpIn
  rw [e] at hh
  cases ho : l.toArray[i]? with
  | none => simp only [ho] at hh ⊢; exact h _ _ hC hh
  | some o =>
    simp only [ho] at hh ⊢
    have ho' : l[i]? = some o := by simpa using ho
    have hw : Region.wanted o (yielded l.toArray a.tmps) = Region.wanted o (yielded (l.take n).toArray a.tmps) := by
      unfold Region.wanted
      cases hg : o.guard with
      | none => rfl
      | some gb =>
        obtain ⟨g, b⟩ := gb
        have := (headOk_spec hok hin ho').1 g b hg
        have e2 : (l.take n).toArray[g]? = l.toArray[g]? := by simp [this]
        simp only [yielded, e2]
    rw [hw]
    split
    · rename_i h1; simp only [h1, if_true] at hh; exact Oper.wpIn_of_wp (noDefer_at hnd ho') (Oper.wp_of_quiet hC h hh)
    · rename_i h1; simp only [h1] at hh; exact ⟨fun _ _ => trivial, h _ _ hC hh⟩

theorem headIn_all {Q0 : Act → Prop} {Q' : Exit → Act → World → Prop} {g : Nat} (hok : headOk l n = true) (hnd : noDefer l = true) {lr q : Nat} {m : Nat} (hs : waitB l m n = true) (hc : Region.chainB .any l.toArray n = true) (hn : n < l.length)
    (hL : ∀ big a w, C w → Q0 a → HeadInv .any l.toArray n big → (∀ j, j < n → big[j]? = some true) → wpAnyIn (Fence.wide.inRound lr) q P .any l.toArray Q' g big a w) :
    ∀ (f : Nat) (big small : Array Bool) (a : Act) (w : World), C w → Marks l n big small → (∀ j, j < m → small[j]? = some true) → small.toList.count false = f → wpAnyQ P .any (l.take n).toArray C Q0 f small a → wpAnyIn (Fence.wide.inRound lr) q P .any l.toArray Q' (f + g) big a w
  | 0, big, small, a, w, hw, hm, hmm, hcnt, h => by
    rw [Nat.zero_add]
    refine hL big a w hw h.2 hm.inv fun j hj => ?_
    have hjs : j < small.size := by rw [hm.size]; exact hj
    rw [hm.same j hj, Array.getElem?_eq_getElem hjs]
    cases hb : small[j] with
    | true => rfl
    | false =>
      have : false ∈ small.toList := by rw [← hb]; exact Array.mem_toList_iff.2 (Array.getElem_mem hjs)
      have := List.count_pos_iff.2 this
      omega
  | f + 1, big, small, a, w, hw, hm, hmm, hcnt, h => by
    rw [show f + 1 + g = (f + g) + 1 by omega]
    have hne : ∃ i, i < n ∧ small[i]? = some false := by
      have : false ∈ small.toList := List.count_pos_iff.1 (by omega)
      obtain ⟨i, hi, e⟩ := List.getElem_of_mem this
      exact ⟨i, by simpa [hm.size] using hi, by rw [← Array.getElem?_toList, List.getElem?_eq_getElem hi, e]⟩
    obtain ⟨i0, hi0, hu0⟩ := hne
    refine ⟨fun h0 => absurd h0 (ready_some hok (by omega) hm hi0 hu0), fun i hi => ?_⟩
    have hin : i < n := by
      rcases Nat.lt_or_ge i n with h1 | h1
      · exact h1
      · refine absurd hi (not_yet hs hc hn hm.inv i0 ?_ hi0 (by rw [hm.same _ hi0, hu0]) i h1)
        rcases Nat.lt_or_ge i0 m with h2 | h2
        · have := hmm i0 h2; rw [hu0] at this; cases this
        · exact h2
    have hi' := ready_small hok hm hin hi
    have hun := (mem_ready.1 hi').1
    have his : i < small.size := by rw [hm.size]; exact hin
    have hf : small[i] = false := by rw [Array.getD_eq_getD_getElem?, Array.getElem?_eq_getElem his] at hun; exact hun
    refine wpOpIn_small hok hnd hin hw (fun a' w' hw' hk => headIn_all hok hnd hs hc hn hL f _ _ a' w' hw' (hm.set hi hin) (fun j hj => by
      rw [Array.getElem?_setIfInBounds]
      have := hmm j hj
      split
      · rename_i e; subst e; first | rfl | rw [if_pos his]
      · exact this) ?_ hk) (h.2 i hi')
    rw [Array.toList_setIfInBounds, List.count_set (by simpa using his)]
    have : small.toList[i]'(by simpa using his) = false := by rw [Array.getElem_toList]; exact hf
    simp [this, hcnt]

theorem wpIn_region_quiet_tail {lr q id : Nat} {Q : Exit → Act → World → Prop} {a : Act} {w : World} (n : Nat) (hm : P.follows .mixedOrders = true) (hnd : noDefer l = true)
    (hB : (Region.lexB .any (l.take n).toArray && headOk l n && decide (n < l.length) && waitB l 0 n && Region.chainB .any l.toArray n && Region.seqB .any l.toArray (l.length - n) n (Array.replicate n true ++ Array.replicate (l.length - n) false)) = true)
    (h : wpQuiet P (l.take n).toArray (fun w' => ∃ m, w' = w.drewN m) (fun a' => ∀ w', (∃ m, w' = w.drewN m) → wpListIn (Fence.wide.inRound lr) q P l.toArray Q (l.drop n) a' w') (l.take n) a) : (Code.region id l.toArray true).wpIn (Fence.wide.inRound lr) q P Q a w := by
  simp only [Bool.and_eq_true, decide_eq_true_eq] at hB
  obtain ⟨⟨⟨⟨⟨hB, hok⟩, hn⟩, hs⟩, hc⟩, hseq⟩ := hB
  simp only [Region.lexB, Bool.and_eq_true] at hB
  have h1 := wpAnyQ_lex (C := fun w' => ∃ m, w' = w.drewN m) (md := .any) hB.1 (l.take n) 0 (Array.replicate n false) a (by simp) (by
    have := hB.2
    simp only [List.size_toArray, List.length_take] at this
    rw [Nat.min_eq_left (by omega)] at this
    rw [List.length_take, Nat.min_eq_left (by omega)]; exact this) h
  have inv0 : HeadInv .any l.toArray n (Array.replicate l.toArray.size false) :=
    ⟨by simp, fun j oj _ hl => (by rw [getD_replicate_false] at hl; cases hl), fun t _ ht => getD_in (by simpa using ht) (getD_replicate_false _ _)⟩
  refine wpIn_region_any hm ?_
  have H := headIn_all (P := P) (C := fun w' => ∃ m, w' = w.drewN m) (Q' := Q) (g := l.length - n) (lr := lr) (q := q) hok hnd hs hc hn (fun big a' w' hw' hq hinv hall => by
    have e : big = Array.replicate n true ++ Array.replicate (l.length - n) false := by
      refine Array.ext_getElem? fun j => ?_
      rcases Nat.lt_or_ge j n with hj | hj
      · rw [hall j hj, Array.getElem?_append_left (by simpa using hj)]; simp [hj]
      · rw [Array.getElem?_append_right (by simpa using hj)]
        have hsz := hinv.size
        rcases Nat.lt_or_ge j l.length with hj2 | hj2
        · have := hinv.tail j hj (by simpa using hj2)
          have hjs : j < big.size := by rw [hsz]; simpa using hj2
          rw [Array.getD_eq_getD_getElem?, Array.getElem?_eq_getElem hjs] at this
          rw [Array.getElem?_eq_getElem hjs]
          simp at this
          rw [this, Array.size_replicate, Array.getElem?_replicate, if_pos (by omega)]
        · rw [Array.getElem?_eq_none (by rw [hsz]; simpa using hj2), Array.getElem?_eq_none (by simp; omega)]
    subst e
    have := wpAnyIn_of_seq (md := .any) (P := P) (ops := l.toArray) (Q' := Q) (l.drop n) n _ a' w' (fun j => by simp [List.getElem?_drop]) (by rw [List.length_drop]; exact hseq) (hq w' hw')
    rwa [List.length_drop] at this) (l.take n).length (Array.replicate l.toArray.size false) (Array.replicate n false) a { w with drawn := w.drawn + 1 } ⟨1, rfl⟩ ⟨inv0, by simp, fun j hj => by
      rw [Array.getElem?_replicate, Array.getElem?_replicate, if_pos hj, if_pos (by simp; omega)]⟩ (fun j hj => by omega) (by simp; omega) h1
  rw [List.length_take, Nat.min_eq_left (by omega), show n + (l.length - n) = l.toArray.size by simp; omega] at H
  exact H

end
end Go
end
section
namespace Go.Att
open Go.RowKit
def upF (c : Nat) : (k : Nat) → k ≤ c → List (Fin c)
  | 0, _ => []
  | k + 1, h => upF c k (by omega) ++ [⟨k, h⟩]
theorem upF_length (c : Nat) : ∀ (k : Nat) (h : k ≤ c), (upF c k h).length = k
  | 0, _ => rfl
  | k + 1, h => by rw [upF, List.length_append, upF_length c k]; rfl
def KpC (B : Nat) (W W' : World) : Prop := W.heap.size ≤ W'.heap.size ∧ ∀ k, B ≤ k → k < B + 2 → k < W.heap.size → W'.heap[k]? = W.heap[k]?
theorem KpC.refl (B : Nat) (W : World) : KpC B W W := ⟨Nat.le_refl _, fun _ _ _ _ => rfl⟩
theorem KpC.trans {B : Nat} {X Y Z : World} (h : KpC B X Y) (k : KpC B Y Z) : KpC B X Z :=
  ⟨Nat.le_trans h.1 k.1, fun q h1 h2 h3 => (k.2 q h1 h2 (Nat.lt_of_lt_of_le h3 h.1)).trans (h.2 q h1 h2 h3)⟩
theorem KpC.of_ext {B : Nat} {W W' : World} (h : Ext W W') : KpC B W W' := ⟨h.size, fun q _ _ h3 => h.below.block q h3⟩
theorem KpC.of_grown {B : Nat} {W W' : World} {b : Option Nat} (h : W.grownBy W' b) (hb : ∀ k, b = some k → k < B ∨ B + 2 ≤ k) : KpC B W W' :=
  ⟨h.size, fun q h1 h2 h3 => h.block q h3 (fun e => by have := hb q e.symm; omega)⟩
theorem KpC.cell {B : Nat} {W W' : World} (h : KpC B W W') {k o : Nat} (h1 : B ≤ k) (h2 : k < B + 2) {v : Value} (hc : W.cell? ⟨k, o, none⟩ = some v) : W'.cell? ⟨k, o, none⟩ = some v := by
  rw [World.cell?_of_block (a := ⟨k, o, none⟩) (h.2 k h1 h2 (World.block_lt_of_cell? W _ hc))]; exact hc
end Go.Att
namespace Go.Proofs.YtfepefbehgbjpaaGreatDoor
open Go.RowKit Go.Att Go.Shelf
attribute [local go_sem] Oper.semAt_some
theorem KpC.putObj {B : Nat} {w : World} (hn : B + 2 ≤ w.heap.size) (W : World) (l : Nat) (o o' : Obj) (hl : w.heap.size ≤ l) (_ : W.heap[l]? = some o) (_ : o.isCells = false) (_ : o.isWalk = false) : KpC B W (W.putObj l o') :=
  KpC.of_grown (grownBy_putObj' W l o') (fun k e => by cases e; omega)
set_option maxRecDepth 100000 in
set_option maxHeartbeats 4000000 in
theorem chunk_any (ao : Option Addr) (len cap : Nat) (q : Nat) (hq : 1 ≤ q) (w : World) :
    Calls Tryz.prog 74 #[.slice ao len cap, .int .i64 q] w fun e w' => e = .returned (.func (.func 124) #[] #[.pointer (some ⟨w.heap.size, 0, none⟩), .pointer (some ⟨w.heap.size + 1, 0, none⟩)]) ∧ w' = (w.alloc (.cells #[.slice ao len cap] 22)).alloc (.cells #[.int .i64 q] 3) := by
  have hq1 : ¬ (q : Int) < 1 := by omega
  go_enter Tryz.func74, Tryz.ntmps74
  go_wp2_with fail
  go_ret
  exact ⟨rfl, rfl⟩
set_option maxRecDepth 100000 in
set_option maxHeartbeats 8000000 in
theorem chunk_stops {w : World} (B q c : Nat) (v : Value) (l : List Int) (hq : 1 ≤ q) (hlc : l.length = c * q) (hb : l.length ≤ 4294967296) (hB0 : w.cell? ⟨B, 0, none⟩ = some v) (hB1 : w.cell? ⟨B + 1, 0, none⟩ = some (.int .i64 q)) (hv : Ints w v l) (n : Nat) (hn : 1 ≤ n) :
    SeqStopsK Fence.wide n Tryz.prog 124 #[.pointer (some ⟨B, 0, none⟩), .pointer (some ⟨B + 1, 0, none⟩)] (fun x : Fin c => #[cutV v (x.1 * q) (x.1 * q + q)]) (KpC B) (fun xs => xs = upF c c (Nat.le_refl c)) (fun pre => ∃ k, ∃ h : k ≤ c, pre = upF c k h) c w := by
  intro l0 J Jx W hW hJ hJx hY h0
  have HV := Lib.hid hv
  have HQ0 := Lib.hid ((show Ext w W from hW).cell hB0)
  have HQ1 := Lib.hid ((show Ext w W from hW).cell hB1)
  have HJA := Lib.hid hJ
  have HY := Lib.hid hY
  clear hB0 hB1 hv hW hJ hJx hY
  obtain ⟨N, hN⟩ : ∃ N, l.length = N := ⟨_, rfl⟩
  have HN := Lib.hid hN
  have HC := Lib.hid (hN.symm.trans hlc)
  have hll := HV.out.run_len (P := Tryz.prog) slInts
  rw [hN] at hb hll
  clear hlc hN
  refine callsIn_of_wp Tryz.func124 rfl trivial ?_ rfl
  simp only [Tryz.ntmps124, List.size_toArray, List.length_cons, List.length_nil, Nat.reduceAdd, Nat.reduceSub, Array.replicate_succ, Array.replicate_zero, List.push_toArray, List.append_toArray, List.nil_append, List.cons_append]
  have hc0 := HQ0.out
  have hc1 := HQ1.out
  gi_wp2
  gi_loopw [4, 5] (fun x4 _ wr => ∃ k : Nat, ∃ hk : k ≤ c, ∃ i : Nat, i = k * q ∧ i ≤ N ∧ x4 = .int .i64 i ∧ J (upF c k hk) wr ∧ KpC B W wr) (fun x4 _ _ => N - (intOf x4).toNat)
  case atStart => exact ⟨0, Nat.zero_le _, 0, by simp, Nat.zero_le _, rfl, h0, KpC.refl _ _⟩
  case round =>
    clear hc0 hc1
    obtain ⟨k, hk, i, hik, hi, rfl, hJs, hKW⟩ := hrel
    have HIK := Lib.hid hik; have HJ := Lib.hid hJs; have HK := Lib.hid hKW
    have hc0 := hKW.cell (Nat.le_refl _) (by omega) HQ0.out
    have hc1 := hKW.cell (by omega) (by omega) HQ1.out
    clear hik hJs hKW
    by_cases hkc : k < c
    · have hiN : i + q ≤ N := by
        rw [HIK.out, HC.out, ← Nat.succ_mul]; exact Nat.mul_le_mul_right _ hkc
      have hdrop := fun w' => HV.out.run_drop (P := Tryz.prog) slInts i (by rw [HN.out]; exact hi) w'
      have hld := (HV.out.drop i (by rw [HN.out]; exact hi)).run_len (P := Tryz.prog) slInts
      rw [List.length_drop, HN.out] at hld
      have hcut := fun w' => HV.out.run_cut (P := Tryz.prog) slInts i (i + q) (by omega) (by rw [HN.out]; exact hiN) w'
      rw [show ((i + q : Nat) : Int) = (i : Int) + q from by omega] at hcut
      have hmin : min (q : Int) ((N - i : Nat) : Int) = q := by omega
      have hlt : (i : Int) < N := by omega
      have hw : IntKind.i64.wrap ((i : Int) + q) = (i : Int) + q := IntWalk.i64_in _ (by omega)
      generalize fromV v i = fv at *
      gi_wp2
      refine wpIn_wide.2 ?_
      go_quiet (fail)
      have HJ1 := Lib.hid (HJA.out _ _ _ none HJ.out ((Ext.drewN wr nq).grownBy none) (fun r e => by cases e))
      have HK1 := Lib.hid (HK.out.trans (KpC.of_ext (Ext.drewN wr nq)))
      have hc2 := HK1.out.cell (Nat.le_refl _) (by omega) HQ0.out
      have hc3 := HK1.out.cell (by omega) (by omega) HQ1.out
      clear hc0 hc1 HJ HK
      generalize wr.drewN nq = w2 at *
      obtain ⟨fn, tmps, assign, body, hy, hR⟩ := HY.out _ (⟨k, hkc⟩ : Fin c) w2 HJ1.out (by rw [upF_length]; exact hkc)
      dsimp only at hy
      rw [← HIK.out] at hy
      gi_wp2
      refine hR.mono ?_
      rintro e w3 (⟨rfl, hJ3, hk3⟩ | ⟨rfl, hJx3⟩)
      · have hc4 := hk3.cell (Nat.le_refl _) (by omega) hc2
        have hc5 := hk3.cell (by omega) (by omega) hc3
        have HJ3 := Lib.hid hJ3
        have HK3 := Lib.hid (HK1.out.trans hk3)
        clear hJ3 hk3 hc2 hc3 HJ1 HK1
        gi_wp2
        go_roundw
        case rel => exact ⟨k + 1, hkc, i + q, by rw [HIK.out, Nat.succ_mul], by omega, by go_num, HJ3.out, HK3.out⟩
        case measure => simp [intOf]; omega
      · have HJX := Lib.hid hJx3
        clear hJx3 hc2 hc3 HJ1 HK1
        gi_wp2
        refine bodyPost_ret (results_none rfl _ _ _) rfl ?_
        exact ⟨⟨_, rfl⟩, .inr ⟨_, ⟨k + 1, hkc, rfl⟩, HJX.out⟩⟩
    · obtain rfl : k = c := by omega
      have hge : ¬ (i : Int) < N := by
        have := HIK.out; have := HC.out; omega
      gi_wp2
      go_end0
      first | exact ⟨⟨_, rfl⟩, .inl HJ.out⟩ | exact ⟨⟨_, rfl⟩, .inl ⟨_, rfl, HJ.out⟩⟩
end Go.Proofs.YtfepefbehgbjpaaGreatDoor
end
section
namespace Go.Att
open Go.RowKit
theorem cst_bd {p : Int} (hp : 2 ≤ p) (r i : Nat) : 0 ≤ cstP p r i ∧ cstP p r i < p := fadd_bd hp _ _
end Go.Att
namespace Go.Proofs.YtfepefbehgbjpaaGreatDoor
open Go.RowKit Go.Att
set_option maxRecDepth 100000 in
set_option maxHeartbeats 8000000 in
theorem rpermute_any (p : Int) (k : Nat) (v : Value) (x : List Int) (w : World) (h23 : 23 ≤ p) (hp2 : p ≤ 2147483647) (hk : IsPw p k) (hv : Ints w v x) (hl : x.length = 8) :
    Calls Tryz.prog 138 #[.int .i64 p, v] w (Gives w fun u w' => w'.ownsRow w.heap.size 3 1 u 8 ((permP p k (x.map (fof p)) 8).map (Value.int .i64))) := by
  have hp : 2 ≤ p := by omega
  have hkp : (k : Int) ≤ 2147483647 := by
    obtain ⟨hk2, hkg, hkl⟩ := hk
    apply Classical.byContradiction
    intro hc
    exact hkl (p - 2).toNat (by omega) (by omega) (gcd_last h23)
  have HV := Lib.hid hv; have HL := Lib.hid hl; have HK := Lib.hid hk
  clear hv hl hk
  go_enter Tryz.func138, Tryz.ntmps138
  go_wp2_with (first | (go_at_call 107; refine (rallO_any p v x w HV.out hp hp2 (by rw [HL.out]; omega)).mono ?_; rintro e w1 ⟨v1, rfl, hx1, ho1⟩; rw [HL.out] at ho1; have HO1 := Lib.hid ho1; have HX1 := Lib.hid hx1; clear ho1 hx1) | (go_at_call 165; refine (rpower_any p k _ h23 hp2 HK.out).mono ?_; rintro e w' ⟨rfl, rfl⟩))
  have HE0 := Lib.hid (els_map hp x)
  have HL0 := Lib.hid (show (x.map (fof p)).length = 8 from by rw [List.length_map]; exact HL.out)
  generalize hx0 : x.map (fof p) = x0 at *
  have HX0E := Lib.hid hx0
  clear hx0
  go_loopw [5, 7, 8, 9] (fun x5 x7 _ _ wr => ∃ r : Nat, r ≤ 8 ∧ x7 = .int .i64 r ∧ Hid (wr.ownsRow w.heap.size 3 1 x5 8 ((permP p k x0 r).map (Value.int .i64))) ∧ Hid (Ext w wr)) (fun _ x7 _ _ _ => 8 - (intOf x7).toNat)
  case atStart => exact ⟨0, by omega, rfl, HO1, HX1⟩
  case round =>
    clear HO1 HX1
    obtain ⟨r, hr, rfl, HO, HX⟩ := hrel
    by_cases hr8 : r < 8
    · have hr88 : (r : Int) < 8 := by omega
      have HEX := Lib.hid (els_perm hp k HE0.out r)
      have HLX := Lib.hid (permP_length p k HL0.out r)
      have HSX := Lib.hid (show permP p k x0 (r + 1) = mixT p (powP p k r (permP p k x0 r)) from rfl)
      generalize permP p k x0 r = X at *
      obtain ⟨a5, c5, hsh⟩ := own_shape HO.out
      subst hsh
      have HO0 := Lib.hid (show wr.ownsRow w.heap.size 3 1 (.slice a5 8 c5) 8 ((powU p k r X 0).map (Value.int .i64)) from by rw [powU_zero p k r X HLX.out]; exact HO.out)
      clear HO
      go_wp2_with fail
      generalize wr = w9 at *
      go_loopw [8, 9] (fun x8 _ wq => ∃ i : Nat, i ≤ 8 ∧ x8 = .int .i64 i ∧ Hid (wq.ownsRow w.heap.size 3 1 (.slice a5 8 c5) 8 ((powU p k r X i).map (Value.int .i64))) ∧ Hid (Ext w wq)) (fun x8 _ _ => 8 - (intOf x8).toNat)
      case atStart => exact ⟨0, by omega, rfl, HO0, HX⟩
      case round =>
        clear HO0 HX
        obtain ⟨i, hi, rfl, HO, HX⟩ := hrel
        by_cases hi8 : i < 8
        · have HI := Ints.of_own HO.out
          have hix := HI.run_index (P := Tryz.prog) slInts i (by rw [powU_length]; exact hi8)
          have hc := HI.cell i (by rw [powU_length]; exact hi8)
          rw [powU_nth p k r X i hi8, if_neg (by omega)] at hc
          have hb := HEX.out i (by rw [HLX.out]; exact hi8)
          have hcb := cst_bd hp r i
          have HST := Lib.hid (fun v hv => powU_set p k r X i hi8 v hv)
          have HFA := Lib.hid (fpow_add p (nth X i) (cstP p r i) k)
          have HSM := Lib.hid (fun v => set_map (powU p k r X i) i (by rw [powU_length]; exact hi8) v)
          generalize nth X i = xi at *
          have CC := fun W => rconst_any p r i W hp hp2 hr8 hi8
          generalize cstP p r i = ci at *
          have hw1 : IntKind.i64.wrap (xi + ci) = xi + ci := IntWalk.i64_in _ (by omega)
          have HOo := HO.out
          clear HI
          go_wp2_with (first | (go_at_call 166; refine (CC _).mono ?_; rintro e w' ⟨rfl, rfl⟩) | (go_at_call 94; refine (rpow_any p _ k _ hp hp2 (by omega)).mono ?_; rintro e w' ⟨rfl, rfl⟩) | (refine wpList_set rfl rfl _ _ 3 rfl slInts HOo i hi8 rfl (.int .i64 (fpow p (xi + ci) k)) rfl rfl (by intro u hu; simp [Value.cells] at hu; subst hu; rfl) ?_; intro w7 HO7 HG7))
          have HX7 := Lib.hid (Ext.own_grown HX.out HOo HG7)
          have HO7' := Lib.hid (show w7.ownsRow w.heap.size 3 1 (.slice a5 8 c5) 8 ((powU p k r X (i + 1)).map (Value.int .i64)) from by rw [HSM.out] at HO7; rw [← HST.out _ HFA.out]; exact HO7)
          go_roundw
          case rel => exact ⟨i + 1, by omega, by go_num, HO7', HX7⟩
          case measure => simp [intOf]; omega
        · obtain rfl : i = 8 := by omega
          have HI := Lib.hid (show Ints wr (.slice a5 8 c5) (powP p k r X) from by have := Ints.of_own HO.out; rwa [powU_all] at this)
          go_wp2_with (go_at_call 167; refine (rmix_any p _ (powP p k r X) _ hp hp2 HI.out (powP_length _ _ _ _)).mono ?_; rintro e w8 ⟨v8, rfl, hx8, ho8⟩; have HX8 := Lib.hid (HX.out.trans hx8); have HO8 := Lib.hid (own_base ho8 HX.out.size); clear hx8 ho8)
          go_roundw
          case rel => exact ⟨r + 1, by omega, by go_num, by rw [HSX.out]; exact HO8, HX8⟩
          case measure => simp [intOf]; omega
    · obtain rfl : r = 8 := by omega
      go_wp2_with fail
      go_ret
      exact .mk _ rfl HX.out (by rw [HX0E.out]; exact HO.out)
end Go.Proofs.YtfepefbehgbjpaaGreatDoor
end
section
namespace Go.Att
open Go.RowKit
def absU (p : Int) (m : List Int) (c : Nat) (x : List Int) (t : Nat) : List Int := (List.range 8).map fun i => if i < t then fadd p (nth x i) (nth m (4 * c + i)) else nth x i
theorem absU_length (p : Int) (m : List Int) (c : Nat) (x : List Int) (t : Nat) : (absU p m c x t).length = 8 := by simp [absU]
theorem absU_nth (p : Int) (m : List Int) (c : Nat) (x : List Int) (t : Nat) {i : Nat} (h : i < 8) : nth (absU p m c x t) i = if i < t then fadd p (nth x i) (nth m (4 * c + i)) else nth x i := by
  rw [nth_eq (by rw [absU_length]; exact h)]; simp [absU]
theorem absU_zero (p : Int) (m : List Int) (c : Nat) (x : List Int) (hl : x.length = 8) : absU p m c x 0 = x := by
  apply List.ext_getElem (by rw [absU_length, hl])
  intro i h1 h2
  simp [absU, nth_eq h2]
theorem absU_all (p : Int) (m : List Int) (c : Nat) (x : List Int) : absU p m c x 4 = absP p m c x := rfl
theorem absU_set (p : Int) (m : List Int) (c : Nat) (x : List Int) (t : Nat) (_ht : t < 8) : (absU p m c x t).set t (fadd p (nth x t) (nth m (4 * c + t))) = absU p m c x (t + 1) := by
  apply List.ext_getElem (by simp [absU])
  intro j h1 h2
  rw [List.getElem_set]
  simp only [absU, List.getElem_map, List.getElem_range]
  by_cases e : t = j
  · subst e; rw [if_pos rfl, if_pos (by omega)]
  · rw [if_neg e]
    by_cases h : j < t
    · rw [if_pos h, if_pos (by omega)]
    · rw [if_neg h, if_neg (by omega)]
theorem els_abs {p : Int} (hp : 2 ≤ p) (m : List Int) (c : Nat) {x : List Int} (h : Els p x) (hl : x.length = 8) (t : Nat) : Els p (absU p m c x t) := fun i hi => by
  rw [absU_length] at hi
  rw [absU_nth p m c x t hi]
  by_cases h2 : i < t
  · rw [if_pos h2]; exact fadd_bd hp _ _
  · rw [if_neg h2]; exact h i (by omega)
theorem els_pad {p : Int} (hp : 2 ≤ p) (l : List Int) : Els p (padP p l) := fun i hi => by
  have hm : nth (padP p l) i ∈ padP p l := nth_mem hi
  unfold padP at hm ⊢
  rw [List.mem_append, List.mem_cons] at hm
  rcases hm with hm | hm | hm
  · obtain ⟨y, _, hy⟩ := List.mem_map.1 hm
    rw [← hy]; exact fof_bd hp _
  · rw [hm]; omega
  · have := List.eq_of_mem_replicate hm
    rw [this]; omega
theorem els_hash {p : Int} (hp : 2 ≤ p) (k : Nat) (m : List Int) (c : Nat) : Els p (hashS p k m c) := by
  cases c with
  | zero => intro i hi; rw [hashS, List.length_replicate] at hi; have h0 : nth (List.replicate 8 (0 : Int)) i = 0 := List.eq_of_mem_replicate (nth_mem (by rw [List.length_replicate]; exact hi)); rw [hashS, h0]; omega
  | succ c => exact els_perm hp k (x := absP p m c (hashS p k m c)) (by rw [← absU_all]; intro i hi; rw [absU_length] at hi; rw [absU_nth _ _ _ _ _ hi]; by_cases h : i < 4; rw [if_pos h]; exact fadd_bd hp _ _; rw [if_neg h]; exact els_hash hp k m c i (by rw [hashS_length]; exact hi)) 8
theorem NewIn.upTo {W : World} {v : Value} (h : NewIn W v) (k : Nat) : NewIn W (upTo v k) := fun q hq => h q (by
  unfold Go.Att.upTo at hq
  split at hq
  · rename_i a _ _
    unfold sliced at hq
    cases a with
    | none => simp [Value.ownBlock] at hq
    | some a =>
      split at hq
      · exact hq
      · rw [← hq]; simp only [Option.map_some, Value.ownBlock, Addr.add]; simp
  · exact hq)
theorem ints_lt9 {w : World} {v : Value} {l : List Int} (h : Ints w v l) (h0 : 0 < l.length) : ∀ k, v.ownBlock = some k → k < w.heap.size := by
  obtain ⟨ao, cap, rfl, h2, h3, h4, h5⟩ := h
  obtain ⟨b, off, rfl, hc⟩ := h5 0 (by simpa using h0)
  intro k hk
  have hb : b = k := by
    simp only [Value.ownBlock] at hk
    first | exact Option.some.inj hk | (split at hk <;> simp_all)
  have h6 : b < w.heap.size := World.block_lt_of_cell? w _ hc
  omega
end Go.Att
namespace Go.Proofs.YtfepefbehgbjpaaGreatDoor
open Go.RowKit Go.Att
set_option maxRecDepth 100000 in
set_option maxHeartbeats 8000000 in
theorem rhash_any (p : Int) (k : Nat) (v : Value) (l : List Int) (w : World) (h23 : 23 ≤ p) (hp2 : p ≤ 2147483647) (hk : IsPw p k) (hv : Ints w v l) (hs : l.length ≤ 1048576000) :
    Calls Tryz.prog 97 #[.int .i64 p, v] w (Gives w fun u w' => Ints w' u (hashP p k l) ∧ NewIn w u) := by
  have hp : 2 ≤ p := by omega
  have HV := Lib.hid hv; have HK := Lib.hid hk
  clear hv hk
  have hpl := padP_length p l
  have hp4 := padP_four p l
  have hpn : padN l.length ≤ 3 := by unfold padN; omega
  have HEM := Lib.hid (els_pad hp l)
  obtain ⟨C, hC⟩ : ∃ C, (padP p l).length = 4 * C := ⟨(padP p l).length / 4, by omega⟩
  have hC2 : (4 : Int) * C ≤ 1048577000 := by omega
  have HHP := Lib.hid (show hashP p k l = (hashS p k (padP p l) C).take 4 from by unfold hashP; rw [hC, Nat.mul_div_cancel_left _ (by omega)])
  go_enter Tryz.func97, Tryz.ntmps97
  go_wp2_with (first | (refine wpList_mkn rfl _ _ 22 rfl slInts (Ext.refl w) rfl rfl (by omega) (by omega) (by omega) ?_; intro v1 w1 HO1 HX1 _) | (go_at_call 137; refine (rpad_any p v l _ hp hp2 (HV.out.ext HX1) (by omega)).mono ?_; rintro e w2 ⟨v2, rfl, hx2, hm2, hn2⟩))
  have HO2 := Lib.hid (show w2.ownsRow w.heap.size 3 1 v1 8 ((hashS p k (padP p l) 0).map (Value.int .i64)) from by
    have e1 : (madeCells (Value.cells (.int .i64 0)) (8 * 1)).toList = (List.replicate 8 (0 : Int)).map (Value.int .i64) := by simp [madeCells, Value.cells, Nat.mod_one, List.map_const']
    rw [hashS, ← e1]; exact own_ext HO1 hx2)
  have HX2 := Lib.hid (HX1.trans hx2)
  have HM2 := Lib.hid hm2
  have HN2 := Lib.hid (show ∀ q, v2.ownBlock = some q → some q ≠ v1.ownBlock from fun q hq hc => by
    have h1 := hn2 q hq
    have h2 := (HO1.lt q hc.symm).2
    omega)
  clear HO1 HX1 hx2 hm2 hn2 hpl hp4 hpn
  generalize padP p l = m at *
  have HCM := Lib.hid hC
  have hml := HM2.out.run_len (P := Tryz.prog) slInts
  rw [hC] at hml
  clear hC
  go_loopw [5, 7, 8] (fun x5 x7 _ wr => ∃ c : Nat, c ≤ C ∧ x7 = .int .i64 ((4 * c : Nat) : Int) ∧ Hid (wr.ownsRow w.heap.size 3 1 x5 8 ((hashS p k m c).map (Value.int .i64))) ∧ Hid (Ext w wr) ∧ Hid (Ints wr v2 m) ∧ Hid (∀ q, v2.ownBlock = some q → some q ≠ x5.ownBlock)) (fun _ x7 _ _ => 4 * C - (intOf x7).toNat)
  case atStart => exact ⟨0, by omega, rfl, HO2, HX2, HM2, HN2⟩
  case round =>
    clear HO2 HX2 HM2 HN2
    obtain ⟨c, hc, rfl, HO, HX, HM, HN⟩ := hrel
    by_cases hcC : c < C
    · have HEX := Lib.hid (els_hash hp k m c)
      have HLX := Lib.hid (hashS_length p k m c)
      have HSX := Lib.hid (show hashS p k m (c + 1) = permP p k (absP p m c (hashS p k m c)) 8 from rfl)
      generalize hashS p k m c = X at *
      obtain ⟨a5, c5, hsh⟩ := own_shape HO.out
      subst hsh
      have HO0 := Lib.hid (show wr.ownsRow w.heap.size 3 1 (.slice a5 8 c5) 8 ((absU p m c X 0).map (Value.int .i64)) from by rw [absU_zero p m c X HLX.out]; exact HO.out)
      clear HO
      go_wp2_with fail
      generalize wr = w9 at *
      go_loopw [8] (fun x8 wq => ∃ t : Nat, t ≤ 4 ∧ x8 = .int .i64 t ∧ Hid (wq.ownsRow w.heap.size 3 1 (.slice a5 8 c5) 8 ((absU p m c X t).map (Value.int .i64))) ∧ Hid (Ext w wq) ∧ Hid (Ints wq v2 m)) (fun x8 _ => 4 - (intOf x8).toNat)
      case atStart => exact ⟨0, by omega, rfl, HO0, HX, HM⟩
      case round =>
        clear HO0 HX HM
        obtain ⟨t, ht, rfl, HO, HX, HM⟩ := hrel
        by_cases ht4 : t < 4
        · have hI := Ints.of_own HO.out
          have hix := hI.run_index (P := Tryz.prog) slInts t (by rw [absU_length]; omega)
          have hct := hI.cell t (by rw [absU_length]; omega)
          rw [absU_nth p m c X t (by omega), if_neg (by omega)] at hct
          have hiy := HM.out.run_index (P := Tryz.prog) slInts (4 * c + t) (by rw [HCM.out]; omega)
          rw [show ((4 * c + t : Nat) : Int) = 4 * (c : Int) + t from by omega] at hiy
          have hcy := HM.out.cell (4 * c + t) (by rw [HCM.out]; omega)
          have hb1 := HEX.out t (by rw [HLX.out]; omega)
          have hb2 := HEM.out (4 * c + t) (by rw [HCM.out]; omega)
          have HST := Lib.hid (absU_set p m c X t (by omega))
          have HSM := Lib.hid (fun v => set_map (absU p m c X t) t (by rw [absU_length]; omega) v)
          generalize nth X t = xt at *
          generalize nth m (4 * c + t) = mt at *
          have hcast : ((4 * c : Nat) : Int) + (t : Int) = ((4 * c + t : Nat) : Int) := by omega
          have hw0 : IntKind.i64.wrap (((4 * c : Nat) : Int) + (t : Int)) = ((4 * c + t : Nat) : Int) := by rw [hcast]; exact IntWalk.i64_in _ (by omega)
          have hw1 : IntKind.i64.wrap (xt + mt) = xt + mt := IntWalk.i64_in _ (by omega)
          have hq : (xt + mt).tmod p = (xt + mt) % p := Int.tmod_eq_emod_of_nonneg (by omega)
          have ht8 : t < 8 := by omega
          clear hI
          go_wp2_with fail
          refine wp_region_quiet_tail 16 (by kernel_rfl) (by kernel_rfl) ?_
          simp only [List.take_succ_cons, List.take_zero, List.drop_succ_cons, List.drop_zero]
          repeat (go_big_quiet_step (fail))
          refine wpQuiet_nil ?_
          rintro _ ⟨nq, rfl⟩
          have HO4 := own_ext HO.out (Ext.drewN wr nq)
          have HX4 := HX.out.trans (Ext.drewN wr nq)
          have HM4 := HM.out.ext (Ext.drewN wr nq)
          clear hix hct hiy hcy HO HX HM
          go_wp2_with (refine wpList_set rfl rfl _ _ 3 rfl slInts HO4 t ht8 rfl (.int .i64 ((xt + mt) % p)) rfl rfl (by intro u hu; simp [Value.cells] at hu; subst hu; rfl) ?_; intro w7 HO7 HG7)
          have HX7 := Lib.hid (Ext.own_grown HX4 HO4 HG7)
          have HM7 := Lib.hid (HM4.grown HG7 HN.out)
          have HO7' := Lib.hid (show w7.ownsRow w.heap.size 3 1 (.slice a5 8 c5) 8 ((absU p m c X (t + 1)).map (Value.int .i64)) from by rw [HSM.out] at HO7; rw [← HST.out]; exact HO7)
          go_roundw
          case rel => exact ⟨t + 1, by omega, by go_num, HO7', HX7, HM7⟩
          case measure => simp [intOf]; omega
        · obtain rfl : t = 4 := by omega
          have HI := Lib.hid (show Ints wr (.slice a5 8 c5) (absP p m c X) from by have := Ints.of_own HO.out; rwa [absU_all] at this)
          have HEA := Lib.hid (els_fof (show Els p (absP p m c X) from by rw [← absU_all]; exact els_abs hp m c HEX.out HLX.out 4))
          have HVL := Lib.hid (ints_lt9 HM.out (by rw [HCM.out]; omega))
          go_wp2_with (go_at_call 138; refine (rpermute_any p k _ (absP p m c X) _ h23 hp2 HK.out HI.out (absP_length _ _ _ _)).mono ?_; rw [HEA.out]; rintro e w8 ⟨v8, rfl, hx8, ho8⟩; have HX8 := Lib.hid (HX.out.trans hx8); have HM8 := Lib.hid (HM.out.ext hx8); have HN8 := Lib.hid (show ∀ q, v2.ownBlock = some q → some q ≠ v8.ownBlock from fun q hq hc => by { have h1 := HVL.out q hq; have h2 := (ho8.lt q hc.symm).1; omega }); have HO8 := Lib.hid (own_base ho8 HX.out.size); clear hx8 ho8)
          go_roundw
          case rel => exact ⟨c + 1, by omega, by go_num, by rw [HSX.out]; exact HO8, HX8, HM8, HN8⟩
          case measure => simp [intOf]; omega
    · obtain rfl : c = C := by omega
      have HI := Lib.hid (Ints.of_own HO.out)
      have HNW := Lib.hid (NewIn.of_own HO.out)
      have htk := HI.out.run_take (P := Tryz.prog) slInts 4 (by rw [hashS_length]; omega)
      rw [show ((4 : Nat) : Int) = 4 from rfl] at htk
      go_wp2_with fail
      go_ret
      exact .mk _ rfl HX.out ⟨by rw [HHP.out]; exact HI.out.take 4 (by rw [hashS_length]; omega), HNW.out.upTo 4⟩
end Go.Proofs.YtfepefbehgbjpaaGreatDoor
end
section
namespace Go.Att
open Go.RowKit
theorem flat_take (L : List (List Int)) (i : Nat) (h : i < L.length) : (L.take (i + 1)).flatten = (L.take i).flatten ++ nthL L i := by
  rw [List.take_succ_eq_append_getElem h, List.flatten_append, nthL_eq h]; simp
theorem flat_le (L : List (List Int)) (i : Nat) : (L.take i).flatten.length ≤ L.flatten.length := by
  have : L.flatten = (L.take i).flatten ++ (L.drop i).flatten := by rw [← List.flatten_append, List.take_append_drop]
  rw [this, List.length_append]; omega
end Go.Att
namespace Go.Proofs.YtfepefbehgbjpaaGreatDoor
open Go.RowKit Go.Att
theorem slRowsC : SlT Tryz.prog 29 22 1 24 (.slice none 0 0) := SlT.mk' Tryz.underlying29 (by kernel_rfl) (by decide)
theorem run_zeros (n : Nat) (h0 : 0 < n) (hn : n ≤ 4294967296) (ty : TypeId) (w : World) : ∃ cap w', (Builtin.append_ #[22, 3] ty #[.slice none 0 0, .int .i64 n]).run Tryz.prog w = .ok (.slice (some ⟨w.heap.size, 0, none⟩) n cap) w' ∧ Ext w w' ∧ w'.ownsRow w.heap.size 3 1 (.slice (some ⟨w.heap.size, 0, none⟩) 0 cap) 0 [] ∧ n ≤ cap := by
  obtain ⟨i, hi, hiz, his, hib⟩ := slInts.inf
  have hr := Lib.run_append_nil_zeros (P := Tryz.prog) w 22 3 ty 3 i (.int .i64 0) .i64 .i64 slInts.und Tryz.underlying3 hi hiz n h0 (by omega) (by omega) (by rw [hib]; omega)
  have hge := grownCap_ge w n 0 3
  have hle := grownCap_le_maxLen w n 0 3 (by unfold maxLen; omega)
  refine ⟨_, _, hr, (Ext.drew w).trans (Ext.alloc _ _), ⟨by simp, .inr ⟨w.heap.size, grownCap w n 0 3, _, rfl, Nat.le_refl _, heap_alloc_new w.drew _, Nat.zero_le _, hle, ?_, by simp⟩⟩, hge⟩
  rw [Array.size_append, size_zeroCells, size_zeroCells]
  simp [Value.cells]; omega
set_option maxRecDepth 100000 in
set_option maxHeartbeats 2000000 in
theorem grow_any (n : Nat) (hn : n ≤ 4294967296) (w : World) : Calls Tryz.prog 121 #[.slice none 0 0, .int .i64 n] w (Gives w fun u w' => w'.ownsRow w.heap.size 3 1 u 0 []) := by
  have h1 : ¬ (n : Int) < 0 := by omega
  have hcap : ∀ ty w', (Builtin.cap_ #[22] ty #[.slice none 0 0]).run Tryz.prog w' = .ok (.int .i64 0) w' := fun ty w' => by kernel_rfl
  by_cases h0 : n = 0
  · subst h0
    go_enter Tryz.func121, Tryz.ntmps121
    go_wp2_with fail
    go_ret
    exact .mk _ rfl (Ext.refl _) (World.ownsRow_nil _ _ _ _)
  · have hpos : (0 : Int) < n := by omega
    obtain ⟨cap, w1, hr, hx, ho, hcn⟩ := run_zeros n (by omega) hn 22 w
    have HR := Lib.hid hr; have HX := Lib.hid hx; have HO := Lib.hid ho
    clear hr hx ho
    go_enter Tryz.func121, Tryz.ntmps121
    go_wp2_with (at_builtin; refine Lib.wpList_append_run _ rfl _ _ _ _ rfl _ _ rfl rfl _ _ HR.out ?_)
    go_ret
    exact .mk _ rfl HX.out HO.out
set_option maxRecDepth 100000 in
set_option maxHeartbeats 4000000 in
theorem concat_any {w : World} {v : Value} {L : List (List Int)} {R : Nat → Value} (h : RwsAt w v L R) (hb : L.flatten.length ≤ 4294967000) (hc : L.length ≤ 4294967000) :
    Calls Tryz.prog 72 #[v] w (Gives w fun u w' => w'.ownsRow w.heap.size 3 1 u L.flatten.length (L.flatten.map (Value.int .i64))) := by
  have hll := h.run_len (P := Tryz.prog) slRowsC
  have HR := Lib.hid h
  obtain ⟨N, hN⟩ : ∃ N, L.length = N := ⟨_, rfl⟩
  have HN := Lib.hid hN
  have HB := Lib.hid hb
  rw [hN] at hll hc
  clear h hN hb
  go_enter Tryz.func72, Tryz.ntmps72
  go_wp2_with fail
  go_loopw [3, 5, 11] (fun x3 _ x11 wr => ∃ i : Nat, i ≤ N ∧ x11 = .int .i64 i ∧ x3 = .int .i64 ((L.take i).flatten.length : Nat) ∧ w = wr) (fun _ _ x11 _ => N - (intOf x11).toNat)
  case atStart => exact ⟨0, Nat.zero_le _, rfl, by simp, rfl⟩
  case round =>
    obtain ⟨i, hi, rfl, rfl, rfl⟩ := hrel
    by_cases hin : i < N
    · have hix := HR.out.run_index (P := Tryz.prog) slRowsC i (by rw [HN.out]; exact hin)
      have hcc := HR.out.cell i (by rw [HN.out]; exact hin)
      have hlr := (HR.out.row i (by rw [HN.out]; exact hin)).run_len (P := Tryz.prog) slInts
      have hft := flat_take L i (by rw [HN.out]; exact hin)
      have hfl := flat_le L (i + 1)
      have hbb := HB.out
      rw [hft, List.length_append] at hfl
      have HFT := Lib.hid (show (L.take (i + 1)).flatten.length = (L.take i).flatten.length + (nthL L i).length from by rw [hft, List.length_append])
      generalize (L.take i).flatten.length = s at *
      generalize (nthL L i).length = t at *
      generalize L.flatten.length = u at *
      generalize R i = ri at *
      clear hft
      go_wp2_with fail
      go_roundw
      case rel => exact ⟨i + 1, by omega, by go_num, by rw [HFT.out]; go_num, trivial⟩
      case measure => simp [intOf]; omega
    · obtain rfl : i = N := by omega
      have htk : (L.take i).flatten.length = L.flatten.length := by rw [List.take_of_length_le (by rw [HN.out]; exact Nat.le_refl _)]
      rw [htk]
      have hbb := HB.out
      clear htk
      obtain ⟨u, hu⟩ : ∃ u, L.flatten.length = u := ⟨_, rfl⟩
      have HU := Lib.hid hu
      rw [hu] at hbb ⊢
      clear hu
      go_wp2_with (go_at_call 121; refine (grow_any u (by omega) _).mono ?_; rintro e w1 ⟨v1, rfl, hx1, ho1⟩)
      have HX1 := Lib.hid hx1; have HO1 := Lib.hid ho1
      clear hx1 ho1
      go_loopw [6, 8, 27] (fun x6 _ x27 wr => ∃ j : Nat, j ≤ i ∧ x27 = .int .i64 j ∧ wr.ownsRow w.heap.size 3 1 x6 (L.take j).flatten.length ((L.take j).flatten.map (Value.int .i64)) ∧ Ext w wr) (fun _ _ x27 _ => i - (intOf x27).toNat)
      case atStart => exact ⟨0, Nat.zero_le _, rfl, by simpa using HO1.out, HX1.out⟩
      case round =>
        clear HX1 HO1
        obtain ⟨j, hj, rfl, HO, HX⟩ := hrel
        by_cases hjn : j < i
        · have hix := HR.out.run_index (P := Tryz.prog) slRowsC j (by rw [HN.out]; exact hjn)
          have hcc := HX.cell (HR.out.cell j (by rw [HN.out]; exact hjn))
          have hrj := HR.out.row j (by rw [HN.out]; exact hjn)
          have HRJ := Lib.hid (hrj.ext HX)
          have hft := flat_take L j (by rw [HN.out]; exact hjn)
          have hfl := flat_le L (j + 1)
          rw [hft, List.length_append, HU.out] at hfl
          have HFT := Lib.hid hft
          clear hrj hft
          generalize R j = rj at *
          go_wp2_with (at_builtin; refine wpList_appSl rfl _ _ 22 rfl slInts rfl HX HO rfl HRJ.out (by intro u hu; simp only [List.mem_map] at hu; obtain ⟨_, _, rfl⟩ := hu; rfl) rfl (by omega) (by omega) ?_; intro v2 w2 HO2 HX2 _)
          go_roundw
          case rel => exact ⟨j + 1, by omega, by go_num, by rw [HFT.out, List.length_append, List.map_append]; exact HO2, HX2⟩
          case measure => simp [intOf]; omega
        · obtain rfl : j = i := by omega
          rw [List.take_of_length_le (by rw [HN.out]; exact Nat.le_refl _), HU.out] at HO
          go_wp2_with fail
          go_ret
          exact .mk _ rfl HX (by rw [HU.out]; exact HO)
end Go.Proofs.YtfepefbehgbjpaaGreatDoor
end
section
namespace Go.Att
open Go.RowKit
structure ChD (w : World) (b : Nat) (p : Int) (D : List Int) : Prop where
  c0 : w.cell? ⟨b, 0, none⟩ = some (.int .i64 p)
  c1 : ∃ v, w.cell? ⟨b, 1, none⟩ = some v ∧ Ints w v D
  f1 : w.frozen? ⟨b, 1, none⟩ = false
theorem ChD.ext {w w' : World} {b : Nat} {p : Int} {D : List Int} (h : ChD w b p D) (hx : Ext w w') : ChD w' b p D := by
  obtain ⟨v, h1, h2⟩ := h.c1
  exact ⟨hx.cell h.c0, ⟨v, hx.cell h1, h2.ext hx⟩, by rw [World.frozen?_of_block (hx.below.block b (World.block_lt_of_cell? w _ h.c0))]; exact h.f1⟩
def DigNew (w w' : World) (b : Nat) : Prop := ∀ v, w'.cell? ⟨b, 1, none⟩ = some v → NewIn w v
theorem DigNew.mono {w w0 w' : World} {b : Nat} (h : DigNew w w' b) (hx : w0.heap.size ≤ w.heap.size) : DigNew w0 w' b := fun v hv => (h v hv).mono hx
theorem DigNew.grown {w0 w w' : World} {b : Nat} {q : Option Nat} (h : DigNew w0 w b) (hlt : b < w.heap.size) (hg : w.grownBy w' q) (hb : some b ≠ q) : DigNew w0 w' b := fun v hv => by
  rw [World.cell?_of_block (a := ⟨b, 1, none⟩) (hg.block b hlt hb)] at hv; exact h v hv
theorem DigNew.ext {w0 w w' : World} {b : Nat} (h : DigNew w0 w b) (hlt : b < w.heap.size) (hx : Ext w w') : DigNew w0 w' b := h.grown hlt (hx.grownBy none) (by simp)
theorem ChD.lt {w : World} {b : Nat} {p : Int} {D : List Int} (h : ChD w b p D) : b < w.heap.size := World.block_lt_of_cell? w _ h.c0
theorem ChD.grown {w w' : World} {b : Nat} {q : Option Nat} {p : Int} {D : List Int} (h : ChD w b p D) (hg : w.grownBy w' q) (hb : some b ≠ q) (hn : ∀ v, w.cell? ⟨b, 1, none⟩ = some v → ∀ k, v.ownBlock = some k → some k ≠ q) : ChD w' b p D := by
  obtain ⟨v, h1, h2⟩ := h.c1
  refine ⟨hg.cell h.c0 hb, ⟨v, hg.cell h1 hb, h2.grown hg fun k hk e => hn v h1 k hk e⟩, ?_⟩
  rw [World.frozen?_of_block (hg.block b h.lt hb)]; exact h.f1
theorem grown_low {w W W' : World} {q : Nat} {b : Option Nat} (h : w.grownBy W (some q)) (hg : W.grownBy W' b) (hb : ∀ k, b = some k → w.heap.size ≤ k) : w.grownBy W' (some q) :=
  ⟨hg.os.trans h.os, hg.tape.trans h.tape, hg.output.trans h.output, Nat.le_trans h.size hg.size, fun k hk hne => by
    rw [hg.block k (Nat.lt_of_lt_of_le hk h.size) (fun e => by have := hb k e.symm; omega)]; exact h.block k hk hne⟩
theorem own_lit1 (w : World) (x : Value) (e : Nat) : (w.alloc (.cells #[x] e)).ownsRow w.heap.size e 1 (.slice (some ⟨w.heap.size, 0, none⟩) 1 1) 1 [x] :=
  ⟨by simp, .inr ⟨w.heap.size, 1, #[x], rfl, Nat.le_refl _, heap_alloc_new w _, Nat.le_refl _, by unfold maxLen; omega, rfl, by simp⟩⟩
theorem ints_setCell {w : World} {v : Value} {l : List Int} {a : Addr} {u : Value} (h : Ints w v l) (hu : w.cell? a = some u) (hn : ∀ n, u ≠ Value.int .i64 n) (x : Value) : Ints (w.setCell a x) v l := by
  obtain ⟨ao, cap, rfl, h2, h3, h4, h5⟩ := h
  refine ⟨ao, cap, rfl, h2, h3, h4, fun i hi => ?_⟩
  obtain ⟨b, off, e, hc⟩ := h5 i hi
  refine ⟨b, off, e, ?_⟩
  rw [World.cell?_setCell_other _ _ _ _ (fun he => ?_)]
  · exact hc
  · rw [he] at hu
    rw [hu] at hc
    exact hn _ ((Option.some.inj hc).trans (by rw [List.getElem_map]))
def stepP (p : Int) (k : Nat) (kind : Int) (D l : List Int) : List Int := hashP p k (kind :: D ++ l)
theorem stepP_length (p : Int) (k : Nat) (kind : Int) (D l : List Int) : (stepP p k kind D l).length = 4 := hashP_length _ _ _
end Go.Att
namespace Go.Proofs.YtfepefbehgbjpaaGreatDoor
open Go.RowKit Go.Att
set_option maxRecDepth 100000 in
set_option maxHeartbeats 4000000 in
theorem rstep_any (p : Int) (k : Nat) (kind : Int) (v : Value) (l D : List Int) (b : Nat) (w : World) (h23 : 23 ≤ p) (hp2 : p ≤ 2147483647) (hk : IsPw p k) (hc : ChD w b p D) (hv : Ints w v l) (hs : D.length + l.length ≤ 1048570000) :
    Calls Tryz.prog 44 #[.pointer (some ⟨b, 0, none⟩), .int .i64 kind, v] w fun e w' => e = .returned (.tuple #[]) ∧ w.grownBy w' (some b) ∧ ChD w' b p (stepP p k kind D l) ∧ DigNew w w' b := by
  obtain ⟨vd, c1, hd⟩ := hc.c1
  have c0 := hc.c0
  have f1 := hc.f1
  have hlt : b < w.heap.size := World.block_lt_of_cell? w _ c0
  have hd4 : ∀ n, vd ≠ Value.int .i64 n := by obtain ⟨_, _, h⟩ := hd.shape; subst h; intro n hn; cases hn
  have HK := Lib.hid hk
  have HM := Lib.hid (Ext.alloc w (Obj.cells #[.int .i64 kind] 3))
  have HD := Lib.hid (hd.ext HM.out); have HV := Lib.hid hv
  have HO := Lib.hid (own_lit1 w (.int .i64 kind) 3)
  have d1 := HM.out.cell c1
  have d0 := HM.out.cell c0
  have hu1 : ∀ m : List Int, ∀ u ∈ m.map (Value.int .i64), u.oneCell' = true := by intro m u hu; simp only [List.mem_map] at hu; obtain ⟨_, _, rfl⟩ := hu; rfl
  clear hc hv hk hd
  go_enter Tryz.func44, Tryz.ntmps44
  go_wp2_with (first | (at_builtin; refine wpList_appSl rfl _ _ 22 rfl slInts rfl HM.out HO.out rfl HD.out (hu1 _) rfl (by omega) (by omega) ?_; intro v1 w1 HO1 HX1 _; have HV1 := HV.out.ext HX1) | (at_builtin; refine wpList_appSl rfl _ _ 22 rfl slInts rfl HX1 HO1 rfl HV1 (hu1 _) rfl (by omega) (by omega) ?_; intro v2 w2 HO2 HX2 _; have e0 := HX2.cell c0) | (go_at_call 97; refine (rhash_any p k _ (kind :: D ++ l) _ h23 hp2 HK.out (Ints.of_own (B := w.heap.size) (e := 3) (by simpa using HO2)) (by simp; omega)).mono ?_; rintro e w3 ⟨v3, rfl, hx3, hi3, hn3⟩; have HN3 := Lib.hid (hn3.mono HX2.size); clear hn3; obtain ⟨a3, c3, rfl⟩ := hi3.shape; have e3 := (HX2.trans hx3).cell c1; have HX3 := HX2.trans hx3; have f3 : w3.frozen? ⟨b, 1, none⟩ = false := by rw [World.frozen?_of_block (HX3.below.block b hlt)]; exact f1))
  refine bodyPost_end (results_none rfl _ _ _) rfl ⟨rfl, (HX3.grownBy _).trans (setCell_grown _ _ _ _), ?_⟩
  have hi4 := ints_setCell hi3 e3 hd4 (.slice a3 (hashP p k (kind :: D ++ l)).length c3)
  refine ⟨⟨?_, ⟨_, World.cell?_setCell_same _ _ _ e3, hi4⟩, ?_⟩, fun v hv => ?_⟩
  · rw [World.cell?_setCell_other _ _ _ _ (by simp)]; exact HX3.cell c0
  · rw [World.frozen?_setCell]; exact f3
  · rw [World.cell?_setCell_same _ _ _ e3] at hv
    rw [← Option.some.inj hv]; exact HN3.out
end Go.Proofs.YtfepefbehgbjpaaGreatDoor
end
section
namespace Go.Proofs.YtfepefbehgbjpaaGreatDoor
open Go.RowKit Go.Att
set_option maxRecDepth 100000 in
set_option maxHeartbeats 4000000 in
theorem rbegin_any (p : Int) (k : Nat) (v : Value) (l : List Int) (w : World) (h23 : 23 ≤ p) (hp2 : p ≤ 2147483647) (hk : IsPw p k) (hv : Ints w v l) (hs : l.length ≤ 1048570000) :
    Calls Tryz.prog 12 #[.int .i64 p, v] w (Gives w fun u w' => u = .pointer (some ⟨w.heap.size, 0, none⟩) ∧ ChD w' w.heap.size p (stepP p k 2 [] l) ∧ DigNew w w' w.heap.size) := by
  have HK := Lib.hid hk; have HV := Lib.hid hv
  clear hk hv
  go_enter Tryz.func12, Tryz.ntmps12
  go_wp2_with (go_at_call 44; refine (rstep_any p k 2 v l [] w.heap.size _ h23 hp2 HK.out ⟨by simp, ⟨.slice none 0 0, by simp, Ints.nil _⟩, by simp⟩ (HV.out.ext (Ext.alloc w _)) (by simpa using hs)).mono ?_; rintro e w1 ⟨rfl, hx1, hc1, hd1⟩)
  go_ret
  exact .mk _ rfl (Below.grown (Ext.alloc w _).below hx1 (Ext.alloc w _).size (fun q e => by cases e; exact Nat.le_refl _)) ⟨rfl, hc1, hd1.mono (Ext.alloc w _).size⟩
set_option maxRecDepth 100000 in
set_option maxHeartbeats 4000000 in
theorem rdraw_any (p : Int) (k : Nat) (D : List Int) (b : Nat) (w : World) (h23 : 23 ≤ p) (hp2 : p ≤ 2147483647) (hk : IsPw p k) (hc : ChD w b p D) (hs : D.length ≤ 1048570000) :
    Calls Tryz.prog 48 #[.pointer (some ⟨b, 0, none⟩)] w fun e w' => e = .returned (.int .i64 (nth (stepP p k 4 D []) 0)) ∧ w.grownBy w' (some b) ∧ ChD w' b p (stepP p k 4 D []) ∧ DigNew w w' b := by
  have HK := Lib.hid hk; have HC := Lib.hid hc
  clear hk hc
  go_enter Tryz.func48, Tryz.ntmps48
  go_wp2_with (go_at_call 44; refine (rstep_any p k 4 _ [] D b _ h23 hp2 HK.out HC.out (Ints.nil _) (by simpa using hs)).mono ?_; rintro e w1 ⟨rfl, hx1, hc1, hd1⟩; have HDN := Lib.hid hd1; have HC1 := Lib.hid hc1; have HX1 := Lib.hid hx1; obtain ⟨v1, k1, hd1⟩ := hc1.c1; have k0 := hc1.c0; have hix := hd1.run_index (P := Tryz.prog) slInts 0 (by rw [stepP_length]; omega); have hcc := hd1.cell 0 (by rw [stepP_length]; omega); rw [show ((0 : Nat) : Int) = 0 from rfl] at hix; clear hc1 hx1 hd1)
  go_ret
  exact ⟨rfl, HX1.out, HC1.out, HDN.out⟩
end Go.Proofs.YtfepefbehgbjpaaGreatDoor
end
