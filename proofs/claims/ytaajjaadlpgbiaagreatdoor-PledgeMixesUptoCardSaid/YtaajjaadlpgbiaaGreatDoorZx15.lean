/- The document's digest: what stands behind a list: contract. The sponge, the program's side: what stands behind a list; parts of a slice: contracts. The document's digest: a state is stirred; what stands behind a list; the digest: contracts. Lists made one, the library's: slices.Grow at the nil slice, slices.Concat: contracts. -/
import Derived.Test.YtaajjaadlpgbiaaGreatDoorZx14
import Derived.Test.YtaajjaadlpgbiaaGreatDoorV2
import Derived.Test.YtaajjaadlpgbiaaGreatDoorZx10
import Derived.Lib.AppendZeros
section
namespace Go.Att
open Go.RowKit
/-- What stands behind a list, so far. -/
def padU (p : Int) (l : List Int) (i : Nat) : List Int := l.map (fof p) ++ 1 :: List.replicate i 0
theorem padU_length (p : Int) (l : List Int) (i : Nat) : (padU p l i).length = l.length + 1 + i := by simp [padU]; omega
theorem padU_snoc (p : Int) (l : List Int) (i : Nat) : padU p l (i + 1) = padU p l i ++ [0] := by simp [padU, List.replicate_succ']
theorem padU_all (p : Int) (l : List Int) : padU p l (padN l.length) = padP p l := rfl
theorem padN_end {n i : Nat} (h : i ≤ padN n) : (n + 1 + i) % 4 = 0 ↔ i = padN n := by unfold padN at *; omega
end Go.Att
namespace Go.Proofs.YtaajjaadlpgbiaaGreatDoor
open Go.RowKit Go.Att
set_option maxRecDepth 100000 in
set_option maxHeartbeats 4000000 in
theorem rpad_any (p : Int) (v : Value) (l : List Int) (w : World) (hp : 2 ≤ p) (hp2 : p ≤ 2147483647) (hv : Ints w v l) (hs : l.length ≤ 4294967000) :
    Calls Tryz.prog 139 #[.int .i64 p, v] w (Gives w fun u w' => Ints w' u (padP p l) ∧ NewIn w u) := by
  have HV := Lib.hid hv
  clear hv
  go_enter Tryz.func139, Tryz.ntmps139
  go_wp2_with (first | (go_at_call 156; refine (rallO_any p v l w HV.out hp hp2 (by omega)).mono ?_; rintro e w1 ⟨v1, rfl, hx1, ho1⟩) | (at_builtin; refine wpList_app1 rfl _ _ 23 rfl slInts rfl hx1 ho1 rfl _ rfl rfl (by omega) (by omega) ?_; intro v2 w2 HO2 HX2 _))
  have HO2' := Lib.hid (show w2.ownsRow w.heap.size 3 1 v2 (l.length + 1 + 0) ((padU p l 0).map (Value.int .i64)) from by simpa [padU] using HO2)
  have HX2' := Lib.hid HX2
  clear HO2 HX2 ho1 hx1
  go_loopw [5] (fun x5 wr => ∃ i : Nat, i ≤ padN l.length ∧ Hid (wr.ownsRow w.heap.size 3 1 x5 (l.length + 1 + i) ((padU p l i).map (Value.int .i64))) ∧ Hid (Ext w wr)) (fun x5 _ => l.length + 1 + padN l.length - slen x5)
  case atStart => exact ⟨0, Nat.zero_le _, HO2', HX2'⟩
  case round =>
    clear HO2' HX2'
    obtain ⟨i, hi, HO, HX⟩ := hrel
    have hlen := (Sl.of_own HO.out (by omega)).run_len (P := Tryz.prog) slInts
    have HSL := Lib.hid (own_slen HO.out)
    have hpn : padN l.length ≤ 3 := by unfold padN; omega
    have hiff := padN_end hi
    obtain ⟨n, hn⟩ : ∃ n, l.length + 1 + i = n := ⟨_, rfl⟩
    rw [hn] at hlen hiff
    have hem : ((n : Int) % 4 != 0) = !decide (n % 4 = 0) := by
      rw [Bool.eq_iff_iff, bne_iff_ne]; simp; omega
    by_cases hd : i = padN l.length
    · have hem2 : ((n : Int) % 4 != 0) = false := by rw [hem]; simp [hiff.2 hd]
      clear hem hiff
      go_wp2_with fail
      go_ret
      exact .mk _ rfl HX.out ⟨by have := Ints.of_own HO.out; rw [hd, padU_all] at this; exact this, NewIn.of_own HO.out⟩
    · have hem2 : ((n : Int) % 4 != 0) = true := by rw [hem]; simp; exact fun h => hd (hiff.1 h)
      have HS := Lib.hid (padU_snoc p l i)
      have HOo := HO.out
      have HXo := HX.out
      have HN := Lib.hid hn
      clear hem hiff hn
      go_wp2_with (at_builtin; refine wpList_app1 rfl _ _ 23 rfl slInts rfl HXo HOo rfl _ rfl rfl (by omega) (by omega) ?_; intro v4 w4 HO4 HX4 _)
      have HS4 := Lib.hid (own_slen HO4)
      go_roundw
      case rel => exact ⟨i + 1, by omega, Lib.hid (by rw [HS.out, List.map_append]; exact HO4), Lib.hid HX4⟩
      case measure => rw [HSL.out, HS4.out]; omega
end Go.Proofs.YtaajjaadlpgbiaaGreatDoor
end
section
namespace Go.Att
open Go.RowKit
/-- A slice with nothing behind it. -/
def clpV (v : Value) (n : Nat) : Value := match v with
  | .slice a _ _ => .slice a n n
  | v => v
theorem Sl.run_clp {P : Program} {w : World} {sz n : Nat} {v : Value} {cs : List Value} (h : Sl w sz v n cs) {t e bytes : Nat} {z : Value} (ht : SlT P t e sz bytes z) (w' : World) :
    (Instr.sliceAt t v none (some (.int .i64 n)) (some (.int .i64 n))).run P w' = .ok (clpV v n) w' := by
  obtain ⟨ao, cap, rfl, h2, h3, h4, h5⟩ := h
  have hu : P.underlying t = some (.slice (P.elem t)) := by rw [ht.und, elem_of ht.und]
  have ha : ∀ a : Addr, a.add 0 = a := fun a => by unfold Addr.add; simp
  rw [run_sliceAt_slice (h := hu), run_slice_any (ht := hu)]
  simp only [elem_of ht.und, ht.run_size]
  have h3' : (n : Int) ≤ (cap : Int) := by omega
  cases ao <;> simp [Instr.sliceBounds, run_sliceBound, h3', Result.andThen, sliced, clpV, ha]
theorem Sl.clp {w : World} {sz n : Nat} {v : Value} {cs : List Value} (h : Sl w sz v n cs) : Sl w sz (clpV v n) n cs := by
  obtain ⟨ao, cap, rfl, h2, h3, h4, h5⟩ := h
  exact ⟨ao, n, rfl, h2, Nat.le_refl _, Nat.le_trans h3 h4, h5⟩
theorem clpV_block (v : Value) (n : Nat) : (clpV v n).ownBlock = v.ownBlock := by
  unfold clpV
  split
  · rename_i a _ _; cases a <;> rfl
  · rfl
theorem NewIn.clp {W : World} {v : Value} (h : NewIn W v) (n : Nat) : NewIn W (clpV v n) := fun q hq => h q (by rw [clpV_block] at hq; exact hq)
/-- A part of a slice with nothing behind it. -/
def cutV (v : Value) (i j : Nat) : Value := match v with
  | .slice a _ _ => sliced a i j j 1
  | v => v
theorem Ints.run_cut {P : Program} {w : World} {v : Value} {l : List Int} (h : Ints w v l) {t e bytes : Nat} {z : Value} (ht : SlT P t e 1 bytes z) (i j : Nat) (hij : i ≤ j) (hj : j ≤ l.length) (w' : World) :
    (Instr.sliceAt t v (some (.int .i64 i)) (some (.int .i64 j)) (some (.int .i64 j))).run P w' = .ok (cutV v i j) w' := by
  obtain ⟨ao, cap, rfl, h2, h3, h4, h5⟩ := h
  have hu : P.underlying t = some (.slice (P.elem t)) := by rw [ht.und, elem_of ht.und]
  rw [run_sliceAt_slice (h := hu), run_slice_lhm (ht := hu) (h0 := by omega) (h1 := by omega) (h2 := by omega) (h3 := by omega), elem_of ht.und, ht.run_size]
  simp [Result.andThen, cutV]
theorem Ints.cut {w : World} {v : Value} {l : List Int} (h : Ints w v l) (i j : Nat) (hij : i < j) (hj : j ≤ l.length) : Ints w (cutV v i j) ((l.drop i).take (j - i)) := by
  obtain ⟨ao, cap, rfl, h2, h3, h4, h5⟩ := h
  have hl : ((l.drop i).take (j - i)).length = j - i := by simp; omega
  obtain ⟨b, off, e1, _⟩ := h5 0 (by simp; omega)
  subst e1
  refine ⟨some ⟨b, off + i, none⟩, j - i, ?_, by simp, by omega, by omega, fun q hq => ?_⟩
  · rw [hl]
    simp only [cutV, sliced, if_neg (show ¬ j = i by omega), Option.map_some, Addr.add_lit, Nat.mul_one]
  · have hq' : q < j - i := by rw [List.length_map, hl] at hq; exact hq
    obtain ⟨b', off', e1, e2⟩ := h5 (i + q) (by simp; omega)
    injection e1 with e1; injection e1 with e1 e3
    subst e1 e3
    refine ⟨b, off + i, rfl, ?_⟩
    rw [Nat.add_assoc, e2]; simp
theorem pad_snoc (p : Int) (l : List Int) (i : Nat) (h : i < l.length) : ((l.take (i + 1)).map (fof p)).map (Value.int .i64) = ((l.take i).map (fof p)).map (Value.int .i64) ++ [.int .i64 (fof p (nth l i))] := by
  rw [List.take_succ_eq_append_getElem h, nth_eq h, List.map_append, List.map_append]; rfl
end Go.Att
namespace Go.Proofs.YtaajjaadlpgbiaaGreatDoor
open Go.RowKit Go.Att
theorem clipI_any {w : World} {v : Value} {l : List Int} (h : Ints w v l) : Calls Tryz.prog 60 #[v] w fun e w' => e = .returned (clpV v l.length) ∧ w = w' := by
  have hll := h.run_len (P := Tryz.prog) slInts
  have hcl := Sl.run_clp (P := Tryz.prog) h slInts
  go_enter Tryz.func60, Tryz.ntmps60
  go_wp2
  go_ret
  exact ⟨rfl, rfl⟩
set_option maxRecDepth 100000 in
set_option maxHeartbeats 4000000 in
theorem pad_any {w : World} {b bf : Nat} {p g : Int} {fs : List Int} (hc : w.cell? ⟨b, 0, none⟩ = some (.pointer (some ⟨bf, 0, none⟩))) (hf : Fld w (.pointer (some ⟨bf, 0, none⟩)) p g fs) (v : Value) (l : List Int) (hv : Ints w v l) (hs : l.length ≤ 4294967000) :
    Calls Tryz.prog 149 #[.pointer (some ⟨b, 0, none⟩), v] w (Gives w fun u w' => Ints w' u (padP p l) ∧ NewIn w u) := by
  have HF := Lib.hid hf
  have hll := hv.run_len (P := Tryz.prog) slInts
  have HV := Lib.hid hv
  clear hf hv
  obtain ⟨n, hn⟩ : ∃ n, l.length = n := ⟨_, rfl⟩
  have HN := Lib.hid hn
  rw [hn] at hs hll
  clear hn
  go_enter Tryz.func149, Tryz.ntmps149
  go_wp2_with (refine wpList_mk0 rfl _ _ 23 rfl slInts (Ext.refl w) rfl rfl (by omega) (by omega) (by omega) ?_; intro v1 w1 HO HX _)
  go_loopw [5, 7, 14] (fun x5 _ x14 wr => ∃ i : Nat, i ≤ n ∧ x14 = .int .i64 i ∧ wr.ownsRow w.heap.size 3 1 x5 i (((l.take i).map (fof p)).map (Value.int .i64)) ∧ Ext w wr) (fun _ _ x14 _ => n - (intOf x14).toNat)
  case atStart => exact ⟨0, Nat.zero_le _, rfl, by simpa using HO, HX⟩
  case round =>
    obtain ⟨i, hi, rfl, HO1, HX1⟩ := hrel
    by_cases hin : i < n
    · have hix := HV.out.run_index (P := Tryz.prog) slInts i (by rw [HN.out]; exact hin)
      have hcc := (HV.out.ext HX1).cell i (by rw [HN.out]; exact hin)
      have hc1 := HX1.cell hc
      have ST := Lib.hid (pad_snoc p l i (by rw [HN.out]; exact hin))
      go_wp2_with (first | (go_at_call 66; refine (of_any (HF.out.ext HX1) _).mono ?_; rintro e w3 hrd; obtain ⟨rfl, hx3⟩ := hrd.ext; clear hrd; replace HO1 := own_ext HO1 hx3; replace hx3 := HX1.trans hx3) | (at_builtin; refine wpList_appNw rfl _ _ 23 rfl slInts rfl hx3.size HO1 rfl _ rfl (by intro u hu; simp at hu; subst hu; rfl) rfl (by omega) (by omega) ?_; intro v7 w7 HO7 HG7 _))
      go_roundw
      case rel => exact ⟨i + 1, by omega, by go_num, by rw [ST.out]; exact HO7, Ext.own_grown hx3 HO1 HG7⟩
      case measure => simp [intOf]; omega
    · obtain rfl : i = n := by omega
      have HO1' := Lib.hid HO1; have HX1' := Lib.hid HX1
      clear HO1 HX1 HO HX
      go_wp2_with (at_builtin; refine wpList_app1 rfl _ _ 23 rfl slInts rfl HX1'.out HO1'.out rfl _ rfl rfl (by omega) (by omega) ?_; intro v2 w2 HO2 HX2 _)
      have HO2' := Lib.hid (show w2.ownsRow w.heap.size 3 1 v2 (l.length + 1 + 0) ((padU p l 0).map (Value.int .i64)) from by rw [HN.out]; rw [List.take_of_length_le (by rw [HN.out]; exact Nat.le_refl _)] at HO2; simpa [padU] using HO2)
      have HX2' := Lib.hid HX2
      clear HO2 HX2 HO1' HX1'
      go_loopw [5] (fun x5 wr => ∃ i : Nat, i ≤ padN l.length ∧ Hid (wr.ownsRow w.heap.size 3 1 x5 (l.length + 1 + i) ((padU p l i).map (Value.int .i64))) ∧ Hid (Ext w wr)) (fun x5 _ => l.length + 1 + padN l.length - slen x5)
      case atStart => exact ⟨0, Nat.zero_le _, HO2', HX2'⟩
      case round =>
        clear HO2' HX2'
        obtain ⟨i, hi, HO, HX⟩ := hrel
        have hlen := (Sl.of_own HO.out (by omega)).run_len (P := Tryz.prog) slInts
        have HSL := Lib.hid (own_slen HO.out)
        have hpn : padN l.length ≤ 3 := by unfold padN; omega
        have hiff := padN_end hi
        have hll' := HN.out
        obtain ⟨n', hn'⟩ : ∃ n', l.length + 1 + i = n' := ⟨_, rfl⟩
        have hn9 : n' ≤ 4294967100 := by omega
        rw [hn'] at hlen hiff
        have hem : ((n' : Int) % 4 != 0) = !decide (n' % 4 = 0) := by
          rw [Bool.eq_iff_iff, bne_iff_ne]; simp; omega
        by_cases hd : i = padN l.length
        · have hem2 : ((n' : Int) % 4 != 0) = false := by rw [hem]; simp [hiff.2 hd]
          have HI0 := Ints.of_own HO.out
          rw [hd, padU_all] at HI0
          have HI := Lib.hid HI0
          clear HI0
          have HNW := Lib.hid (NewIn.of_own HO.out)
          clear hem hiff hll' hn' hd
          go_wp2_with (go_at_call 60; refine (clipI_any HI.out).mono ?_; rintro e w9 ⟨rfl, rfl⟩)
          go_ret
          exact .mk _ rfl HX.out ⟨Sl.clp HI.out, HNW.out.clp _⟩
        · have hem2 : ((n' : Int) % 4 != 0) = true := by rw [hem]; simp; exact fun h => hd (hiff.1 h)
          have HS := Lib.hid (padU_snoc p l i)
          have HOo := HO.out
          have HXo := HX.out
          have HN' := Lib.hid hn'
          have HLL := Lib.hid hll'
          clear hem hiff hn' hll'
          go_wp2_with (at_builtin; refine wpList_app1 rfl _ _ 23 rfl slInts rfl HXo HOo rfl _ rfl rfl (by have := HLL.out; omega) (by omega) ?_; intro v4 w4 HO4 HX4 _)
          have HS4 := Lib.hid (own_slen HO4)
          go_roundw
          case rel => exact ⟨i + 1, by omega, Lib.hid (by rw [HS.out, List.map_append]; exact HO4), Lib.hid HX4⟩
          case measure => rw [HSL.out, HS4.out]; omega
end Go.Proofs.YtaajjaadlpgbiaaGreatDoor
end
section
namespace Go.Att
open Go.RowKit
theorem els_powU {p : Int} (hp : 2 ≤ p) (k r : Nat) {x : List Int} (h : Els p x) (hl : x.length = 8) (i : Nat) : Els p (powU p k r x i) := fun j hj => by
  rw [powU_length] at hj
  rw [powU_nth p k r x i hj]
  by_cases h2 : j < i
  · rw [if_pos h2]; exact fpow_bd hp _ _
  · rw [if_neg h2]; exact h j (by omega)
theorem cst_bd {p : Int} (hp : 2 ≤ p) (r i : Nat) : 0 ≤ cstP p r i ∧ cstP p r i < p := fadd_bd hp _ _
end Go.Att
namespace Go.Proofs.YtaajjaadlpgbiaaGreatDoor
open Go.RowKit Go.Att
set_option maxRecDepth 100000 in
set_option maxHeartbeats 8000000 in
theorem rpermute_any (p : Int) (k : Nat) (v : Value) (x : List Int) (w : World) (h23 : 23 ≤ p) (hp2 : p ≤ 2147483647) (hk : IsPw p k) (hv : Ints w v x) (hl : x.length = 8) :
    Calls Tryz.prog 140 #[.int .i64 p, v] w (Gives w fun u w' => w'.ownsRow w.heap.size 3 1 u 8 ((permP p k (x.map (fof p)) 8).map (Value.int .i64))) := by
  have hp : 2 ≤ p := by omega
  have hkp : (k : Int) ≤ 2147483647 := by
    obtain ⟨hk2, hkg, hkl⟩ := hk
    apply Classical.byContradiction
    intro hc
    exact hkl (p - 2).toNat (by omega) (by omega) (gcd_last h23)
  have HV := Lib.hid hv; have HL := Lib.hid hl; have HK := Lib.hid hk
  clear hv hl hk
  go_enter Tryz.func140, Tryz.ntmps140
  go_wp2_with (first | (go_at_call 156; refine (rallO_any p v x w HV.out hp hp2 (by rw [HL.out]; omega)).mono ?_; rintro e w1 ⟨v1, rfl, hx1, ho1⟩; rw [HL.out] at ho1; have HO1 := Lib.hid ho1; have HX1 := Lib.hid hx1; clear ho1 hx1) | (go_at_call 157; refine (rpower_any p k _ h23 hp2 HK.out).mono ?_; rintro e w' ⟨rfl, rfl⟩))
  have HE0 := Lib.hid (els_map hp x)
  have HL0 := Lib.hid (show (x.map (fof p)).length = 8 from by rw [List.length_map]; exact HL.out)
  generalize hx0 : x.map (fof p) = x0 at *
  have HX0E := Lib.hid hx0
  clear hx0
  go_loopw [5, 7, 8, 9] (fun x5 x7 _ _ wr => ∃ r : Nat, r ≤ 8 ∧ x7 = .int .i64 r ∧ Hid (wr.ownsRow w.heap.size 3 1 x5 8 ((permP p k x0 r).map (Value.int .i64))) ∧ Hid (Ext w wr)) (fun _ x7 _ _ _ => 8 - (intOf x7).toNat)
  case atStart => exact ⟨0, by omega, rfl, HO1, HX1⟩
  case round =>
    clear HO1 HX1
    obtain ⟨r, hr, rfl, HO, HX⟩ := hrel
    by_cases hr8 : r < 8
    · have hr88 : (r : Int) < 8 := by omega
      have HEX := Lib.hid (els_perm hp k HE0.out r)
      have HLX := Lib.hid (permP_length p k HL0.out r)
      have HSX := Lib.hid (show permP p k x0 (r + 1) = mixT p (powP p k r (permP p k x0 r)) from rfl)
      generalize permP p k x0 r = X at *
      obtain ⟨a5, c5, hsh⟩ := own_shape HO.out
      subst hsh
      have HO0 := Lib.hid (show wr.ownsRow w.heap.size 3 1 (.slice a5 8 c5) 8 ((powU p k r X 0).map (Value.int .i64)) from by rw [powU_zero p k r X HLX.out]; exact HO.out)
      clear HO
      go_wp2_with fail
      generalize wr = w9 at *
      go_loopw [8, 9] (fun x8 _ wq => ∃ i : Nat, i ≤ 8 ∧ x8 = .int .i64 i ∧ Hid (wq.ownsRow w.heap.size 3 1 (.slice a5 8 c5) 8 ((powU p k r X i).map (Value.int .i64))) ∧ Hid (Ext w wq)) (fun x8 _ _ => 8 - (intOf x8).toNat)
      case atStart => exact ⟨0, by omega, rfl, HO0, HX⟩
      case round =>
        clear HO0 HX
        obtain ⟨i, hi, rfl, HO, HX⟩ := hrel
        by_cases hi8 : i < 8
        · have HI := Ints.of_own HO.out
          have hix := HI.run_index (P := Tryz.prog) slInts i (by rw [powU_length]; exact hi8)
          have hc := HI.cell i (by rw [powU_length]; exact hi8)
          rw [powU_nth p k r X i hi8, if_neg (by omega)] at hc
          have hb := HEX.out i (by rw [HLX.out]; exact hi8)
          have hcb := cst_bd hp r i
          have HST := Lib.hid (fun v hv => powU_set p k r X i hi8 v hv)
          have HFA := Lib.hid (fpow_add p (nth X i) (cstP p r i) k)
          have HSM := Lib.hid (fun v => set_map (powU p k r X i) i (by rw [powU_length]; exact hi8) v)
          generalize nth X i = xi at *
          have CC := fun W => rconst_any p r i W hp hp2 hr8 hi8
          generalize cstP p r i = ci at *
          have hw1 : IntKind.i64.wrap (xi + ci) = xi + ci := IntWalk.i64_in _ (by omega)
          have HOo := HO.out
          clear HI
          go_wp2_with (first | (go_at_call 158; refine (CC _).mono ?_; rintro e w' ⟨rfl, rfl⟩) | (go_at_call 32; refine (rpow_any p _ k _ hp hp2 (by omega)).mono ?_; rintro e w' ⟨rfl, rfl⟩) | (refine wpList_set rfl rfl _ _ 3 rfl slInts HOo i hi8 rfl (.int .i64 (fpow p (xi + ci) k)) rfl rfl (by intro u hu; simp [Value.cells] at hu; subst hu; rfl) ?_; intro w7 HO7 HG7))
          have HX7 := Lib.hid (Ext.own_grown HX.out HOo HG7)
          have HO7' := Lib.hid (show w7.ownsRow w.heap.size 3 1 (.slice a5 8 c5) 8 ((powU p k r X (i + 1)).map (Value.int .i64)) from by rw [HSM.out] at HO7; rw [← HST.out _ HFA.out]; exact HO7)
          go_roundw
          case rel => exact ⟨i + 1, by omega, by go_num, HO7', HX7⟩
          case measure => simp [intOf]; omega
        · obtain rfl : i = 8 := by omega
          have HI := Lib.hid (show Ints wr (.slice a5 8 c5) (powP p k r X) from by have := Ints.of_own HO.out; rwa [powU_all] at this)
          go_wp2_with (go_at_call 159; refine (rmix_any p _ (powP p k r X) _ hp hp2 HI.out (powP_length _ _ _ _)).mono ?_; rintro e w8 ⟨v8, rfl, hx8, ho8⟩; have HX8 := Lib.hid (HX.out.trans hx8); have HO8 := Lib.hid (own_base ho8 HX.out.size); clear hx8 ho8)
          go_roundw
          case rel => exact ⟨r + 1, by omega, by go_num, by rw [HSX.out]; exact HO8, HX8⟩
          case measure => simp [intOf]; omega
    · obtain rfl : r = 8 := by omega
      go_wp2_with fail
      go_ret
      exact .mk _ rfl HX.out (by rw [HX0E.out]; exact HO.out)
end Go.Proofs.YtaajjaadlpgbiaaGreatDoor
end
section
namespace Go.Att
open Go.RowKit
theorem flat_take (L : List (List Int)) (i : Nat) (h : i < L.length) : (L.take (i + 1)).flatten = (L.take i).flatten ++ nthL L i := by
  rw [List.take_succ_eq_append_getElem h, List.flatten_append, nthL_eq h]; simp
theorem flat_le (L : List (List Int)) (i : Nat) : (L.take i).flatten.length ≤ L.flatten.length := by
  have : L.flatten = (L.take i).flatten ++ (L.drop i).flatten := by rw [← List.flatten_append, List.take_append_drop]
  rw [this, List.length_append]; omega
end Go.Att
namespace Go.Proofs.YtaajjaadlpgbiaaGreatDoor
open Go.RowKit Go.Att
theorem slRowsC : SlT Tryz.prog 22 23 1 24 (.slice none 0 0) := SlT.mk' Tryz.underlying22 (by kernel_rfl) (by decide)
theorem run_zeros (n : Nat) (h0 : 0 < n) (hn : n ≤ 4294967296) (ty : TypeId) (w : World) : ∃ cap w', (Builtin.append_ #[23, 3] ty #[.slice none 0 0, .int .i64 n]).run Tryz.prog w = .ok (.slice (some ⟨w.heap.size, 0, none⟩) n cap) w' ∧ Ext w w' ∧ w'.ownsRow w.heap.size 3 1 (.slice (some ⟨w.heap.size, 0, none⟩) 0 cap) 0 [] ∧ n ≤ cap := by
  obtain ⟨i, hi, hiz, his, hib⟩ := slInts.inf
  have hr := Lib.run_append_nil_zeros (P := Tryz.prog) w 23 3 ty 3 i (.int .i64 0) .i64 .i64 slInts.und Tryz.underlying3 hi hiz n h0 (by omega) (by omega) (by rw [hib]; omega)
  have hge := grownCap_ge w n 0 3
  have hle := grownCap_le_maxLen w n 0 3 (by unfold maxLen; omega)
  refine ⟨_, _, hr, (Ext.drew w).trans (Ext.alloc _ _), ⟨by simp, .inr ⟨w.heap.size, grownCap w n 0 3, _, rfl, Nat.le_refl _, heap_alloc_new w.drew _, Nat.zero_le _, hle, ?_, by simp⟩⟩, hge⟩
  rw [Array.size_append, size_zeroCells, size_zeroCells]
  simp [Value.cells]; omega
set_option maxRecDepth 100000 in
set_option maxHeartbeats 2000000 in
theorem grow_any (n : Nat) (hn : n ≤ 4294967296) (w : World) : Calls Tryz.prog 166 #[.slice none 0 0, .int .i64 n] w (Gives w fun u w' => w'.ownsRow w.heap.size 3 1 u 0 []) := by
  have h1 : ¬ (n : Int) < 0 := by omega
  have hcap : ∀ ty w', (Builtin.cap_ #[23] ty #[.slice none 0 0]).run Tryz.prog w' = .ok (.int .i64 0) w' := fun ty w' => by kernel_rfl
  by_cases h0 : n = 0
  · subst h0
    go_enter Tryz.func166, Tryz.ntmps166
    go_wp2_with fail
    go_ret
    exact .mk _ rfl (Ext.refl _) (World.ownsRow_nil _ _ _ _)
  · have hpos : (0 : Int) < n := by omega
    obtain ⟨cap, w1, hr, hx, ho, hcn⟩ := run_zeros n (by omega) hn 23 w
    have HR := Lib.hid hr; have HX := Lib.hid hx; have HO := Lib.hid ho
    clear hr hx ho
    go_enter Tryz.func166, Tryz.ntmps166
    go_wp2_with (at_builtin; refine Lib.wpList_append_run _ rfl _ _ _ _ rfl _ _ rfl rfl _ _ HR.out ?_)
    go_ret
    exact .mk _ rfl HX.out HO.out
set_option maxRecDepth 100000 in
set_option maxHeartbeats 4000000 in
theorem concat_any {w : World} {v : Value} {L : List (List Int)} {R : Nat → Value} (h : RwsAt w v L R) (hb : L.flatten.length ≤ 4294967000) (hc : L.length ≤ 4294967000) :
    Calls Tryz.prog 151 #[v] w (Gives w fun u w' => w'.ownsRow w.heap.size 3 1 u L.flatten.length (L.flatten.map (Value.int .i64))) := by
  have hll := h.run_len (P := Tryz.prog) slRowsC
  have HR := Lib.hid h
  obtain ⟨N, hN⟩ : ∃ N, L.length = N := ⟨_, rfl⟩
  have HN := Lib.hid hN
  have HB := Lib.hid hb
  rw [hN] at hll hc
  clear h hN hb
  go_enter Tryz.func151, Tryz.ntmps151
  go_wp2_with fail
  go_loopw [3, 5, 11] (fun x3 _ x11 wr => ∃ i : Nat, i ≤ N ∧ x11 = .int .i64 i ∧ x3 = .int .i64 ((L.take i).flatten.length : Nat) ∧ w = wr) (fun _ _ x11 _ => N - (intOf x11).toNat)
  case atStart => exact ⟨0, Nat.zero_le _, rfl, by simp, rfl⟩
  case round =>
    obtain ⟨i, hi, rfl, rfl, rfl⟩ := hrel
    by_cases hin : i < N
    · have hix := HR.out.run_index (P := Tryz.prog) slRowsC i (by rw [HN.out]; exact hin)
      have hcc := HR.out.cell i (by rw [HN.out]; exact hin)
      have hlr := (HR.out.row i (by rw [HN.out]; exact hin)).run_len (P := Tryz.prog) slInts
      have hft := flat_take L i (by rw [HN.out]; exact hin)
      have hfl := flat_le L (i + 1)
      have hbb := HB.out
      rw [hft, List.length_append] at hfl
      have HFT := Lib.hid (show (L.take (i + 1)).flatten.length = (L.take i).flatten.length + (nthL L i).length from by rw [hft, List.length_append])
      generalize (L.take i).flatten.length = s at *
      generalize (nthL L i).length = t at *
      generalize L.flatten.length = u at *
      generalize R i = ri at *
      clear hft
      go_wp2_with fail
      go_roundw
      case rel => exact ⟨i + 1, by omega, by go_num, by rw [HFT.out]; go_num, trivial⟩
      case measure => simp [intOf]; omega
    · obtain rfl : i = N := by omega
      have htk : (L.take i).flatten.length = L.flatten.length := by rw [List.take_of_length_le (by rw [HN.out]; exact Nat.le_refl _)]
      rw [htk]
      have hbb := HB.out
      clear htk
      obtain ⟨u, hu⟩ : ∃ u, L.flatten.length = u := ⟨_, rfl⟩
      have HU := Lib.hid hu
      rw [hu] at hbb ⊢
      clear hu
      go_wp2_with (go_at_call 166; refine (grow_any u (by omega) _).mono ?_; rintro e w1 ⟨v1, rfl, hx1, ho1⟩)
      have HX1 := Lib.hid hx1; have HO1 := Lib.hid ho1
      clear hx1 ho1
      go_loopw [6, 8, 27] (fun x6 _ x27 wr => ∃ j : Nat, j ≤ i ∧ x27 = .int .i64 j ∧ wr.ownsRow w.heap.size 3 1 x6 (L.take j).flatten.length ((L.take j).flatten.map (Value.int .i64)) ∧ Ext w wr) (fun _ _ x27 _ => i - (intOf x27).toNat)
      case atStart => exact ⟨0, Nat.zero_le _, rfl, by simpa using HO1.out, HX1.out⟩
      case round =>
        clear HX1 HO1
        obtain ⟨j, hj, rfl, HO, HX⟩ := hrel
        by_cases hjn : j < i
        · have hix := HR.out.run_index (P := Tryz.prog) slRowsC j (by rw [HN.out]; exact hjn)
          have hcc := HX.cell (HR.out.cell j (by rw [HN.out]; exact hjn))
          have hrj := HR.out.row j (by rw [HN.out]; exact hjn)
          have HRJ := Lib.hid (hrj.ext HX)
          have hft := flat_take L j (by rw [HN.out]; exact hjn)
          have hfl := flat_le L (j + 1)
          rw [hft, List.length_append, HU.out] at hfl
          have HFT := Lib.hid hft
          clear hrj hft
          generalize R j = rj at *
          go_wp2_with (at_builtin; refine wpList_appSl rfl _ _ 23 rfl slInts rfl HX HO rfl HRJ.out (by intro u hu; simp only [List.mem_map] at hu; obtain ⟨_, _, rfl⟩ := hu; rfl) rfl (by omega) (by omega) ?_; intro v2 w2 HO2 HX2 _)
          go_roundw
          case rel => exact ⟨j + 1, by omega, by go_num, by rw [HFT.out, List.length_append, List.map_append]; exact HO2, HX2⟩
          case measure => simp [intOf]; omega
        · obtain rfl : j = i := by omega
          rw [List.take_of_length_le (by rw [HN.out]; exact Nat.le_refl _), HU.out] at HO
          go_wp2_with fail
          go_ret
          exact .mk _ rfl HX (by rw [HU.out]; exact HO)
end Go.Proofs.YtaajjaadlpgbiaaGreatDoor
end
