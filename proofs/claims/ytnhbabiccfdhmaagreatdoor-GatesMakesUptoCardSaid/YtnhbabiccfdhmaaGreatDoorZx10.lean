/- The sponge, the program's side: what stands behind a list; parts of a slice: contracts. Lists made one, the library's: slices.Grow at the nil slice, slices.Concat: contracts. -/
import Derived.Test.YtnhbabiccfdhmaaGreatDoorV2
import Derived.Test.YtnhbabiccfdhmaaGreatDoorZx8
import Derived.Test.YtnhbabiccfdhmaaGreatDoorZx5
import Derived.Lib.AppendZeros
section
namespace Go.Att
open Go.RowKit
/-- A slice with nothing behind it. -/
def clpV (v : Value) (n : Nat) : Value := match v with
  | .slice a _ _ => .slice a n n
  | v => v
theorem Sl.run_clp {P : Program} {w : World} {sz n : Nat} {v : Value} {cs : List Value} (h : Sl w sz v n cs) {t e bytes : Nat} {z : Value} (ht : SlT P t e sz bytes z) (w' : World) :
    (Instr.sliceAt t v none (some (.int .i64 n)) (some (.int .i64 n))).run P w' = .ok (clpV v n) w' := by
  obtain ⟨ao, cap, rfl, h2, h3, h4, h5⟩ := h
  have hu : P.underlying t = some (.slice (P.elem t)) := by rw [ht.und, elem_of ht.und]
  have ha : ∀ a : Addr, a.add 0 = a := fun a => by unfold Addr.add; simp
  rw [run_sliceAt_slice (h := hu), run_slice_any (ht := hu)]
  simp only [elem_of ht.und, ht.run_size]
  have h3' : (n : Int) ≤ (cap : Int) := by omega
  cases ao <;> simp [Instr.sliceBounds, run_sliceBound, h3', Result.andThen, sliced, clpV, ha]
theorem Sl.clp {w : World} {sz n : Nat} {v : Value} {cs : List Value} (h : Sl w sz v n cs) : Sl w sz (clpV v n) n cs := by
  obtain ⟨ao, cap, rfl, h2, h3, h4, h5⟩ := h
  exact ⟨ao, n, rfl, h2, Nat.le_refl _, Nat.le_trans h3 h4, h5⟩
theorem clpV_block (v : Value) (n : Nat) : (clpV v n).ownBlock = v.ownBlock := by
  unfold clpV
  split
  · rename_i a _ _; cases a <;> rfl
  · rfl
theorem NewIn.clp {W : World} {v : Value} (h : NewIn W v) (n : Nat) : NewIn W (clpV v n) := fun q hq => h q (by rw [clpV_block] at hq; exact hq)
/-- A part of a slice with nothing behind it. -/
def cutV (v : Value) (i j : Nat) : Value := match v with
  | .slice a _ _ => sliced a i j j 1
  | v => v
theorem Ints.run_cut {P : Program} {w : World} {v : Value} {l : List Int} (h : Ints w v l) {t e bytes : Nat} {z : Value} (ht : SlT P t e 1 bytes z) (i j : Nat) (hij : i ≤ j) (hj : j ≤ l.length) (w' : World) :
    (Instr.sliceAt t v (some (.int .i64 i)) (some (.int .i64 j)) (some (.int .i64 j))).run P w' = .ok (cutV v i j) w' := by
  obtain ⟨ao, cap, rfl, h2, h3, h4, h5⟩ := h
  have hu : P.underlying t = some (.slice (P.elem t)) := by rw [ht.und, elem_of ht.und]
  rw [run_sliceAt_slice (h := hu), run_slice_lhm (ht := hu) (h0 := by omega) (h1 := by omega) (h2 := by omega) (h3 := by omega), elem_of ht.und, ht.run_size]
  simp [Result.andThen, cutV]
theorem Ints.cut {w : World} {v : Value} {l : List Int} (h : Ints w v l) (i j : Nat) (hij : i < j) (hj : j ≤ l.length) : Ints w (cutV v i j) ((l.drop i).take (j - i)) := by
  obtain ⟨ao, cap, rfl, h2, h3, h4, h5⟩ := h
  have hl : ((l.drop i).take (j - i)).length = j - i := by simp; omega
  obtain ⟨b, off, e1, _⟩ := h5 0 (by simp; omega)
  subst e1
  refine ⟨some ⟨b, off + i, none⟩, j - i, ?_, by simp, by omega, by omega, fun q hq => ?_⟩
  · rw [hl]
    simp only [cutV, sliced, if_neg (show ¬ j = i by omega), Option.map_some, Addr.add_lit, Nat.mul_one]
  · have hq' : q < j - i := by rw [List.length_map, hl] at hq; exact hq
    obtain ⟨b', off', e1, e2⟩ := h5 (i + q) (by simp; omega)
    injection e1 with e1; injection e1 with e1 e3
    subst e1 e3
    refine ⟨b, off + i, rfl, ?_⟩
    rw [Nat.add_assoc, e2]; simp
theorem pad_snoc (p : Int) (l : List Int) (i : Nat) (h : i < l.length) : ((l.take (i + 1)).map (fof p)).map (Value.int .i64) = ((l.take i).map (fof p)).map (Value.int .i64) ++ [.int .i64 (fof p (nth l i))] := by
  rw [List.take_succ_eq_append_getElem h, nth_eq h, List.map_append, List.map_append]; rfl
end Go.Att
namespace Go.Proofs.YtnhbabiccfdhmaaGreatDoor
open Go.RowKit Go.Att
theorem clipI_any {w : World} {v : Value} {l : List Int} (h : Ints w v l) : Calls Tryz.prog 85 #[v] w fun e w' => e = .returned (clpV v l.length) ∧ w = w' := by
  have hll := h.run_len (P := Tryz.prog) slInts
  have hcl := Sl.run_clp (P := Tryz.prog) h slInts
  go_enter Tryz.func85, Tryz.ntmps85
  go_wp2
  go_ret
  exact ⟨rfl, rfl⟩
set_option maxRecDepth 100000 in
set_option maxHeartbeats 4000000 in
theorem pad_any {w : World} {b bf : Nat} {p g : Int} {fs : List Int} (hc : w.cell? ⟨b, 0, none⟩ = some (.pointer (some ⟨bf, 0, none⟩))) (hf : Fld w (.pointer (some ⟨bf, 0, none⟩)) p g fs) (v : Value) (l : List Int) (hv : Ints w v l) (hs : l.length ≤ 4294967000) :
    Calls Tryz.prog 113 #[.pointer (some ⟨b, 0, none⟩), v] w (Gives w fun u w' => Ints w' u (padP p l) ∧ NewIn w u) := by
  have HF := Lib.hid hf
  have hll := hv.run_len (P := Tryz.prog) slInts
  have HV := Lib.hid hv
  clear hf hv
  obtain ⟨n, hn⟩ : ∃ n, l.length = n := ⟨_, rfl⟩
  have HN := Lib.hid hn
  rw [hn] at hs hll
  clear hn
  go_enter Tryz.func113, Tryz.ntmps113
  go_wp2_with (refine wpList_mk0 rfl _ _ 23 rfl slInts (Ext.refl w) rfl rfl (by omega) (by omega) (by omega) ?_; intro v1 w1 HO HX _)
  go_loopw [5, 7, 14] (fun x5 _ x14 wr => ∃ i : Nat, i ≤ n ∧ x14 = .int .i64 i ∧ wr.ownsRow w.heap.size 3 1 x5 i (((l.take i).map (fof p)).map (Value.int .i64)) ∧ Ext w wr) (fun _ _ x14 _ => n - (intOf x14).toNat)
  case atStart => exact ⟨0, Nat.zero_le _, rfl, by simpa using HO, HX⟩
  case round =>
    obtain ⟨i, hi, rfl, HO1, HX1⟩ := hrel
    by_cases hin : i < n
    · have hix := HV.out.run_index (P := Tryz.prog) slInts i (by rw [HN.out]; exact hin)
      have hcc := (HV.out.ext HX1).cell i (by rw [HN.out]; exact hin)
      have hc1 := HX1.cell hc
      have ST := Lib.hid (pad_snoc p l i (by rw [HN.out]; exact hin))
      go_wp2_with (first | (go_at_call 88; refine (of_any (HF.out.ext HX1) _).mono ?_; rintro e w3 hrd; obtain ⟨rfl, hx3⟩ := hrd.ext; clear hrd; replace HO1 := own_ext HO1 hx3; replace hx3 := HX1.trans hx3) | (at_builtin; refine wpList_appNw rfl _ _ 23 rfl slInts rfl hx3.size HO1 rfl _ rfl (by intro u hu; simp at hu; subst hu; rfl) rfl (by omega) (by omega) ?_; intro v7 w7 HO7 HG7 _))
      go_roundw
      case rel => exact ⟨i + 1, by omega, by go_num, by rw [ST.out]; exact HO7, Ext.own_grown hx3 HO1 HG7⟩
      case measure => simp [intOf]; omega
    · obtain rfl : i = n := by omega
      have HO1' := Lib.hid HO1; have HX1' := Lib.hid HX1
      clear HO1 HX1 HO HX
      go_wp2_with (at_builtin; refine wpList_app1 rfl _ _ 23 rfl slInts rfl HX1'.out HO1'.out rfl _ rfl rfl (by omega) (by omega) ?_; intro v2 w2 HO2 HX2 _)
      have HO2' := Lib.hid (show w2.ownsRow w.heap.size 3 1 v2 (l.length + 1 + 0) ((padU p l 0).map (Value.int .i64)) from by rw [HN.out]; rw [List.take_of_length_le (by rw [HN.out]; exact Nat.le_refl _)] at HO2; simpa [padU] using HO2)
      have HX2' := Lib.hid HX2
      clear HO2 HX2 HO1' HX1'
      go_loopw [5] (fun x5 wr => ∃ i : Nat, i ≤ padN l.length ∧ Hid (wr.ownsRow w.heap.size 3 1 x5 (l.length + 1 + i) ((padU p l i).map (Value.int .i64))) ∧ Hid (Ext w wr)) (fun x5 _ => l.length + 1 + padN l.length - slen x5)
      case atStart => exact ⟨0, Nat.zero_le _, HO2', HX2'⟩
      case round =>
        clear HO2' HX2'
        obtain ⟨i, hi, HO, HX⟩ := hrel
        have hlen := (Sl.of_own HO.out (by omega)).run_len (P := Tryz.prog) slInts
        have HSL := Lib.hid (own_slen HO.out)
        have hpn : padN l.length ≤ 3 := by unfold padN; omega
        have hiff := padN_end hi
        have hll' := HN.out
        obtain ⟨n', hn'⟩ : ∃ n', l.length + 1 + i = n' := ⟨_, rfl⟩
        have hn9 : n' ≤ 4294967100 := by omega
        rw [hn'] at hlen hiff
        have hem : ((n' : Int) % 4 != 0) = !decide (n' % 4 = 0) := by
          rw [Bool.eq_iff_iff, bne_iff_ne]; simp; omega
        by_cases hd : i = padN l.length
        · have hem2 : ((n' : Int) % 4 != 0) = false := by rw [hem]; simp [hiff.2 hd]
          have HI0 := Ints.of_own HO.out
          rw [hd, padU_all] at HI0
          have HI := Lib.hid HI0
          clear HI0
          have HNW := Lib.hid (NewIn.of_own HO.out)
          clear hem hiff hll' hn' hd
          go_wp2_with (go_at_call 85; refine (clipI_any HI.out).mono ?_; rintro e w9 ⟨rfl, rfl⟩)
          go_ret
          exact .mk _ rfl HX.out ⟨Sl.clp HI.out, HNW.out.clp _⟩
        · have hem2 : ((n' : Int) % 4 != 0) = true := by rw [hem]; simp; exact fun h => hd (hiff.1 h)
          have HS := Lib.hid (padU_snoc p l i)
          have HOo := HO.out
          have HXo := HX.out
          have HN' := Lib.hid hn'
          have HLL := Lib.hid hll'
          clear hem hiff hn' hll'
          go_wp2_with (at_builtin; refine wpList_app1 rfl _ _ 23 rfl slInts rfl HXo HOo rfl _ rfl rfl (by have := HLL.out; omega) (by omega) ?_; intro v4 w4 HO4 HX4 _)
          have HS4 := Lib.hid (own_slen HO4)
          go_roundw
          case rel => exact ⟨i + 1, by omega, Lib.hid (by rw [HS.out, List.map_append]; exact HO4), Lib.hid HX4⟩
          case measure => rw [HSL.out, HS4.out]; omega
end Go.Proofs.YtnhbabiccfdhmaaGreatDoor
end
section
namespace Go.Att
open Go.RowKit
theorem flat_take (L : List (List Int)) (i : Nat) (h : i < L.length) : (L.take (i + 1)).flatten = (L.take i).flatten ++ nthL L i := by
  rw [List.take_succ_eq_append_getElem h, List.flatten_append, nthL_eq h]; simp
theorem flat_le (L : List (List Int)) (i : Nat) : (L.take i).flatten.length ≤ L.flatten.length := by
  have : L.flatten = (L.take i).flatten ++ (L.drop i).flatten := by rw [← List.flatten_append, List.take_append_drop]
  rw [this, List.length_append]; omega
end Go.Att
namespace Go.Proofs.YtnhbabiccfdhmaaGreatDoor
open Go.RowKit Go.Att
theorem slRowsC : SlT Tryz.prog 22 23 1 24 (.slice none 0 0) := SlT.mk' Tryz.underlying22 (by kernel_rfl) (by decide)
theorem run_zeros (n : Nat) (h0 : 0 < n) (hn : n ≤ 4294967296) (ty : TypeId) (w : World) : ∃ cap w', (Builtin.append_ #[23, 3] ty #[.slice none 0 0, .int .i64 n]).run Tryz.prog w = .ok (.slice (some ⟨w.heap.size, 0, none⟩) n cap) w' ∧ Ext w w' ∧ w'.ownsRow w.heap.size 3 1 (.slice (some ⟨w.heap.size, 0, none⟩) 0 cap) 0 [] ∧ n ≤ cap := by
  obtain ⟨i, hi, hiz, his, hib⟩ := slInts.inf
  have hr := Lib.run_append_nil_zeros (P := Tryz.prog) w 23 3 ty 3 i (.int .i64 0) .i64 .i64 slInts.und Tryz.underlying3 hi hiz n h0 (by omega) (by omega) (by rw [hib]; omega)
  have hge := grownCap_ge w n 0 3
  have hle := grownCap_le_maxLen w n 0 3 (by unfold maxLen; omega)
  refine ⟨_, _, hr, (Ext.drew w).trans (Ext.alloc _ _), ⟨by simp, .inr ⟨w.heap.size, grownCap w n 0 3, _, rfl, Nat.le_refl _, heap_alloc_new w.drew _, Nat.zero_le _, hle, ?_, by simp⟩⟩, hge⟩
  rw [Array.size_append, size_zeroCells, size_zeroCells]
  simp [Value.cells]; omega
set_option maxRecDepth 100000 in
set_option maxHeartbeats 2000000 in
theorem grow_any (n : Nat) (hn : n ≤ 4294967296) (w : World) : Calls Tryz.prog 206 #[.slice none 0 0, .int .i64 n] w (Gives w fun u w' => w'.ownsRow w.heap.size 3 1 u 0 []) := by
  have h1 : ¬ (n : Int) < 0 := by omega
  have hcap : ∀ ty w', (Builtin.cap_ #[23] ty #[.slice none 0 0]).run Tryz.prog w' = .ok (.int .i64 0) w' := fun ty w' => by kernel_rfl
  by_cases h0 : n = 0
  · subst h0
    go_enter Tryz.func206, Tryz.ntmps206
    go_wp2_with fail
    go_ret
    exact .mk _ rfl (Ext.refl _) (World.ownsRow_nil _ _ _ _)
  · have hpos : (0 : Int) < n := by omega
    obtain ⟨cap, w1, hr, hx, ho, hcn⟩ := run_zeros n (by omega) hn 23 w
    have HR := Lib.hid hr; have HX := Lib.hid hx; have HO := Lib.hid ho
    clear hr hx ho
    go_enter Tryz.func206, Tryz.ntmps206
    go_wp2_with (at_builtin; refine Lib.wpList_append_run _ rfl _ _ _ _ rfl _ _ rfl rfl _ _ HR.out ?_)
    go_ret
    exact .mk _ rfl HX.out HO.out
set_option maxRecDepth 100000 in
set_option maxHeartbeats 4000000 in
theorem concat_any {w : World} {v : Value} {L : List (List Int)} {R : Nat → Value} (h : RwsAt w v L R) (hb : L.flatten.length ≤ 4294967000) (hc : L.length ≤ 4294967000) :
    Calls Tryz.prog 162 #[v] w (Gives w fun u w' => w'.ownsRow w.heap.size 3 1 u L.flatten.length (L.flatten.map (Value.int .i64))) := by
  have hll := h.run_len (P := Tryz.prog) slRowsC
  have HR := Lib.hid h
  obtain ⟨N, hN⟩ : ∃ N, L.length = N := ⟨_, rfl⟩
  have HN := Lib.hid hN
  have HB := Lib.hid hb
  rw [hN] at hll hc
  clear h hN hb
  go_enter Tryz.func162, Tryz.ntmps162
  go_wp2_with fail
  go_loopw [3, 5, 11] (fun x3 _ x11 wr => ∃ i : Nat, i ≤ N ∧ x11 = .int .i64 i ∧ x3 = .int .i64 ((L.take i).flatten.length : Nat) ∧ w = wr) (fun _ _ x11 _ => N - (intOf x11).toNat)
  case atStart => exact ⟨0, Nat.zero_le _, rfl, by simp, rfl⟩
  case round =>
    obtain ⟨i, hi, rfl, rfl, rfl⟩ := hrel
    by_cases hin : i < N
    · have hix := HR.out.run_index (P := Tryz.prog) slRowsC i (by rw [HN.out]; exact hin)
      have hcc := HR.out.cell i (by rw [HN.out]; exact hin)
      have hlr := (HR.out.row i (by rw [HN.out]; exact hin)).run_len (P := Tryz.prog) slInts
      have hft := flat_take L i (by rw [HN.out]; exact hin)
      have hfl := flat_le L (i + 1)
      have hbb := HB.out
      rw [hft, List.length_append] at hfl
      have HFT := Lib.hid (show (L.take (i + 1)).flatten.length = (L.take i).flatten.length + (nthL L i).length from by rw [hft, List.length_append])
      generalize (L.take i).flatten.length = s at *
      generalize (nthL L i).length = t at *
      generalize L.flatten.length = u at *
      generalize R i = ri at *
      clear hft
      go_wp2_with fail
      go_roundw
      case rel => exact ⟨i + 1, by omega, by go_num, by rw [HFT.out]; go_num, trivial⟩
      case measure => simp [intOf]; omega
    · obtain rfl : i = N := by omega
      have htk : (L.take i).flatten.length = L.flatten.length := by rw [List.take_of_length_le (by rw [HN.out]; exact Nat.le_refl _)]
      rw [htk]
      have hbb := HB.out
      clear htk
      obtain ⟨u, hu⟩ : ∃ u, L.flatten.length = u := ⟨_, rfl⟩
      have HU := Lib.hid hu
      rw [hu] at hbb ⊢
      clear hu
      go_wp2_with (go_at_call 206; refine (grow_any u (by omega) _).mono ?_; rintro e w1 ⟨v1, rfl, hx1, ho1⟩)
      have HX1 := Lib.hid hx1; have HO1 := Lib.hid ho1
      clear hx1 ho1
      go_loopw [6, 8, 27] (fun x6 _ x27 wr => ∃ j : Nat, j ≤ i ∧ x27 = .int .i64 j ∧ wr.ownsRow w.heap.size 3 1 x6 (L.take j).flatten.length ((L.take j).flatten.map (Value.int .i64)) ∧ Ext w wr) (fun _ _ x27 _ => i - (intOf x27).toNat)
      case atStart => exact ⟨0, Nat.zero_le _, rfl, by simpa using HO1.out, HX1.out⟩
      case round =>
        clear HX1 HO1
        obtain ⟨j, hj, rfl, HO, HX⟩ := hrel
        by_cases hjn : j < i
        · have hix := HR.out.run_index (P := Tryz.prog) slRowsC j (by rw [HN.out]; exact hjn)
          have hcc := HX.cell (HR.out.cell j (by rw [HN.out]; exact hjn))
          have hrj := HR.out.row j (by rw [HN.out]; exact hjn)
          have HRJ := Lib.hid (hrj.ext HX)
          have hft := flat_take L j (by rw [HN.out]; exact hjn)
          have hfl := flat_le L (j + 1)
          rw [hft, List.length_append, HU.out] at hfl
          have HFT := Lib.hid hft
          clear hrj hft
          generalize R j = rj at *
          go_wp2_with (at_builtin; refine wpList_appSl rfl _ _ 23 rfl slInts rfl HX HO rfl HRJ.out (by intro u hu; simp only [List.mem_map] at hu; obtain ⟨_, _, rfl⟩ := hu; rfl) rfl (by omega) (by omega) ?_; intro v2 w2 HO2 HX2 _)
          go_roundw
          case rel => exact ⟨j + 1, by omega, by go_num, by rw [HFT.out, List.length_append, List.map_append]; exact HO2, HX2⟩
          case measure => simp [intOf]; omega
        · obtain rfl : j = i := by omega
          rw [List.take_of_length_le (by rw [HN.out]; exact Nat.le_refl _), HU.out] at HO
          go_wp2_with fail
          go_ret
          exact .mk _ rfl HX (by rw [HU.out]; exact HO)
end Go.Proofs.YtnhbabiccfdhmaaGreatDoor
end
