/- Four numbers behind a pointer; what stands behind a list's first row; a digest of elements. Plain: no program in sight. Whether an opening shows rows of a tree, the document's side: attestref1.Same, attestref3.Check: contracts. -/
import Derived.Test.YtcpnidomdkaefaaGreatDoorZx20
import Derived.Test.YtcpnidomdkaefaaGreatDoorJf
import Derived.Test.YtcpnidomdkaefaaGreatDoorZx18
import Derived.Test.YtcpnidomdkaefaaGreatDoorNe
section
namespace Go.Att
open Go.RowKit
theorem fofI_idem (p x : Int) : fof p (fof p x) = fof p x := Int.emod_emod_of_dvd _ (Int.dvd_refl _)
theorem hashP_map (p : Int) (k : Nat) (l : List Int) : hashP p k (l.map (fof p)) = hashP p k l := by
  have : padP p (l.map (fof p)) = padP p l := by
    unfold padP
    rw [List.map_map, List.length_map]
    congr 1
    exact List.map_congr_left fun x _ => fofI_idem p x
  unfold hashP
  rw [this]
theorem hashP_cons_map (p : Int) (k : Nat) (x : Int) (l : List Int) : hashP p k (x :: l.map (fof p)) = hashP p k (x :: l) := by
  rw [← hashP_map p k (x :: l.map (fof p)), ← hashP_map p k (x :: l), List.map_cons, List.map_cons, List.map_map]
  congr 2
  exact List.map_congr_left fun y _ => fofI_idem p y
/-- A pointer to numbers. -/
def SP.arr (l : List Int) : SP := ⟨fun v W => ∃ q off, v = .pointer (some ⟨q, off, none⟩) ∧ ∀ i, i < l.length → W.cell? ⟨q, off + i, none⟩ = some (.int .i64 (nth l i)), fun _ _ _ ⟨q, off, h1, h2⟩ hx => ⟨q, off, h1, fun i hi => hx.cell (h2 i hi)⟩⟩
theorem arr_of {W : World} {v : Value} {l : List Int} (h : Ints W v l) (h0 : 0 < l.length) : ∃ q off cap, v = .slice (some ⟨q, off, none⟩) l.length cap ∧ ∀ i, i < l.length → W.cell? ⟨q, off + i, none⟩ = some (.int .i64 (nth l i)) := by
  obtain ⟨ao, cap, rfl, h2, h3, h4, h5⟩ := h
  obtain ⟨q, off, rfl, _⟩ := h5 0 (by simp; omega)
  refine ⟨q, off, cap, rfl, fun i hi => ?_⟩
  obtain ⟨q', off', e, hc⟩ := h5 i (by simpa using hi)
  obtain ⟨rfl, rfl⟩ : q = q' ∧ off = off' := by simpa using e
  rw [hc, nth_eq hi]; simp
theorem digV_four {l : List Int} (h : l.length = 4) : digV l = .agg #[.int .i64 (nth l 0), .int .i64 (nth l 1), .int .i64 (nth l 2), .int .i64 (nth l 3)] := by
  match l, h with
  | [a, b, c, d], _ => rfl
/-- Two digests are one as values where they are one as lists. -/
theorem digV_inj {a b : List Int} (h : digV a = digV b) : a = b := by
  unfold digV at h
  injection h with h
  have h2 := congrArg Array.toList h
  simp only at h2
  have : ∀ (a b : List Int), a.map (Value.int .i64) = b.map (Value.int .i64) → a = b := by
    intro a
    induction a with
    | nil => intro b hb; cases b with
      | nil => rfl
      | cons y s => simp at hb
    | cons x r ih => intro b hb; cases b with
      | nil => simp at hb
      | cons y s =>
        simp only [List.map_cons, List.cons.injEq, Value.int.injEq, true_and] at hb
        rw [hb.1, ih s hb.2]
  exact this a b h2
section
variable {P : Program} {w : World} {v : Value} {d : List Int} {r : List (List Int)} {R : Nat → Value}
/-- All rows but the first. -/
theorem rows_tail (h : RwsAt w v (d :: r) R) {t e bytes : Nat} {z : Value} (ht : SlT P t e 1 bytes z) :
    (∀ w', (Instr.sliceAt t v (some (.int .i64 1)) none none).run P w' = .ok (fromV v 1) w') ∧ RwsAt w (fromV v 1) r (fun i => R (1 + i)) := by
  match r, h with
  | [], h =>
    obtain ⟨ao, cap, rfl, h2, h3, h4, h5⟩ := h.sl
    have hu : P.underlying t = some (.slice (P.elem t)) := by rw [ht.und, elem_of ht.und]
    simp only [List.length_cons, List.length_nil] at h2 h3
    refine ⟨fun w' => ?_, ⟨⟨_, cap - 1, rfl, rfl, Nat.zero_le _, by omega, fun i hi => by simp at hi⟩, fun i hi => by simp at hi⟩⟩
    rw [run_sliceAt_slice (h := hu), show (Value.int .i64 1) = .int .i64 ((1 : Nat) : Int) from rfl, run_slice_l (ht := hu) (h0 := by omega) (h1 := by simp), elem_of ht.und, ht.run_size]
    simp [Result.andThen, fromV]
  | x :: r, h =>
    have := rows_drop h ht 1 (by simp)
    exact this
end
end Go.Att
namespace Go.Proofs.YtcpnidomdkaefaaGreatDoor
open Go.RowKit Go.Att
/-- A slice of four as an array's pointer. -/
theorem run_arr4 (q off c : Nat) (W : World) : (Instr.arrayAt 117 (.slice (some ⟨q, off, none⟩) 4 c)).run Tryz.prog W = .ok (.pointer (some ⟨q, off, none⟩)) W := by
  simp [Instr.arrayAt, run_underlying Tryz.underlying117]
end Go.Proofs.YtcpnidomdkaefaaGreatDoor
end
section
namespace Go.Att
open Go.RowKit
/-- Are two lists one, as elements? -/
def sameB (p : Int) (a b : List Int) : Bool := decide (a.length = b.length) && (List.range a.length).all fun i => fof p (nth a i) == fof p (nth b i)
theorem sameB_iff {p : Int} {a b : List Int} : sameB p a b = decide (a.map (fof p) = b.map (fof p)) := by
  rw [Bool.eq_iff_iff, decide_eq_true_eq]
  unfold sameB
  rw [Bool.and_eq_true, decide_eq_true_eq, List.all_eq_true]
  constructor
  · rintro ⟨h1, h2⟩
    apply List.ext_getElem (by simpa using h1)
    intro i hi hj
    rw [List.length_map] at hi hj
    have := h2 i (List.mem_range.2 hi)
    rw [beq_iff_eq, nth_eq hi, nth_eq hj] at this
    rw [List.getElem_map, List.getElem_map]; exact this
  · intro h
    have hl : a.length = b.length := by have := congrArg List.length h; simpa using this
    refine ⟨hl, fun i hi => ?_⟩
    rw [List.mem_range] at hi
    rw [beq_iff_eq, nth_eq hi, nth_eq (by omega)]
    have h1 : (a.map (fof p))[i]'(by simpa using hi) = (b.map (fof p))[i]'(by simp; omega) := by simp only [h]
    rw [List.getElem_map, List.getElem_map] at h1; exact h1
theorem hashP_fof {p : Int} (hp : 2 ≤ p) (k : Nat) (l : List Int) : (hashP p k l).map (fof p) = hashP p k l := by
  apply List.ext_getElem (by simp)
  intro i h1 h2
  rw [List.getElem_map]
  rw [hashP_length] at h2
  have hb := hashP_bd hp k l h2
  rw [nth_eq (by rw [hashP_length]; exact h2)] at hb
  exact Int.emod_eq_of_lt hb.1 hb.2
/-- One place. -/
def ascAt (pl : List Int) (n : Int) (i : Nat) : Bool := decide (0 ≤ nth pl i ∧ nth pl i < n) && (i == 0 || decide (nth pl (i - 1) < nth pl i))
theorem ascB_all {pl : List Int} {n : Int} (h : ∀ j, j < pl.length → ascAt pl n j = true) : ascB pl n = true := List.all_eq_true.2 fun i hi => h i (List.mem_range.1 hi)
theorem ascB_not {pl : List Int} {n : Int} {i : Nat} (hi : i < pl.length) (h : ascAt pl n i = false) : ascB pl n = false := by
  cases hb : ascB pl n with
  | false => rfl
  | true =>
    have := List.all_eq_true.1 hb i (List.mem_range.2 hi)
    have h2 : ascAt pl n i = true := this
    rw [h] at h2; cases h2
end Go.Att
namespace Go.Proofs.YtcpnidomdkaefaaGreatDoor
open Go.RowKit Go.Att
set_option maxRecDepth 100000 in
set_option maxHeartbeats 4000000 in
theorem rsame_any {w : World} (p : Int) {va vb : Value} {a b : List Int} (hp : 2 ≤ p) (hp2 : p ≤ 2147483647) (ha : Ints w va a) (hb : Ints w vb b) :
    Calls Tryz.prog 14 #[.int .i64 p, va, vb] w fun e w' => e = .returned (.bool (sameB p a b)) ∧ w = w' := by
  have hla := ha.run_len (P := Tryz.prog) slInts
  have hlb := hb.run_len (P := Tryz.prog) slInts
  have hln := ha.len
  have hlm := hb.len
  have HA := Lib.hid ha; have HB := Lib.hid hb
  clear ha hb
  obtain ⟨r, hr⟩ : ∃ r, sameB p a b = r := ⟨_, rfl⟩
  have HR := Lib.hid hr
  rw [hr]
  clear hr
  by_cases hl : a.length = b.length
  · have HL := Lib.hid hl
    rw [← hl] at hlb
    clear hl
    go_enter Tryz.func14, Tryz.ntmps14
    go_wp2_with fail
    go_loop [7, 8, 9] (fun x4 _ _ => ∃ i : Nat, i ≤ a.length ∧ x4 = .int .i64 i ∧ Hid (∀ j, j < i → fof p (nth a j) = fof p (nth b j))) (fun x4 _ _ => a.length - (intOf x4).toNat)
    case atStart => exact ⟨0, Nat.zero_le _, rfl, Lib.hid (fun j hj => by omega)⟩
    case round =>
      obtain ⟨i, hi, rfl, HI⟩ := hrel
      by_cases hil : i < a.length
      · have hia := HA.out.run_index (P := Tryz.prog) slInts i hil
        have hca := HA.out.cell i hil
        have hib := HB.out.run_index (P := Tryz.prog) slInts i (by rw [← HL.out]; exact hil)
        have hcb := HB.out.cell i (by rw [← HL.out]; exact hil)
        obtain ⟨x, hx⟩ : ∃ x, fof p (nth a i) = x := ⟨_, rfl⟩
        obtain ⟨y, hy⟩ : ∃ y, fof p (nth b i) = y := ⟨_, rfl⟩
        have HXE := Lib.hid hx; have HYE := Lib.hid hy
        obtain ⟨u, hu⟩ : ∃ u, nth a i = u := ⟨_, rfl⟩
        obtain ⟨v, hv⟩ : ∃ v, nth b i = v := ⟨_, rfl⟩
        have CA := Lib.hid (fun W => rof_any p u W hp hp2)
        have CB := Lib.hid (fun W => rof_any p v W hp hp2)
        rw [hu] at hca hx
        rw [hv] at hcb hy
        rw [hx] at CA
        rw [hy] at CB
        clear hu hv hx hy
        by_cases hxy : x = y
        · subst hxy
          go_upto_region 7 with (go_at_call 47; refine (CA.out _).mono ?_; rintro e w' ⟨rfl, rfl⟩)
          go_wp2_with (go_at_call 47; refine (CB.out _).mono ?_; rintro e w' ⟨rfl, rfl⟩)
          go_round
          case rel => exact ⟨i + 1, by omega, by go_num, Lib.hid (fun j hj => by
            rcases Nat.lt_or_eq_of_le (show j ≤ i by omega) with h | rfl
            · exact HI.out j h
            · rw [HXE.out, HYE.out])⟩
          case measure => simp [intOf]; omega
        · have hxb : (x == y) = false := by rw [beq_eq_false_iff_ne]; exact hxy
          have HF := Lib.hid (show r = false from by
            rw [← HR.out]
            unfold sameB
            rw [Bool.and_eq_false_iff]
            refine .inr (List.all_eq_false.2 ⟨i, List.mem_range.2 hil, ?_⟩)
            rw [HXE.out, HYE.out, beq_iff_eq]; exact hxy)
          go_upto_region 7 with (go_at_call 47; refine (CA.out _).mono ?_; rintro e w' ⟨rfl, rfl⟩)
          go_wp2_with (go_at_call 47; refine (CB.out _).mono ?_; rintro e w' ⟨rfl, rfl⟩)
          go_ret
          exact ⟨by rw [HF.out]; trivial, rfl⟩
      · obtain rfl : i = a.length := by omega
        have HT := Lib.hid (show r = true from by
          rw [← HR.out]
          unfold sameB
          rw [Bool.and_eq_true, decide_eq_true_eq, List.all_eq_true]
          exact ⟨HL.out, fun j hj => by rw [beq_iff_eq]; exact HI.out j (List.mem_range.1 hj)⟩)
        go_wp2_with fail
        go_ret
        exact ⟨by rw [HT.out]; trivial, rfl⟩
  · have hbl : ((a.length : Int) == (b.length : Int)) = false := by rw [beq_eq_false_iff_ne]; omega
    have HF := Lib.hid (show r = false from by rw [← HR.out]; unfold sameB; rw [decide_eq_false hl]; rfl)
    clear hl
    go_enter Tryz.func14, Tryz.ntmps14
    go_wp2_with fail
    go_ret
    exact ⟨by rw [HF.out]; trivial, rfl⟩
end Go.Proofs.YtcpnidomdkaefaaGreatDoor
end
