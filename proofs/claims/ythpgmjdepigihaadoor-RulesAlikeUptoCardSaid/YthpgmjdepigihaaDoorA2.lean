/- Pairs of rows; their products: the plain words; the document's side: contracts. -/
import Derived.Test.YthpgmjdepigihaaDoorGa
import Derived.Test.YthpgmjdepigihaaDoorHa
import Derived.Test.YthpgmjdepigihaaDoorY2
namespace Go.Att
open Go.RowKit
/-- The pairs of a row that begin at two places, as elements. -/
def prsR (p : Int) (r : List Int) (a v : Nat) : List (Int × Int) := (List.range 4).map fun j => (fof p (nth r (a + j)), fof p (nth r (v + j)))
def prsL (p : Int) (L : List (List Int)) (a v : Nat) : List (Int × Int) := L.flatMap fun r => prsR p r a v
def shortB (L : List (List Int)) : Bool := L.any fun r => decide (r.length < 20)
noncomputable def alikeB (p : Int) (L : List (List Int)) : Bool := !shortB L && permB (prsL p L 3 7) (prsL p L 12 16)
theorem prsR_length (p : Int) (r : List Int) (a v : Nat) : (prsR p r a v).length = 4 := by simp [prsR]
theorem prsR_take {p : Int} {r : List Int} {a v j : Nat} (h : j < 4) : (prsR p r a v).take (j + 1) = (prsR p r a v).take j ++ [(fof p (nth r (a + j)), fof p (nth r (v + j)))] := by
  rw [List.take_succ_eq_append_getElem (by rw [prsR_length]; exact h)]
  congr 1
  simp [prsR]
theorem prsL_take {p : Int} {L : List (List Int)} {a v i : Nat} (h : i < L.length) : prsL p (L.take (i + 1)) a v = prsL p (L.take i) a v ++ prsR p (nthL L i) a v := by
  unfold prsL
  rw [List.take_succ_eq_append_getElem h, List.flatMap_append, nthL_eq h]
  simp
theorem prsL_length (p : Int) (L : List (List Int)) (a v : Nat) : (prsL p L a v).length = 4 * L.length := by
  induction L with
  | nil => rfl
  | cons r L ih =>
    have : prsL p (r :: L) a v = prsR p r a v ++ prsL p L a v := rfl
    rw [this, List.length_append, ih, prsR_length, List.length_cons]; omega
theorem short_no {L : List (List Int)} (h : shortB L = false) {i : Nat} (hi : i < L.length) : 20 ≤ (nthL L i).length := by
  unfold shortB at h
  rw [List.any_eq_false] at h
  have := h (nthL L i) (by rw [nthL_eq hi]; exact List.getElem_mem hi)
  simp at this; omega
theorem short_yes {L : List (List Int)} {i : Nat} (hi : i < L.length) (h : (nthL L i).length < 20) : shortB L = true := by
  unfold shortB
  rw [List.any_eq_true]
  exact ⟨nthL L i, by rw [nthL_eq hi]; exact List.getElem_mem hi, by simpa using h⟩
theorem short_all {L : List (List Int)} (h : ∀ i, i < L.length → 20 ≤ (nthL L i).length) : shortB L = false := by
  unfold shortB
  rw [List.any_eq_false]
  intro r hr
  obtain ⟨i, hi, rfl⟩ := List.getElem_of_mem hr
  have := h i hi
  rw [nthL_eq hi] at this
  simp; omega
/-- The products over a row's pairs, in both orders. -/
def facA (p x y : Int) (r : List Int) : Int := fprod p y x (prsR p r 3 7)
def facB (p x y : Int) (r : List Int) : Int := fprod p y x (prsR p r 12 16)
def zAt (p x y : Int) (L : List (List Int)) : Nat → Int
  | 0 => 1
  | i + 1 => fmul p (zAt p x y L i) (fdiv p (facA p x y (nthL L i)) (facB p x y (nthL L i)))
def zsL (p x y : Int) (L : List (List Int)) : List Int := (List.range L.length).map (zAt p x y L)
/-- Is there a last column? -/
def prodB (p x y : Int) (L : List (List Int)) : Bool := !L.isEmpty && !shortB L && L.all fun r => facA p x y r != 0 && facB p x y r != 0
theorem zsL_take {p x y : Int} {L : List (List Int)} {i : Nat} (h : i < L.length) : (zsL p x y L).take (i + 1) = (zsL p x y L).take i ++ [zAt p x y L i] := by
  rw [List.take_succ_eq_append_getElem (by simp [zsL]; exact h)]
  simp [zsL]
theorem zsL_length (p x y : Int) (L : List (List Int)) : (zsL p x y L).length = L.length := by simp [zsL]
theorem prod_empty {p x y : Int} {L : List (List Int)} (h : L.length = 0) : prodB p x y L = false := by
  have : L = [] := List.eq_nil_of_length_eq_zero h
  subst this; rfl
theorem prod_short {p x y : Int} {L : List (List Int)} (h : shortB L = true) : prodB p x y L = false := by unfold prodB; rw [h]; simp
theorem prod_zero {p x y : Int} {L : List (List Int)} {i : Nat} (hi : i < L.length) (h : facA p x y (nthL L i) = 0 ∨ facB p x y (nthL L i) = 0) : prodB p x y L = false := by
  unfold prodB
  have : (L.all fun r => facA p x y r != 0 && facB p x y r != 0) = false := by
    rw [List.all_eq_false]
    refine ⟨nthL L i, by rw [nthL_eq hi]; exact List.getElem_mem hi, ?_⟩
    rcases h with h | h <;> simp [h]
  rw [this]; simp
theorem prod_all {p x y : Int} {L : List (List Int)} (h0 : 0 < L.length) (hs : shortB L = false) (h : ∀ i, i < L.length → facA p x y (nthL L i) ≠ 0 ∧ facB p x y (nthL L i) ≠ 0) : prodB p x y L = true := by
  unfold prodB
  have h1 : L.isEmpty = false := by cases L <;> simp at *
  have : (L.all fun r => facA p x y r != 0 && facB p x y r != 0) = true := by
    rw [List.all_eq_true]
    intro r hr
    obtain ⟨i, hi, rfl⟩ := List.getElem_of_mem hr
    have := h i hi
    rw [nthL_eq hi] at this
    simp [this]
  rw [h1, hs, this]; rfl
/-- What is told of a last column. -/
def ColGot (p x y : Int) (L : List (List Int)) (v : Value) (w' : World) : Prop := ∃ u, v = .tuple #[u, .bool (prodB p x y L)] ∧ Ints w' u (if prodB p x y L = true then zsL p x y L else [])
theorem col_no {p x y : Int} {L : List (List Int)} {w' : World} (h : prodB p x y L = false) : ColGot p x y L (.tuple #[.slice none 0 0, .bool false]) w' := ⟨_, by rw [h], by rw [h]; exact Ints.nil _⟩
theorem col_yes {p x y : Int} {L : List (List Int)} {u : Value} {w' : World} (h : prodB p x y L = true) (hu : Ints w' u (zsL p x y L)) : ColGot p x y L (.tuple #[u, .bool true]) w' := ⟨u, by rw [h], by rw [h]; exact hu⟩
/-- One row, cut out. -/
theorem one_row {P : Program} {w : World} {v : Value} {L : List (List Int)} {R : Nat → Value} (h : RwsAt w v L R) {t e bytes : Nat} {z : Value} (ht : SlT P t e 1 bytes z) {i : Nat} (hi : i < L.length) :
    ∃ u, (∀ w', (Instr.sliceAt t v (some (.int .i64 i)) (some (.int .i64 ((i : Int) + 1))) none).run P w' = .ok u w') ∧ RwsAt w u [nthL L i] (fun _ => R i) := by
  obtain ⟨ao, cap, rfl, h2, h3, h4, h5⟩ := h.sl
  have hl1 : ((List.range L.length).map R).length = L.length := by simp
  obtain ⟨b, off, rfl, -⟩ := h5 0 (by rw [hl1]; omega)
  have hu : P.underlying t = some (.slice (P.elem t)) := by rw [ht.und, elem_of ht.und]
  refine ⟨.slice (some ⟨b, off + i, none⟩) 1 (cap - i), fun w' => ?_, ⟨⟨some ⟨b, off + i, none⟩, cap - i, rfl, by simp, by simp; omega, by omega, fun k hk => ?_⟩, fun k hk => ?_⟩⟩
  · rw [run_sliceAt_slice (h := hu), run_slice_lh (ht := hu) (h0 := by omega) (h1 := by omega) (h2 := by omega), elem_of ht.und, ht.run_size]
    have hne : ¬ cap = i := by omega
    have e1 : ((i : Int) + 1).toNat - i = 1 := by omega
    simp [Result.andThen, sliced, hne, Addr.add_lit, e1]
  · simp at hk
    subst hk
    obtain ⟨b', off', e, hc⟩ := h5 i (by rw [hl1]; exact hi)
    simp only [Option.some.injEq, Addr.mk.injEq] at e
    obtain ⟨rfl, rfl, -⟩ := e
    exact ⟨b, off + i, rfl, by rw [Nat.add_zero, hc]; simp⟩
  · simp at hk
    subst hk
    exact h.row i hi
theorem prsL_one (p : Int) (r : List Int) (a v : Nat) : prsL p [r] a v = prsR p r a v := by simp [prsL]
end Go.Att
namespace Go.Proofs.YthpgmjdepigihaaDoor
open Go.RowKit Go.Att
theorem slRowsA : SlT Tryd.prog 23 22 1 24 (.slice none 0 0) := .mk' Tryd.underlying23 (by kernel_rfl) (by decide)
set_option maxRecDepth 100000 in
set_option maxHeartbeats 4000000 in
theorem rpairs_any (p : Int) (v : Value) (L : List (List Int)) (a b : Nat) (w : World) (hv : Rws w v L) (hl : ∀ i, i < L.length → 20 ≤ (nthL L i).length) (ha : a ≤ 16) (hb : b ≤ 16) (hs : L.length ≤ 1048576) (hp : 2 ≤ p) (hp2 : p ≤ 2147483647) :
    Calls Tryd.prog 78 #[.int .i64 p, v, .int .i64 a, .int .i64 b] w (Gives w fun u w' => Prs w' u (prsL p L a b)) := by
  obtain ⟨R, hv⟩ := hv
  have hll := hv.run_len (P := Tryd.prog) slRowsA
  have HV := Lib.hid hv; have HL := Lib.hid hl
  clear hv hl
  go_enter Tryd.func78, Tryd.ntmps78
  go_wp2_with fail
  go_loopw [9, 10] (fun x9 x10 wr => ∃ i : Nat, i ≤ L.length ∧ x10 = .int .i64 i ∧ wr.ownsRow w.heap.size 128 2 x9 (4 * i) (flatP (prsL p (L.take i) a b)) ∧ Ext w wr) (fun _ x10 _ => L.length - (intOf x10).toNat)
  case atStart => exact ⟨0, Nat.zero_le _, rfl, World.ownsRow_nil _ _ _ _, Ext.refl _⟩
  case round =>
    obtain ⟨i, hi, rfl, HO, HX⟩ := hrel
    by_cases hil : i < L.length
    · have HTK := Lib.hid (prsL_take (p := p) (a := a) (v := b) hil)
      go_wp2_with fail
      go_loopw [9, 11] (fun x9 x11 ws => ∃ j : Nat, j ≤ 4 ∧ x11 = .int .i64 j ∧ ws.ownsRow w.heap.size 128 2 x9 (4 * i + j) (flatP (prsL p (L.take i) a b ++ (prsR p (nthL L i) a b).take j)) ∧ Ext w ws) (fun _ x11 _ => 4 - (intOf x11).toNat)
      case atStart => exact ⟨0, by omega, rfl, by simpa using HO, HX⟩
      case round =>
        clear HO HX
        obtain ⟨j, hj, rfl, HO, HX⟩ := hrel
        by_cases hj4 : j < 4
        · have hrl := HL.out i hil
          have hix := HV.out.run_index (P := Tryd.prog) slRowsA i hil
          have hc := (HV.out.ext HX).cell i hil
          have hrow := (HV.out.row i hil).ext HX
          have hia := hrow.run_index (P := Tryd.prog) slIntY (a + j) (by omega)
          have hca := hrow.cell (a + j) (by omega)
          have hib := hrow.run_index (P := Tryd.prog) slIntY (b + j) (by omega)
          have hcb := hrow.cell (b + j) (by omega)
          rw [show ((a + j : Nat) : Int) = (a : Int) + j by omega] at hia
          rw [show ((b + j : Nat) : Int) = (b : Int) + j by omega] at hib
          have HT2 := Lib.hid (prsR_take (p := p) (r := nthL L i) (a := a) (v := b) hj4)
          clear hrow hrl
          go_wp2_with (first | (go_at_call 63; refine (rof_any _ _ _ hp hp2).mono ?_; rintro e w2 ⟨rfl, rfl⟩) | (at_builtin; refine wpList_appP rfl _ _ 51 rfl slCells rfl HX HO rfl rfl (by omega) (by omega) ?_; intro v' w3 HO' HX' _))
          go_roundw
          case rel => exact ⟨j + 1, by omega, by go_num, by rw [HT2.out, ← List.append_assoc]; exact HO', HX'⟩
          case measure => simp [intOf]; omega
        · obtain rfl : j = 4 := by omega
          go_wp2_with fail
          go_roundw
          case rel => exact ⟨i + 1, by omega, by go_num, by rw [HTK.out]; rw [show List.take 4 (prsR p (nthL L i) a b) = prsR p (nthL L i) a b from List.take_of_length_le (by rw [prsR_length]; exact Nat.le_refl _)] at HO; exact HO, HX⟩
          case measure => simp [intOf]; omega
    · obtain rfl : i = L.length := by omega
      rw [List.take_length] at HO
      have HP := Lib.hid (Prs.of_own HO)
      have HXH := Lib.hid HX
      clear HO HX
      go_wp2_with fail
      go_ret
      exact .mk _ rfl HXH.out HP.out
set_option maxRecDepth 100000 in
set_option maxHeartbeats 4000000 in
theorem ralike_any (p : Int) (v : Value) (L : List (List Int)) (w : World) (hv : Rws w v L) (hs : L.length ≤ 1048576) (hp : 2 ≤ p) (hp2 : p ≤ 2147483647) :
    Calls Tryd.prog 23 #[.int .i64 p, v] w fun e w' => e = .returned (.bool (alikeB p L)) ∧ Ext w w' := by
  obtain ⟨R, hv⟩ := hv
  have hll := hv.run_len (P := Tryd.prog) slRowsA
  have HV := Lib.hid hv
  clear hv
  go_enter Tryd.func23, Tryd.ntmps23
  go_wp2_with fail
  go_loopw [5] (fun x5 wr => ∃ i : Nat, i ≤ L.length ∧ x5 = .int .i64 i ∧ Hid (∀ k, k < i → 20 ≤ (nthL L k).length) ∧ w = wr) (fun x5 _ => L.length - (intOf x5).toNat)
  case atStart => exact ⟨0, Nat.zero_le _, rfl, Lib.hid (fun k hk => by omega), rfl⟩
  case round =>
    obtain ⟨i, hi, rfl, H, rfl⟩ := hrel
    by_cases hil : i < L.length
    · have hix := HV.out.run_index (P := Tryd.prog) slRowsA i hil
      have hc := HV.out.cell i hil
      have hrow := HV.out.row i hil
      have hlr := hrow.run_len (P := Tryd.prog) slIntY
      clear hrow
      by_cases h20 : (nthL L i).length < 20
      · have HF := Lib.hid (show false = alikeB p L by unfold alikeB; rw [short_yes hil h20]; rfl)
        go_wp2_with fail
        go_ret
        exact ⟨ret_bool HF.out, Ext.refl _⟩
      · have HN := Lib.hid h20
        go_wp2_with fail
        go_roundw
        case rel => exact ⟨i + 1, by omega, by go_num, Lib.hid (fun k hk => by
          rcases Nat.lt_or_eq_of_le (show k ≤ i by omega) with h | rfl
          · exact H.out k h
          · have := HN.out; omega), trivial⟩
        case measure => simp [intOf]; omega
    · obtain rfl : i = L.length := by omega
      have HS := Lib.hid (short_all H.out)
      have C1 : Calls Tryd.prog 78 #[.int .i64 p, v, .int .i64 3, .int .i64 7] w (Gives w fun u w' => Prs w' u (prsL p L 3 7)) := rpairs_any p v L 3 7 w ⟨R, HV.out⟩ H.out (by omega) (by omega) hs hp hp2
      go_wp2_with fail
      (with_reducible refine C1.mono ?_)
      rintro e w1 ⟨u1, rfl, hx1, hp1⟩
      have C2 : Calls Tryd.prog 78 #[.int .i64 p, v, .int .i64 12, .int .i64 16] w1 (Gives w1 fun u w' => Prs w' u (prsL p L 12 16)) := rpairs_any p v L 12 16 w1 ⟨R, HV.out.ext hx1⟩ H.out (by omega) (by omega) hs hp hp2
      have HX1 := Lib.hid hx1; have HP1 := Lib.hid hp1
      clear C1 hx1 hp1
      go_wp2_with fail
      (with_reducible refine C2.mono ?_)
      rintro e w2 ⟨u2, rfl, hx2, hp2'⟩
      have C3 := each_any u1 u2 _ _ w2 (HP1.out.ext hx2) hp2' (by rw [prsL_length]; omega) (by rw [prsL_length]; omega)
      have HX2 := Lib.hid (HX1.out.trans hx2)
      have HE := Lib.hid (show permB (prsL p L 3 7) (prsL p L 12 16) = alikeB p L by unfold alikeB; rw [HS.out]; rfl)
      clear C2 hx2 hp2'
      go_wp2_with fail
      (with_reducible refine C3.mono ?_)
      rintro e w3 ⟨rfl, hx3⟩
      have HX3 := Lib.hid (HX2.out.trans hx3)
      clear hx3 C3
      go_wp2_with fail
      go_ret
      exact ⟨ret_bool HE.out, HX3.out⟩
set_option maxRecDepth 100000 in
set_option maxHeartbeats 4000000 in
theorem rcol_any (p x y : Int) (v : Value) (L : List (List Int)) (w : World) (hv : Rws w v L) (hs : L.length ≤ 1048576) (hp : 2 ≤ p) (hp2 : p ≤ 2147483647) :
    Calls Tryd.prog 25 #[.int .i64 p, v, .int .i64 x, .int .i64 y] w (Gives w (ColGot p x y L)) := by
  obtain ⟨R, hv⟩ := hv
  have hll := hv.run_len (P := Tryd.prog) slRowsA
  have HV := Lib.hid hv
  clear hv
  by_cases h0 : L.length = 0
  · have hb : ((L.length : Int) == 0) = true := by rw [beq_iff_eq]; omega
    have HN := Lib.hid (prod_empty (p := p) (x := x) (y := y) h0)
    clear h0
    go_enter Tryd.func25, Tryd.ntmps25
    go_wp2_with fail
    go_ret2
    exact .mk _ rfl (Ext.refl _) (col_no HN.out)
  have hb : ((L.length : Int) == 0) = false := by rw [beq_eq_false_iff_ne]; omega
  have HP0 := Lib.hid (show 0 < L.length by omega)
  clear h0
  go_enter Tryd.func25, Tryd.ntmps25
  go_wp2_with fail
  go_loopw [10] (fun x5 wr => ∃ i : Nat, i ≤ L.length ∧ x5 = .int .i64 i ∧ Hid (∀ k, k < i → 20 ≤ (nthL L k).length) ∧ w = wr) (fun x5 _ => L.length - (intOf x5).toNat)
  case atStart => exact ⟨0, Nat.zero_le _, rfl, Lib.hid (fun k hk => by omega), rfl⟩
  case round =>
    obtain ⟨i, hi, rfl, H, rfl⟩ := hrel
    by_cases hil : i < L.length
    · have hix := HV.out.run_index (P := Tryd.prog) slRowsA i hil
      have hc := HV.out.cell i hil
      have hrow := HV.out.row i hil
      have hlr := hrow.run_len (P := Tryd.prog) slIntY
      clear hrow
      by_cases h20 : (nthL L i).length < 20
      · have HF := Lib.hid (prod_short (p := p) (x := x) (y := y) (short_yes hil h20))
        go_wp2_with fail
        go_ret2
        exact .mk _ rfl (Ext.refl _) (col_no HF.out)
      · have HN := Lib.hid h20
        go_wp2_with fail
        go_roundw
        case rel => exact ⟨i + 1, by omega, by go_num, Lib.hid (fun k hk => by
          rcases Nat.lt_or_eq_of_le (show k ≤ i by omega) with h | rfl
          · exact H.out k h
          · have := HN.out; omega), trivial⟩
        case measure => simp [intOf]; omega
    · obtain rfl : i = L.length := by omega
      have HS := Lib.hid (short_all H.out)
      clear hb
      go_wp2_with fail
      go_loopw [11, 12, 13] (fun x11 x12 x13 wr => ∃ i : Nat, i ≤ L.length ∧ x13 = .int .i64 i ∧ x12 = .int .i64 (zAt p x y L i) ∧ Hid (wr.ownsRow w.heap.size 3 1 x11 i (((zsL p x y L).take i).map (Value.int .i64))) ∧ Hid (∀ k, k < i → facA p x y (nthL L k) ≠ 0 ∧ facB p x y (nthL L k) ≠ 0) ∧ Hid (Ext w wr)) (fun _ _ x13 _ => L.length - (intOf x13).toNat)
      case atStart => exact ⟨0, Nat.zero_le _, rfl, rfl, Lib.hid (World.ownsRow_nil _ _ _ _), Lib.hid (fun k hk => by omega), Lib.hid (Ext.refl _)⟩
      case round =>
        obtain ⟨i, hi, rfl, rfl, HO, HF, HX⟩ := hrel
        by_cases hil2 : i < L.length
        · have hown := HO.out
          have HT := Lib.hid (zsL_take (p := p) (x := x) (y := y) hil2)
          have hsx := HX.out.size
          have HZ := Lib.hid (show zAt p x y L (i + 1) = fmul p (zAt p x y L i) (fdiv p (facA p x y (nthL L i)) (facB p x y (nthL L i))) from rfl)
          obtain ⟨u, hcut, hone⟩ := one_row HV.out slRowsA hil2
          have HONE := Lib.hid hone
          have hrl : ∀ k, k < [nthL L i].length → 20 ≤ (nthL [nthL L i] k).length := by
            intro k hk
            have : k = 0 := by simp at hk; omega
            subst this
            exact H.out i hil2
          have HRL := Lib.hid hrl
          generalize zAt p x y L i = zi at *
          clear hone hrl
          go_wp2_with (at_builtin; refine wpList_appNw rfl _ _ 22 rfl slIntY rfl hsx hown rfl #[.int .i64 zi] rfl (by intro u hu; simp at hu; subst hu; rfl) rfl (by omega) (by omega) ?_; intro v2 w2 HO2 HG2 _)
          have HX2 := Lib.hid (Ext.own_grown HX.out HO.out HG2)
          have HOH := Lib.hid HO2
          have C1 : Calls Tryd.prog 78 #[.int .i64 p, u, .int .i64 3, .int .i64 7] w2 (Gives w2 fun u w' => Prs w' u (prsL p [nthL L i] 3 7)) := rpairs_any p u [nthL L i] 3 7 w2 ⟨_, HONE.out.ext HX2.out⟩ HRL.out (by omega) (by omega) (by simp) hp hp2
          rw [prsL_one] at C1
          clear hown HO2 HG2 hsx
          (with_reducible refine C1.mono ?_)
          rintro e w3 ⟨u3, rfl, hx3, hp3⟩
          have C2 := make_any p x y u3 _ w3 hp3 hp hp2
          rw [show fprod p y x (prsR p (nthL L i) 3 7) = facA p x y (nthL L i) from rfl] at C2
          have HX3 := Lib.hid hx3
          clear C1 hx3 hp3
          go_wp2_with fail
          (with_reducible refine C2.mono ?_)
          rintro e w4 ⟨rfl, hx4⟩
          have HX4 := Lib.hid (HX3.out.trans hx4)
          have C3 : Calls Tryd.prog 78 #[.int .i64 p, u, .int .i64 12, .int .i64 16] w4 (Gives w4 fun u w' => Prs w' u (prsL p [nthL L i] 12 16)) := rpairs_any p u [nthL L i] 12 16 w4 ⟨_, HONE.out.ext (HX2.out.trans HX4.out)⟩ HRL.out (by omega) (by omega) (by simp) hp hp2
          rw [prsL_one] at C3
          clear C2 hx4
          go_wp2_with fail
          (with_reducible refine C3.mono ?_)
          rintro e w5 ⟨u5, rfl, hx5, hp5⟩
          have C4 := make_any p x y u5 _ w5 hp5 hp hp2
          rw [show fprod p y x (prsR p (nthL L i) 12 16) = facB p x y (nthL L i) from rfl] at C4
          have HX5 := Lib.hid (HX4.out.trans hx5)
          clear C3 hx5 hp5
          go_wp2_with fail
          (with_reducible refine C4.mono ?_)
          rintro e w6 ⟨rfl, hx6⟩
          have HX6 := Lib.hid (HX5.out.trans hx6)
          clear C4 hx6 hcut
          by_cases hA : facA p x y (nthL L i) = 0
          · have HN := Lib.hid (prod_zero hil2 (.inl hA))
            rw [hA]
            clear hA
            go_wp2_with fail
            go_ret2
            exact .mk _ rfl (HX2.out.trans HX6.out) (col_no HN.out)
          · have hbA : (facA p x y (nthL L i) == 0) = false := by rw [beq_eq_false_iff_ne]; exact hA
            by_cases hB : facB p x y (nthL L i) = 0
            · have HN := Lib.hid (prod_zero hil2 (.inr hB))
              rw [hB]
              clear hA hB
              go_wp2_with fail
              go_ret2
              exact .mk _ rfl (HX2.out.trans HX6.out) (col_no HN.out)
            · have hbB : (facB p x y (nthL L i) == 0) = false := by rw [beq_eq_false_iff_ne]; exact hB
              have HNEW := Lib.hid (show ∀ k, k < i + 1 → facA p x y (nthL L k) ≠ 0 ∧ facB p x y (nthL L k) ≠ 0 from fun k hk => by
                rcases Nat.lt_or_eq_of_le (show k ≤ i by omega) with h | rfl
                · exact HF.out k h
                · exact ⟨hA, hB⟩)
              clear hA hB
              generalize facA p x y (nthL L i) = fa at *
              generalize facB p x y (nthL L i) = fb at *
              go_wp2_with (first | (go_at_call 84; refine (rdiv_any _ _ _ _ hp hp2).mono ?_; rintro e w7 ⟨rfl, rfl⟩) | (go_at_call 85; refine (rmul_any _ _ _ _ hp hp2).mono ?_; rintro e w7 ⟨rfl, rfl⟩))
              go_roundw
              case rel => exact ⟨i + 1, by omega, by go_num, by rw [HZ.out], Lib.hid (by rw [HT.out, List.map_append]; exact own_ext HOH.out HX6.out), HNEW, Lib.hid (HX2.out.trans HX6.out)⟩
              case measure => simp [intOf]; omega
        · obtain rfl : i = L.length := by omega
          have HN := Lib.hid (prod_all HP0.out HS.out HF.out)
          have HI := Lib.hid (show Ints wr _ (zsL p x y L) from Ints.of_own (by have := HO.out; rw [List.take_of_length_le (by rw [zsL_length]; exact Nat.le_refl _)] at this; exact this))
          generalize zAt p x y L L.length = zi at *
          go_wp2_with fail
          go_ret2
          exact .mk _ rfl HX.out (col_yes HN.out HI.out)
end Go.Proofs.YthpgmjdepigihaaDoor
