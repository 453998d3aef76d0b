/- Pairs of rows; their products: the plain words; the document's side: contracts. WholeComposes, plain: what all rules come to at a point, on both sides. No program in sight. -/
import Derived.Test.YtnmjaddhbecopaaGreatDoorGa
import Derived.Test.YtnmjaddhbecopaaGreatDoorHa
import Derived.Test.YtnmjaddhbecopaaGreatDoorZx9
import Derived.Test.YtnmjaddhbecopaaGreatDoorZx8
import Derived.Test.YtnmjaddhbecopaaGreatDoorHb
section
namespace Go.Att
open Go.RowKit
/-- The pairs of a row that begin at two places, as elements. -/
def prsR (p : Int) (r : List Int) (a v : Nat) : List (Int × Int) := (List.range 4).map fun j => (fof p (nth r (a + j)), fof p (nth r (v + j)))
def prsL (p : Int) (L : List (List Int)) (a v : Nat) : List (Int × Int) := L.flatMap fun r => prsR p r a v
def shortB (L : List (List Int)) : Bool := L.any fun r => decide (r.length < 20)
noncomputable def alikeB (p : Int) (L : List (List Int)) : Bool := !shortB L && permB (prsL p L 3 7) (prsL p L 12 16)
theorem prsR_length (p : Int) (r : List Int) (a v : Nat) : (prsR p r a v).length = 4 := by simp [prsR]
theorem prsR_take {p : Int} {r : List Int} {a v j : Nat} (h : j < 4) : (prsR p r a v).take (j + 1) = (prsR p r a v).take j ++ [(fof p (nth r (a + j)), fof p (nth r (v + j)))] := by
  rw [List.take_succ_eq_append_getElem (by rw [prsR_length]; exact h)]
  congr 1
  simp [prsR]
theorem prsL_take {p : Int} {L : List (List Int)} {a v i : Nat} (h : i < L.length) : prsL p (L.take (i + 1)) a v = prsL p (L.take i) a v ++ prsR p (nthL L i) a v := by
  unfold prsL
  rw [List.take_succ_eq_append_getElem h, List.flatMap_append, nthL_eq h]
  simp
theorem prsL_length (p : Int) (L : List (List Int)) (a v : Nat) : (prsL p L a v).length = 4 * L.length := by
  induction L with
  | nil => rfl
  | cons r L ih =>
    have : prsL p (r :: L) a v = prsR p r a v ++ prsL p L a v := rfl
    rw [this, List.length_append, ih, prsR_length, List.length_cons]; omega
theorem short_no {L : List (List Int)} (h : shortB L = false) {i : Nat} (hi : i < L.length) : 20 ≤ (nthL L i).length := by
  unfold shortB at h
  rw [List.any_eq_false] at h
  have := h (nthL L i) (by rw [nthL_eq hi]; exact List.getElem_mem hi)
  simp at this; omega
theorem short_yes {L : List (List Int)} {i : Nat} (hi : i < L.length) (h : (nthL L i).length < 20) : shortB L = true := by
  unfold shortB
  rw [List.any_eq_true]
  exact ⟨nthL L i, by rw [nthL_eq hi]; exact List.getElem_mem hi, by simpa using h⟩
theorem short_all {L : List (List Int)} (h : ∀ i, i < L.length → 20 ≤ (nthL L i).length) : shortB L = false := by
  unfold shortB
  rw [List.any_eq_false]
  intro r hr
  obtain ⟨i, hi, rfl⟩ := List.getElem_of_mem hr
  have := h i hi
  rw [nthL_eq hi] at this
  simp; omega
/-- The products over a row's pairs, in both orders. -/
def facA (p x y : Int) (r : List Int) : Int := fprod p y x (prsR p r 3 7)
def facB (p x y : Int) (r : List Int) : Int := fprod p y x (prsR p r 12 16)
def zAt (p x y : Int) (L : List (List Int)) : Nat → Int
  | 0 => 1
  | i + 1 => fmul p (zAt p x y L i) (fdiv p (facA p x y (nthL L i)) (facB p x y (nthL L i)))
def zsL (p x y : Int) (L : List (List Int)) : List Int := (List.range L.length).map (zAt p x y L)
/-- Is there a last column? -/
def prodB (p x y : Int) (L : List (List Int)) : Bool := !L.isEmpty && !shortB L && L.all fun r => facA p x y r != 0 && facB p x y r != 0
theorem zsL_take {p x y : Int} {L : List (List Int)} {i : Nat} (h : i < L.length) : (zsL p x y L).take (i + 1) = (zsL p x y L).take i ++ [zAt p x y L i] := by
  rw [List.take_succ_eq_append_getElem (by simp [zsL]; exact h)]
  simp [zsL]
theorem zsL_length (p x y : Int) (L : List (List Int)) : (zsL p x y L).length = L.length := by simp [zsL]
theorem prod_empty {p x y : Int} {L : List (List Int)} (h : L.length = 0) : prodB p x y L = false := by
  have : L = [] := List.eq_nil_of_length_eq_zero h
  subst this; rfl
theorem prod_short {p x y : Int} {L : List (List Int)} (h : shortB L = true) : prodB p x y L = false := by unfold prodB; rw [h]; simp
theorem prod_zero {p x y : Int} {L : List (List Int)} {i : Nat} (hi : i < L.length) (h : facA p x y (nthL L i) = 0 ∨ facB p x y (nthL L i) = 0) : prodB p x y L = false := by
  unfold prodB
  have : (L.all fun r => facA p x y r != 0 && facB p x y r != 0) = false := by
    rw [List.all_eq_false]
    refine ⟨nthL L i, by rw [nthL_eq hi]; exact List.getElem_mem hi, ?_⟩
    rcases h with h | h <;> simp [h]
  rw [this]; simp
theorem prod_all {p x y : Int} {L : List (List Int)} (h0 : 0 < L.length) (hs : shortB L = false) (h : ∀ i, i < L.length → facA p x y (nthL L i) ≠ 0 ∧ facB p x y (nthL L i) ≠ 0) : prodB p x y L = true := by
  unfold prodB
  have h1 : L.isEmpty = false := by cases L <;> simp at *
  have : (L.all fun r => facA p x y r != 0 && facB p x y r != 0) = true := by
    rw [List.all_eq_true]
    intro r hr
    obtain ⟨i, hi, rfl⟩ := List.getElem_of_mem hr
    have := h i hi
    rw [nthL_eq hi] at this
    simp [this]
  rw [h1, hs, this]; rfl
/-- What is told of a last column. -/
def ColGot (p x y : Int) (L : List (List Int)) (v : Value) (w' : World) : Prop := ∃ u, v = .tuple #[u, .bool (prodB p x y L)] ∧ Ints w' u (if prodB p x y L = true then zsL p x y L else [])
theorem col_no {p x y : Int} {L : List (List Int)} {w' : World} (h : prodB p x y L = false) : ColGot p x y L (.tuple #[.slice none 0 0, .bool false]) w' := ⟨_, by rw [h], by rw [h]; exact Ints.nil _⟩
theorem col_yes {p x y : Int} {L : List (List Int)} {u : Value} {w' : World} (h : prodB p x y L = true) (hu : Ints w' u (zsL p x y L)) : ColGot p x y L (.tuple #[u, .bool true]) w' := ⟨u, by rw [h], by rw [h]; exact hu⟩
/-- One row, cut out. -/
theorem one_row {P : Program} {w : World} {v : Value} {L : List (List Int)} {R : Nat → Value} (h : RwsAt w v L R) {t e bytes : Nat} {z : Value} (ht : SlT P t e 1 bytes z) {i : Nat} (hi : i < L.length) :
    ∃ u, (∀ w', (Instr.sliceAt t v (some (.int .i64 i)) (some (.int .i64 ((i : Int) + 1))) none).run P w' = .ok u w') ∧ RwsAt w u [nthL L i] (fun _ => R i) := by
  obtain ⟨ao, cap, rfl, h2, h3, h4, h5⟩ := h.sl
  have hl1 : ((List.range L.length).map R).length = L.length := by simp
  obtain ⟨b, off, rfl, -⟩ := h5 0 (by rw [hl1]; omega)
  have hu : P.underlying t = some (.slice (P.elem t)) := by rw [ht.und, elem_of ht.und]
  refine ⟨.slice (some ⟨b, off + i, none⟩) 1 (cap - i), fun w' => ?_, ⟨⟨some ⟨b, off + i, none⟩, cap - i, rfl, by simp, by simp; omega, by omega, fun k hk => ?_⟩, fun k hk => ?_⟩⟩
  · rw [run_sliceAt_slice (h := hu), run_slice_lh (ht := hu) (h0 := by omega) (h1 := by omega) (h2 := by omega), elem_of ht.und, ht.run_size]
    have hne : ¬ cap = i := by omega
    have e1 : ((i : Int) + 1).toNat - i = 1 := by omega
    simp [Result.andThen, sliced, hne, Addr.add_lit]
  · simp at hk
    subst hk
    obtain ⟨b', off', e, hc⟩ := h5 i (by rw [hl1]; exact hi)
    simp only [Option.some.injEq, Addr.mk.injEq] at e
    obtain ⟨rfl, rfl, -⟩ := e
    exact ⟨b, off + i, rfl, by rw [Nat.add_zero, hc]; simp⟩
  · simp at hk
    subst hk
    exact h.row i hi
theorem prsL_one (p : Int) (r : List Int) (a v : Nat) : prsL p [r] a v = prsR p r a v := by simp [prsL]
end Go.Att
namespace Go.Proofs.YtnmjaddhbecopaaGreatDoor
open Go.RowKit Go.Att
theorem slRowsA : SlT Tryz.prog 22 23 1 24 (.slice none 0 0) := .mk' Tryz.underlying22 (by kernel_rfl) (by decide)
set_option maxRecDepth 100000 in
set_option maxHeartbeats 4000000 in
theorem rpairs_any (p : Int) (v : Value) (L : List (List Int)) (a b : Nat) (w : World) (hv : Rws w v L) (hl : ∀ i, i < L.length → 20 ≤ (nthL L i).length) (ha : a ≤ 16) (hb : b ≤ 16) (hs : L.length ≤ 1048576) (hp : 2 ≤ p) (hp2 : p ≤ 2147483647) :
    Calls Tryz.prog 220 #[.int .i64 p, v, .int .i64 a, .int .i64 b] w (Gives w fun u w' => Prs w' u (prsL p L a b)) := by
  obtain ⟨R, hv⟩ := hv
  have hll := hv.run_len (P := Tryz.prog) slRowsA
  have HV := Lib.hid hv; have HL := Lib.hid hl
  clear hv hl
  go_enter Tryz.func220, Tryz.ntmps220
  go_wp2_with fail
  go_loopw [9, 10] (fun x9 x10 wr => ∃ i : Nat, i ≤ L.length ∧ x10 = .int .i64 i ∧ wr.ownsRow w.heap.size 193 2 x9 (4 * i) (flatP (prsL p (L.take i) a b)) ∧ Ext w wr) (fun _ x10 _ => L.length - (intOf x10).toNat)
  case atStart => exact ⟨0, Nat.zero_le _, rfl, World.ownsRow_nil _ _ _ _, Ext.refl _⟩
  case round =>
    obtain ⟨i, hi, rfl, HO, HX⟩ := hrel
    by_cases hil : i < L.length
    · have HTK := Lib.hid (prsL_take (p := p) (a := a) (v := b) hil)
      go_wp2_with fail
      go_loopw [9, 11] (fun x9 x11 ws => ∃ j : Nat, j ≤ 4 ∧ x11 = .int .i64 j ∧ ws.ownsRow w.heap.size 193 2 x9 (4 * i + j) (flatP (prsL p (L.take i) a b ++ (prsR p (nthL L i) a b).take j)) ∧ Ext w ws) (fun _ x11 _ => 4 - (intOf x11).toNat)
      case atStart => exact ⟨0, by omega, rfl, by simpa using HO, HX⟩
      case round =>
        clear HO HX
        obtain ⟨j, hj, rfl, HO, HX⟩ := hrel
        by_cases hj4 : j < 4
        · have hrl := HL.out i hil
          have hix := HV.out.run_index (P := Tryz.prog) slRowsA i hil
          have hc := (HV.out.ext HX).cell i hil
          have hrow := (HV.out.row i hil).ext HX
          have hia := hrow.run_index (P := Tryz.prog) slIntY (a + j) (by omega)
          have hca := hrow.cell (a + j) (by omega)
          have hib := hrow.run_index (P := Tryz.prog) slIntY (b + j) (by omega)
          have hcb := hrow.cell (b + j) (by omega)
          rw [show ((a + j : Nat) : Int) = (a : Int) + j by omega] at hia
          rw [show ((b + j : Nat) : Int) = (b : Int) + j by omega] at hib
          have HT2 := Lib.hid (prsR_take (p := p) (r := nthL L i) (a := a) (v := b) hj4)
          clear hrow hrl
          go_wp2_with (first | (go_at_call 47; refine (rof_any _ _ _ hp hp2).mono ?_; rintro e w2 ⟨rfl, rfl⟩) | (at_builtin; refine wpList_appP rfl _ _ 96 rfl slCells rfl HX HO rfl rfl (by omega) (by omega) ?_; intro v' w3 HO' HX' _))
          go_roundw
          case rel => exact ⟨j + 1, by omega, by go_num, by rw [HT2.out, ← List.append_assoc]; exact HO', HX'⟩
          case measure => simp [intOf]; omega
        · obtain rfl : j = 4 := by omega
          go_wp2_with fail
          go_roundw
          case rel => exact ⟨i + 1, by omega, by go_num, by rw [HTK.out]; rw [show List.take 4 (prsR p (nthL L i) a b) = prsR p (nthL L i) a b from List.take_of_length_le (by rw [prsR_length]; exact Nat.le_refl _)] at HO; exact HO, HX⟩
          case measure => simp [intOf]; omega
    · obtain rfl : i = L.length := by omega
      rw [List.take_length] at HO
      have HP := Lib.hid (Prs.of_own HO)
      have HXH := Lib.hid HX
      clear HO HX
      go_wp2_with fail
      go_ret
      exact .mk _ rfl HXH.out HP.out
end Go.Proofs.YtnmjaddhbecopaaGreatDoor
end
section
namespace Go.Att
theorem finv_finv {p : Int} (hp : Pr p) (hp3 : 3 ≤ p) (a : Int) : finv p (finv p a) = a % p := by
  unfold finv
  rw [pow_mod, ← Int.pow_mul]
  by_cases h : p ∣ a
  · obtain ⟨c, rfl⟩ := h
    have e : 0 < (p - 2).toNat * (p - 2).toNat := Nat.mul_pos (by omega) (by omega)
    obtain ⟨m, hm⟩ : ∃ m, (p - 2).toNat * (p - 2).toNat = m + 1 := ⟨_, (Nat.succ_pred_eq_of_pos e).symm⟩
    rw [hm, Int.pow_succ, Int.mul_emod_right]
    rw [show (p * c) ^ m * (p * c) = p * ((p * c) ^ m * c) by rw [Int.mul_left_comm], Int.mul_emod_right]
  · have hf := fermat hp h
    obtain ⟨q, hq⟩ : ∃ q : Nat, (p - 2).toNat = q + 1 := ⟨(p - 3).toNat, by omega⟩
    have hq1 : (p - 1).toNat = q + 2 := by omega
    have e : (p - 2).toNat * (p - 2).toNat = (p - 1).toNat * q + 1 := by
      rw [hq, hq1, Nat.add_mul, Nat.mul_add, Nat.mul_add, Nat.add_mul]; omega
    rw [e, Int.pow_succ, Int.mul_emod, pow_one_mul (by omega) hf q, Int.one_mul, Int.emod_emod]
theorem finv_prod (p a b : Int) : finv p (a * b) = finv p a * finv p b % p := by
  unfold finv
  rw [Int.mul_pow, ← Int.mul_emod]
theorem finv_mod (p a : Int) : finv p (a % p) = finv p a := by unfold finv; rw [pow_mod]
theorem div_div {p : Int} (hp : Pr p) (hp3 : 3 ≤ p) (x a e : Int) : fdiv p x (fdiv p a e) = fdiv p (fmul p x e) a := by
  have h : finv p (fdiv p a e) = finv p a * e % p := by
    unfold fdiv
    rw [finv_mod, finv_prod, finv_finv hp hp3, em_r]
  unfold fdiv at h ⊢
  unfold fmul
  rw [h, em_r, em_l]
  congr 1
  rw [Int.mul_assoc, Int.mul_comm e]
/-- What a rule is divided by. -/
def divP (p t last : Int) (n k : Nat) : Int :=
  if k = 0 then fsub p (fpow p t n) 1 else if k = 1 then fdiv p (fsub p (fpow p t n) 1) (fsub p t last) else if k = 2 then fsub p t 1 else fsub p t last
/-- A rule, divided: the document's. -/
def divD (p t last : Int) (n k : Nat) (x : Int) : Int :=
  if k = 0 then fdiv p x (fsub p (fpow p t n) 1) else if k = 1 then fdiv p (fmul p x (fsub p t last)) (fsub p (fpow p t n) 1) else if k = 2 then fdiv p x (fsub p t 1) else fdiv p x (fsub p t last)
theorem div_same {p : Int} (hp : Pr p) (hp3 : 3 ≤ p) (t last : Int) (n k : Nat) (x : Int) : fdiv p x (divP p t last n k) = divD p t last n k x := by
  unfold divP divD
  by_cases h0 : k = 0
  · rw [if_pos h0, if_pos h0]
  · rw [if_neg h0, if_neg h0]
    by_cases h1 : k = 1
    · rw [if_pos h1, if_pos h1]; exact div_div hp hp3 _ _ _
    · rw [if_neg h1, if_neg h1]
      by_cases h2 : k = 2
      · rw [if_pos h2, if_pos h2]
      · rw [if_neg h2, if_neg h2]
/-- The first numbers, each times a power, and the power. -/
def sumU (p a : Int) (f : Nat → Int) : Nat → Int × Int
  | 0 => (0, 1)
  | i + 1 => (fadd p (sumU p a f i).1 (fmul p (sumU p a f i).2 (f i)), fmul p (sumU p a f i).2 a)
theorem sumU_congr {p a : Int} {f g : Nat → Int} : ∀ {n : Nat}, (∀ i, i < n → f i = g i) → sumU p a f n = sumU p a g n := by
  intro n
  induction n with
  | zero => intro _; rfl
  | succ n ih => intro h; simp only [sumU]; rw [ih (fun i hi => h i (by omega)), h n (by omega)]
theorem sumU_bd {p a : Int} (hp : 2 ≤ p) (f : Nat → Int) (n : Nat) : (0 ≤ (sumU p a f n).1 ∧ (sumU p a f n).1 < p) ∧ (0 ≤ (sumU p a f n).2 ∧ (sumU p a f n).2 < p) := by
  cases n with
  | zero => simp only [sumU]; omega
  | succ n => exact ⟨fadd_bd hp _ _, fmul_bd hp _ _⟩
section
variable (p sz out : Int) (cd : List In4) (x y a t last : Int) (n : Nat) (r nx : List Int) (z zn : Int)
/-- What all rules say at a point, divided: the program's. -/
def termP (i : Nat) : Int :=
  if i < cd.length + 26 then fdiv p (nth (rulesK p sz out cd r nx) i) (divP p t last n (kindR cd.length i))
  else if i = cd.length + 26 then fdiv p (fsub p (fmul p zn (facB p x y r)) (fmul p z (facA p x y r))) (divP p t last n 0)
  else fdiv p (fsub p z 1) (divP p t last n 2)
/-- .. the document's. -/
def termD (i : Nat) : Int :=
  if i < cd.length + 26 then divD p t last n (kindR cd.length i) (ruleD p sz out cd r nx i)
  else if i = cd.length + 26 then divD p t last n 0 (fsub p (fmul p (facB p x y r) zn) (fmul p (facA p x y r) z))
  else divD p t last n 2 (fsub p z 1)
theorem term_same (hp : Pr p) (hp3 : 3 ≤ p) (i : Nat) : termP p sz out cd x y t last n r nx z zn i = termD p sz out cd x y t last n r nx z zn i := by
  unfold termP termD
  by_cases h : i < cd.length + 26
  · rw [if_pos h, if_pos h, rule_same h, div_same hp hp3]
  · rw [if_neg h, if_neg h]
    by_cases h2 : i = cd.length + 26
    · rw [if_pos h2, if_pos h2, div_same hp hp3, fmul_comm zn, fmul_comm z]
    · rw [if_neg h2, if_neg h2, div_same hp hp3]
/-- What all rules come to at a point. -/
def atC : Int := (sumU p a (termD p sz out cd x y t last n r nx z zn) (cd.length + 28)).1
end
/-- A column of a table. -/
def colL (L : List (List Int)) (j : Nat) : List Int := L.map fun r => nth r j
theorem colL_length (L : List (List Int)) (j : Nat) : (colL L j).length = L.length := by simp [colL]
theorem colL_snoc {L : List (List Int)} {k i : Nat} (hi : i < L.length) : ((colL L k).take (i + 1)).map (Value.int .i64) = ((colL L k).take i).map (Value.int .i64) ++ [.int .i64 (nth (nthL L i) k)] := by
  rw [List.take_succ_eq_append_getElem (by rw [colL_length]; exact hi), List.map_append]
  simp [colL, nthL_eq hi]
end Go.Att
end
