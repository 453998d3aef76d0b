/- Tables, the document's side: plain words; hint, used: contracts. -/
import Derived.Test.YtainhfnanamobaaGreatDoorTs
import Derived.Test.YtainhfnanamobaaGreatDoorTg
import Derived.Test.YtainhfnanamobaaGreatDoorA2
import Derived.Test.YtainhfnanamobaaGreatDoorHa
import Derived.Test.YtainhfnanamobaaGreatDoorSo
namespace Go.Att
open Go.RowKit
theorem topL_same {xs ys : List Int} (h : ∀ x, x ∈ xs ↔ x ∈ ys) : topL xs = topL ys := by
  have h1 := topL_bd (xs := xs) (b := topL ys) (fun x hx => topL_ge x ((h x).1 hx)) (top_fold ys 0).1
  have h2 := topL_bd (xs := ys) (b := topL xs) (fun x hx => topL_ge x ((h x).2 hx)) (top_fold xs 0).1
  omega
/-- The places of the steps that the first rows show. -/
def atsTo (l : List Stp) (n : Nat) : List Int := (List.range n).flatMap fun i => atsOf (stpAt l i)
theorem atsTo_succ (l : List Stp) (n : Nat) : atsTo l (n + 1) = atsTo l n ++ atsOf (stpAt l n) := by simp [atsTo, List.range_succ]
theorem mem_atsTo {l : List Stp} {n : Nat} {a : Int} : a ∈ atsTo l n ↔ ∃ i, i < n ∧ (a = accA (stpAt l i).acc 0 ∨ a = accA (stpAt l i).acc 1 ∨ a = accA (stpAt l i).acc 2) := by
  unfold atsTo atsOf
  simp [List.mem_flatMap, List.mem_range]
theorem atsTo_all {l : List Stp} {n : Nat} (hne : 1 ≤ l.length) (hn : l.length ≤ n) (a : Int) : a ∈ atsTo l n ↔ a ∈ atsAll l := by
  rw [mem_atsTo, mem_ats]
  constructor
  · rintro ⟨i, _, h⟩
    have hm := stpAt_mem hne i
    rcases h with rfl | rfl | rfl
    · exact ⟨_, hm, 0, by omega, rfl⟩
    · exact ⟨_, hm, 1, by omega, rfl⟩
    · exact ⟨_, hm, 2, by omega, rfl⟩
  · rintro ⟨t, ht, j, hj, rfl⟩
    obtain ⟨i, hi, rfl⟩ := List.getElem_of_mem ht
    have e : stpAt l i = l[i] := by
      unfold stpAt
      rw [show min i (l.length - 1) = i by omega, List.getD_eq_getElem?_getD, List.getElem?_eq_getElem hi]; rfl
    refine ⟨i, by omega, ?_⟩
    rw [e]
    have h3 : j = 0 ∨ j = 1 ∨ j = 2 := by omega
    rcases h3 with rfl | rfl | rfl <;> simp
/-- Is a place one of a row's? -/
def usedR (r : List Int) (a : Int) : Bool := (nth r 3 == a) || (nth r 4 == a) || (nth r 5 == a)
def usedB (L : List (List Int)) (a : Int) : Bool := L.any fun r => usedR r a
theorem used_no {L : List (List Int)} {a : Int} (h : ∀ i, i < L.length → usedR (nthL L i) a = false) : usedB L a = false := by
  unfold usedB
  rw [List.any_eq_false]
  intro r hr
  obtain ⟨i, hi, rfl⟩ := List.getElem_of_mem hr
  have := h i hi
  rw [nthL_eq hi] at this
  rw [this]; simp
theorem used_yes {L : List (List Int)} {a : Int} {i : Nat} (hi : i < L.length) (h : usedR (nthL L i) a = true) : usedB L a = true := by
  unfold usedB
  rw [List.any_eq_true]
  exact ⟨nthL L i, by rw [nthL_eq hi]; exact List.getElem_mem hi, h⟩
theorem usedB_rows {p : Int} {cd : List In4} {l : List Stp} {ms : List Int} {S : List (Int × Int)} {j n : Nat} {a : Int} : usedB ((List.range n).map fun r => rowK p cd (stpAt l r) (nth ms r) S j r) a = decide (a ∈ atsTo l n) := by
  unfold usedB
  rw [Bool.eq_iff_iff, List.any_eq_true, decide_eq_true_iff, mem_atsTo]
  constructor
  · rintro ⟨r, hr, h⟩
    obtain ⟨i, hi, rfl⟩ := List.mem_map.1 hr
    refine ⟨i, List.mem_range.1 hi, ?_⟩
    have h : ((accA (stpAt l i).acc 0 == a) || (accA (stpAt l i).acc 1 == a) || (accA (stpAt l i).acc 2 == a)) = true := h
    simp only [Bool.or_eq_true, beq_iff_eq] at h
    omega
  · rintro ⟨i, hi, h⟩
    refine ⟨_, List.mem_map.2 ⟨i, List.mem_range.2 hi, rfl⟩, ?_⟩
    show ((accA (stpAt l i).acc 0 == a) || (accA (stpAt l i).acc 1 == a) || (accA (stpAt l i).acc 2 == a)) = true
    simp only [Bool.or_eq_true, beq_iff_eq]
    omega
theorem prsL_rowK {p : Int} {cd : List In4} {l : List Stp} {ms : List Int} {S : List (Int × Int)} {j n : Nat} (hb : ∀ c ∈ prsT l ms n, fof p c.1 = c.1 ∧ fof p c.2 = c.2) :
    prsL p ((List.range n).map fun r => rowK p cd (stpAt l r) (nth ms r) S j r) 3 7 = prsT l ms n := by
  induction n with
  | zero => rfl
  | succ n ih =>
    have b0 := hb _ (mem_prsT.2 ⟨n, by omega, .inl ⟨0, by omega, rfl⟩⟩)
    have b1 := hb _ (mem_prsT.2 ⟨n, by omega, .inl ⟨1, by omega, rfl⟩⟩)
    have b2 := hb _ (mem_prsT.2 ⟨n, by omega, .inl ⟨2, by omega, rfl⟩⟩)
    have b3 := hb _ (mem_prsT.2 ⟨n, by omega, .inr rfl⟩)
    have ih := ih (fun c hc => hb c (by rw [prsT_succ, List.mem_append]; exact .inl hc))
    rw [List.range_succ, List.map_append, prsT_succ]
    unfold prsL at ih ⊢
    rw [List.flatMap_append, ih]
    congr 1
    show [(fof p (accA (stpAt l n).acc 0), fof p (accI (stpAt l n).acc 0)), (fof p (accA (stpAt l n).acc 1), fof p (accI (stpAt l n).acc 1)), (fof p (accA (stpAt l n).acc 2), fof p (accI (stpAt l n).acc 2)), (fof p (nth ms n), fof p 0)] = _
    simp only at b0 b1 b2 b3
    rw [b0.1, b0.2, b1.1, b1.2, b2.1, b2.2, b3.1, b3.2]
    rfl
theorem nth_push (xs : List Int) (a : Int) (r : Nat) : nth (xs ++ [a]) r = if r = xs.length then a else nth xs r := by
  unfold nth
  simp only [List.getD_eq_getElem?_getD]
  by_cases h : r = xs.length
  · subst h; simp
  · rw [if_neg h]
    rcases Nat.lt_or_gt_of_ne h with h1 | h1
    · rw [List.getElem?_append_left h1]
    · rw [List.getElem?_eq_none (by simp; omega), List.getElem?_eq_none (by omega)]
/-- A row under way: j of its places are in. -/
def rowJ (t : Stp) (n j : Nat) (h : Int) : List Int := [t.fp, t.ap, t.rv, if 0 < j then accA t.acc 0 else 0, if 1 < j then accA t.acc 1 else 0, if 2 < j then accA t.acc 2 else 0, 0, if 0 < j then accI t.acc 0 else 0, if 1 < j then accI t.acc 1 else 0, if 2 < j then accI t.acc 2 else 0, 0, h, 0, 0, 0, 0, 0, 0, 0, 0] ++ List.replicate n 0
theorem rowJ_length (t : Stp) (n j : Nat) (h : Int) : (rowJ t n j h).length = 20 + n := by simp [rowJ]; omega
theorem rowJ_start (t : Stp) (n : Nat) : ((((List.replicate (20 + n) (0 : Int)).map (Value.int .i64)).set 0 (.int .i64 t.fp)).set 1 (.int .i64 t.ap)).set 2 (.int .i64 t.rv) = (rowJ t n 0 0).map (Value.int .i64) := by
  have e0 : (List.replicate (20 + n) (0 : Int)).map (Value.int .i64) = [.int .i64 0, .int .i64 0, .int .i64 0, .int .i64 0, .int .i64 0, .int .i64 0, .int .i64 0, .int .i64 0, .int .i64 0, .int .i64 0, .int .i64 0, .int .i64 0, .int .i64 0, .int .i64 0, .int .i64 0, .int .i64 0, .int .i64 0, .int .i64 0, .int .i64 0, .int .i64 0] ++ (List.replicate n (0 : Int)).map (Value.int .i64) := by
    rw [← List.replicate_append_replicate, List.map_append]; rfl
  rw [e0]
  simp [rowJ]
theorem rowJ_next (t : Stp) (n : Nat) {j : Nat} (hj : j < 3) : ((rowJ t n j 0).set (3 + j) (accA t.acc j)).set (7 + j) (accI t.acc j) = rowJ t n (j + 1) 0 := by
  have h3 : j = 0 ∨ j = 1 ∨ j = 2 := by omega
  rcases h3 with rfl | rfl | rfl <;> simp [rowJ]
theorem rowJ_hint (t : Stp) (n : Nat) (h : Int) : (rowJ t n 3 0).set 11 h = rowJ t n 3 h := by simp [rowJ]
theorem rowJ_sel {p : Int} {cd : List In4} {t : Stp} {q : Nat} (hq : t.pc = q) (S : List (Int × Int)) (r : Nat) : (rowJ t cd.length 3 (hintS p cd t)).set (20 + q) 1 = rowK p cd t 0 S 0 r := by
  have hp : ∀ j, pickS S 0 j = (0, 0) := fun j => by unfold pickS; rw [if_neg (by omega)]
  unfold rowK rowJ
  have e2 : ∀ (A B : List Int), A.length = 20 → (A ++ B).set (20 + q) 1 = A ++ B.set q 1 := fun A B hA => by
    rw [List.set_append_right _ _ (by omega), show 20 + q - A.length = q by omega]
  rw [hp, hp, hp, hp, e2 _ _ rfl]
  unfold selM
  rw [hq, Int.toNat_natCast]
  rfl
theorem rowK_six {p : Int} {cd : List In4} {t : Stp} {m0 m : Int} {S : List (Int × Int)} {i r : Nat} : (rowK p cd t m0 S i r).set 6 m = rowK p cd t m S i r := by simp [rowK, head20]
section
variable {w : World} {B : Nat} {e eR : TypeId} {v : Value} {n W : Nat} {bs : Nat → Nat} {L : Nat → List Int}
/-- One cell of one row is written. -/
theorem RowsAt.write1 (h : RowsAt w B e eR v n W bs L) {r0 i : Nat} {x : Int} (hr0 : r0 < n) {L' : Nat → List Int} (h1 : L' r0 = (L r0).set i x) (h2 : ∀ r, r < n → r ≠ r0 → L' r = L r) :
    RowsAt (w.setCell ⟨bs r0, i, none⟩ (.int .i64 x)) B e eR v n W bs L' := by
  have hg := setCell_grown w (bs r0) i (.int .i64 x)
  refine ⟨(Turned.one (c := bs r0) hg).own h.own (h.out hr0) (h.out hr0), fun r hr => ?_, h.base, h.nd, h.ne⟩
  by_cases e : r = r0
  · subst e
    rw [h1, ← map_set2]
    exact (h.row r hr).set i _
  · rw [h2 r hr e]
    refine (h.row r hr).grown hg (fun e2 => ?_)
    have e3 := Option.some.inj e2
    rcases Nat.lt_or_gt_of_ne e with hlt | hlt
    · exact h.nd r r0 hlt hr0 e3
    · exact h.nd r0 r hlt hr e3.symm
/-- What the rows come to may be told anew. -/
theorem RowsAt.told (h : RowsAt w B e eR v n W bs L) {L' : Nat → List Int} (h2 : ∀ r, r < n → L' r = L r) : RowsAt w B e eR v n W bs L' :=
  ⟨h.own, fun r hr => by rw [h2 r hr]; exact h.row r hr, h.base, h.nd, h.ne⟩
end
end Go.Att
namespace Go.Proofs.YtainhfnanamobaaGreatDoor
open Go.RowKit Go.Att
set_option maxRecDepth 100000 in
set_option maxHeartbeats 4000000 in
theorem used_any (v : Value) (L : List (List Int)) (a : Int) (w : World) (hv : Rws w v L) (hl : ∀ i, i < L.length → 20 ≤ (nthL L i).length) :
    Calls Tryz.prog 51 #[v, .int .i64 a] w fun e w' => e = .returned (.bool (usedB L a)) ∧ Ext w w' := by
  obtain ⟨R, hR⟩ := hv
  have hlr := hR.run_len (P := Tryz.prog) slRowsA
  have hln := Sl.len hR.sl
  have HR := Lib.hid hR; have HL := Lib.hid hl
  clear hR hl
  unfold maxLen at hln
  obtain ⟨ub, hub⟩ : ∃ u, usedB L a = u := ⟨_, rfl⟩
  rw [hub]
  have HUB := Lib.hid hub
  clear hub
  go_enter Tryz.func51, Tryz.ntmps51
  go_wp2_with fail
  go_loopw [5] (fun x5 wr => ∃ i : Nat, i ≤ L.length ∧ x5 = .int .i64 i ∧ Hid (∀ k, k < i → usedR (nthL L k) a = false) ∧ Hid (Ext w wr)) (fun x5 _ => L.length - (intOf x5).toNat)
  case atStart => exact ⟨0, Nat.zero_le _, rfl, Lib.hid fun k hk => by omega, Lib.hid (Ext.refl _)⟩
  case round =>
    obtain ⟨i, hi, rfl, HN, HX⟩ := hrel
    by_cases hil : i < L.length
    · have hrl := HL.out i hil
      have hix := HR.out.run_index (P := Tryz.prog) slRowsA i hil
      have hc := (HR.out.ext HX.out).cell i hil
      have hrow := (HR.out.row i hil).ext HX.out
      have i3 : ∀ w', (Instr.indexAt 26 (R i) (.int .i64 3)).run Tryz.prog w' = .ok (.pointer (some (elt (R i) 3 1))) w' := fun w' => hrow.run_index (P := Tryz.prog) slIntT 3 (by omega) w'
      have i4 : ∀ w', (Instr.indexAt 26 (R i) (.int .i64 4)).run Tryz.prog w' = .ok (.pointer (some (elt (R i) 4 1))) w' := fun w' => hrow.run_index (P := Tryz.prog) slIntT 4 (by omega) w'
      have i5 : ∀ w', (Instr.indexAt 26 (R i) (.int .i64 5)).run Tryz.prog w' = .ok (.pointer (some (elt (R i) 5 1))) w' := fun w' => hrow.run_index (P := Tryz.prog) slIntT 5 (by omega) w'
      have q3 := hrow.cell 3 (by omega)
      have q4 := hrow.cell 4 (by omega)
      have q5 := hrow.cell 5 (by omega)
      have HU : Hid (usedR (nthL L i) a = ((nth (nthL L i) 3 == a) || (nth (nthL L i) 4 == a) || (nth (nthL L i) 5 == a))) := Lib.hid rfl
      clear hrow hrl
      generalize nth (nthL L i) 3 = y3 at *
      generalize nth (nthL L i) 4 = y4 at *
      generalize nth (nthL L i) 5 = y5 at *
      by_cases h3 : y3 = a
      · have HY : Hid (usedR (nthL L i) a = true) := Lib.hid (by rw [HU.out]; simp [h3])
        have b3 : (y3 == a) = true := by rw [beq_iff_eq]; exact h3
        go_wp2_with fail
        go_ret
        exact ⟨by rw [← HUB.out, used_yes hil HY.out]; rfl, HX.out⟩
      by_cases h4 : y4 = a
      · have HY : Hid (usedR (nthL L i) a = true) := Lib.hid (by rw [HU.out]; simp [h4])
        have b4 : (y4 == a) = true := by rw [beq_iff_eq]; exact h4
        have b3 : (y3 == a) = false := by rw [beq_eq_false_iff_ne]; exact h3
        go_wp2_with fail
        go_ret
        exact ⟨by rw [← HUB.out, used_yes hil HY.out]; rfl, HX.out⟩
      by_cases h5 : y5 = a
      · have HY : Hid (usedR (nthL L i) a = true) := Lib.hid (by rw [HU.out]; simp [h5])
        have b5 : (y5 == a) = true := by rw [beq_iff_eq]; exact h5
        have b3 : (y3 == a) = false := by rw [beq_eq_false_iff_ne]; exact h3
        have b4 : (y4 == a) = false := by rw [beq_eq_false_iff_ne]; exact h4
        go_wp2_with fail
        go_ret
        exact ⟨by rw [← HUB.out, used_yes hil HY.out]; rfl, HX.out⟩
      · have HY : Hid (usedR (nthL L i) a = false) := Lib.hid (by rw [HU.out]; simp [h3, h4, h5])
        have b3 : (y3 == a) = false := by rw [beq_eq_false_iff_ne]; exact h3
        have b4 : (y4 == a) = false := by rw [beq_eq_false_iff_ne]; exact h4
        have b5 : (y5 == a) = false := by rw [beq_eq_false_iff_ne]; exact h5
        go_wp2_with fail
        go_roundw
        case rel => exact ⟨i + 1, by omega, by go_num, Lib.hid fun k hk => by
          by_cases e : k = i
          · subst e; exact HY.out
          · exact HN.out k (by omega), HX⟩
        case measure => simp [intOf]; omega
    · obtain rfl : i = L.length := by omega
      go_wp2_with fail
      go_ret
      exact ⟨by rw [← HUB.out, used_no HN.out]; rfl, HX.out⟩
set_option maxHeartbeats 4000000 in
/-- What is helped with, as the document has it. -/
theorem hint_any (p op a b : Int) (pc fp ap rv a0 a1 a2 c : Int) (w : World) (hp : 2 ≤ p) (hp2 : p ≤ 2147483647) : Calls Tryz.prog 50 #[.int .i64 p, .int .i64 op, .agg #[.int .i64 pc, .int .i64 fp, .int .i64 ap, .int .i64 rv, .int .i64 a0, .int .i64 a1, .int .i64 a2, .int .i64 a, .int .i64 b, .int .i64 c]] w fun e w' => e = .returned (.int .i64 (hintM p op a b)) ∧ Ext w w' := by
  have HX := Lib.hid (Ext.alloc w (Obj.cells #[.int .i64 pc, .int .i64 fp, .int .i64 ap, .int .i64 rv, .int .i64 a0, .int .i64 a1, .int .i64 a2, .int .i64 a, .int .i64 b, .int .i64 c] 94))
  obtain ⟨r, hr⟩ : ∃ r, hintM p op a b = r := ⟨_, rfl⟩
  rw [hr]
  by_cases h4 : op = 4
  · have HR := Lib.hid (show finv p b = r by rw [← hr]; unfold hintM; rw [if_pos h4])
    subst h4
    clear hr
    go_enter Tryz.func50, Tryz.ntmps50
    go_wp2_with (go_at_call 78; refine (rinv_any _ _ _ hp hp2).mono ?_; rintro e w' ⟨rfl, rfl⟩)
    go_ret
    exact ⟨ret_int HR.out, HX.out⟩
  by_cases h6 : op = 6
  · have HR := Lib.hid (show finv p (fsub p a b) = r by rw [← hr]; unfold hintM; rw [if_neg h4, if_pos h6])
    subst h6
    clear hr h4
    go_enter Tryz.func50, Tryz.ntmps50
    go_wp2_with (first | (go_at_call 86; refine (rsub_any _ _ _ _ hp hp2).mono ?_; rintro e w' ⟨rfl, rfl⟩) | (go_at_call 78; refine (rinv_any _ _ _ hp hp2).mono ?_; rintro e w' ⟨rfl, rfl⟩))
    go_ret
    exact ⟨ret_int HR.out, HX.out⟩
  by_cases h9 : op = 9
  · have HR := Lib.hid (show finv p a = r by rw [← hr]; unfold hintM; rw [if_neg h4, if_neg h6, if_pos h9])
    subst h9
    clear hr h4 h6
    go_enter Tryz.func50, Tryz.ntmps50
    go_wp2_with (go_at_call 78; refine (rinv_any _ _ _ hp hp2).mono ?_; rintro e w' ⟨rfl, rfl⟩)
    go_ret
    exact ⟨ret_int HR.out, HX.out⟩
  · have HR := Lib.hid (show (0 : Int) = r by rw [← hr]; unfold hintM; rw [if_neg h4, if_neg h6, if_neg h9])
    have b4 : (op == 4) = false := by rw [beq_eq_false_iff_ne]; exact h4
    have b6 : (op == 6) = false := by rw [beq_eq_false_iff_ne]; exact h6
    have b9 : (op == 9) = false := by rw [beq_eq_false_iff_ne]; exact h9
    clear hr h4 h6 h9
    go_enter Tryz.func50, Tryz.ntmps50
    go_wp2_with fail
    go_ret
    exact ⟨ret_int HR.out, HX.out⟩
theorem ptr3a (sb off : Nat) (w : World) : (Instr.indexAt 92 (.pointer (some ⟨sb, off, none⟩)) (.int .i64 0)).run Tryz.prog w = .ok (.pointer (some ⟨sb, off + 0, none⟩)) w := by kernel_rfl
theorem ptr3b (sb off : Nat) (w : World) : (Instr.indexAt 92 (.pointer (some ⟨sb, off, none⟩)) (.int .i64 1)).run Tryz.prog w = .ok (.pointer (some ⟨sb, off + 1, none⟩)) w := by kernel_rfl
theorem ptr3c (sb off : Nat) (w : World) : (Instr.indexAt 92 (.pointer (some ⟨sb, off, none⟩)) (.int .i64 2)).run Tryz.prog w = .ok (.pointer (some ⟨sb, off + 2, none⟩)) w := by kernel_rfl
theorem ptr3 (sb off : Nat) (j : Nat) (hj : j < 3) (w : World) : (Instr.indexAt 92 (.pointer (some ⟨sb, off, none⟩)) (.int .i64 (j : Int))).run Tryz.prog w = .ok (.pointer (some ⟨sb, off + j, none⟩)) w := by
  have h3 : j = 0 ∨ j = 1 ∨ j = 2 := by omega
  rcases h3 with rfl | rfl | rfl
  · exact ptr3a _ _ w
  · exact ptr3b _ _ w
  · exact ptr3c _ _ w
end Go.Proofs.YtainhfnanamobaaGreatDoor
