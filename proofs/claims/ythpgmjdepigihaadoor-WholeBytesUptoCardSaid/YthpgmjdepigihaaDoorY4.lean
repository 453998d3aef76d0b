/- Openings, and a voucher, are written as bytes: contracts. -/
import Derived.Test.YthpgmjdepigihaaDoorY3
namespace Go.Att
open Go.RowKit
/-- An opening's three slices. -/
structure OpnAt (w : World) (a b c : Value) (o : Opn) : Prop where
  places : Ints w a o.1
  rows : Rws w b o.2.1
  nodes : Rws w c o.2.2
theorem OpnAt.ext {w w' : World} {a b c : Value} {o : Opn} (h : OpnAt w a b c o) (hx : Ext w w') : OpnAt w' a b c o := ⟨h.places.ext hx, h.rows.ext hx, h.nodes.ext hx⟩
def nthO (l : List Opn) (i : Nat) : Opn := l.getD i ([], [], [])
theorem nthO_eq {l : List Opn} {i : Nat} (h : i < l.length) : nthO l i = l[i] := by simp [nthO, h]
def flatO (n : Nat) (A B C : Nat → Value) : List Value := (List.range n).flatMap fun i => [A i, B i, C i]
theorem flatO_length (n : Nat) (A B C : Nat → Value) : (flatO n A B C).length = n * 3 := by
  unfold flatO; induction n with
  | zero => rfl
  | succ n ih => rw [List.range_succ, List.flatMap_append, List.length_append, ih]; simp; omega
theorem flatO_get (n : Nat) (A B C : Nat → Value) (i : Nat) (h : i < n) : (flatO n A B C)[i * 3]? = some (A i) ∧ (flatO n A B C)[i * 3 + 1]? = some (B i) ∧ (flatO n A B C)[i * 3 + 2]? = some (C i) := by
  induction n with
  | zero => omega
  | succ n ih =>
    have e : flatO (n + 1) A B C = flatO n A B C ++ [A n, B n, C n] := by unfold flatO; rw [List.range_succ, List.flatMap_append]; simp
    rw [e]
    by_cases hn : i < n
    · obtain ⟨h1, h2, h3⟩ := ih hn
      have hl := flatO_length n A B C
      rw [List.getElem?_append_left (by omega), List.getElem?_append_left (by omega), List.getElem?_append_left (by omega)]
      exact ⟨h1, h2, h3⟩
    · obtain rfl : i = n := by omega
      have hl := flatO_length i A B C
      rw [List.getElem?_append_right (by omega), List.getElem?_append_right (by omega), List.getElem?_append_right (by omega), hl]
      simp [Nat.add_sub_cancel_left]
/-- A slice of openings. -/
structure OpsAt (w : World) (v : Value) (l : List Opn) (A B C : Nat → Value) : Prop where
  sl : Sl w 3 v l.length (flatO l.length A B C)
  row : ∀ i, i < l.length → OpnAt w (A i) (B i) (C i) (nthO l i)
def Opns (w : World) (v : Value) (l : List Opn) : Prop := ∃ A B C, OpsAt w v l A B C
section
variable {P : Program} {w : World} {v : Value} {l : List Opn} {A B C : Nat → Value}
theorem OpsAt.ext {w' : World} (h : OpsAt w v l A B C) (hx : Ext w w') : OpsAt w' v l A B C := ⟨h.sl.ext hx, fun i hi => (h.row i hi).ext hx⟩
theorem Opns.ext {w' : World} (h : Opns w v l) (hx : Ext w w') : Opns w' v l := let ⟨A, B, C, hR⟩ := h; ⟨A, B, C, hR.ext hx⟩
theorem OpsAt.run_len (h : OpsAt w v l A B C) {t e bytes : Nat} {z : Value} (ht : SlT P t e 3 bytes z) (ty : TypeId) (w' : World) : (Builtin.len_ #[t] ty #[v]).run P w' = .ok (.int .i64 l.length) w' := Sl.run_len h.sl ht ty w'
theorem OpsAt.run_index (h : OpsAt w v l A B C) {t e bytes : Nat} {z : Value} (ht : SlT P t e 3 bytes z) (i : Nat) (hi : i < l.length) (w' : World) :
    (Instr.indexAt t v (.int .i64 i)).run P w' = .ok (.pointer (some (elt v i 3))) w' := Sl.run_index h.sl ht i (by omega) (by omega) w'
theorem OpsAt.len (h : OpsAt w v l A B C) : l.length ≤ 9223372036854775807 := by have := Sl.len h.sl; unfold maxLen at this; omega
theorem OpsAt.cells (h : OpsAt w v l A B C) (i : Nat) (hi : i < l.length) : ∃ b o, elt v i 3 = ⟨b, o, none⟩ ∧ w.cell? ⟨b, o, none⟩ = some (A i) ∧ w.cell? ⟨b, o + 1, none⟩ = some (B i) ∧ w.cell? ⟨b, o + 2, none⟩ = some (C i) := by
  obtain ⟨ao, cap, hv, h2, h3, h4, h5⟩ := h.sl
  obtain ⟨g1, g2, g3⟩ := flatO_get l.length A B C i hi
  have c0 := Sl.cell h.sl i 0 hi (by omega)
  have c1 := Sl.cell h.sl i 1 hi (by omega)
  have c2 := Sl.cell h.sl i 2 hi (by omega)
  have hl3 := flatO_length l.length A B C
  obtain ⟨b, off, e, _⟩ := h5 0 (by omega)
  subst e hv
  simp only [elt, Addr.add_lit, Nat.add_zero] at c0 c1 c2 ⊢
  exact ⟨b, off + i * 3, rfl, by rw [c0, g1], by rw [c1, g2], by rw [c2, g3]⟩
theorem not_moved {W : World} {a b : Value} {k : Nat} (h : some k ≠ a.ownBlock) (hm : Moved W a b) (hk : k < W.heap.size) : some k ≠ b.ownBlock := by
  rcases hm with e | e
  · rw [e]; exact h
  · intro hc; have := e _ hc.symm; omega
theorem moved_alloc {w : World} {o : Obj} {a b : Value} (h : Moved (w.alloc o) a b) : Moved w a b := by
  rcases h with e | e
  · exact .inl e
  · exact .inr fun k hk => by have := e k hk; simp at this; omega
theorem rws_shape {w : World} {v : Value} {L : List (List Int)} (h : Rws w v L) : ∃ ao cap, v = .slice ao L.length cap := by
  obtain ⟨R, h⟩ := h; obtain ⟨ao, cap, h, -⟩ := h.sl; exact ⟨ao, cap, h⟩
theorem Opns.nil (w : World) : Opns w (.slice none 0 0) [] := ⟨fun _ => .slice none 0 0, fun _ => .slice none 0 0, fun _ => .slice none 0 0, ⟨none, 0, rfl, by simp [flatO], Nat.le_refl _, Nat.zero_le _, fun i hi => by simp [flatO] at hi⟩, fun i hi => by simp at hi⟩
end
end Go.Att
namespace Go.Proofs.YthpgmjdepigihaaDoor
open Go.RowKit Go.Att
theorem slOpnY : SlT Tryd.prog 24 28 3 72 (.agg #[.slice none 0 0, .slice none 0 0, .slice none 0 0]) := .mk' Tryd.underlying24 (by kernel_rfl) (by decide)
set_option maxRecDepth 100000 in
set_option maxHeartbeats 2000000 in
theorem wopn3_any (w0 w : World) (hx : Ext w0 w) (v : Value) (bs : List Int) (HO : OwnB w0 w 5 v bs) (a b c : Value) (o1 : List Int) (o2 o3 : List (List Int)) (ha : Ints w0 a o1) (hr : Rws w0 b o2) (hs : Rws w0 c o3) (hv1 : ∀ x ∈ o1, I64 x) (hv2 : ∀ x ∈ o2, IsV x) (hv3 : ∀ x ∈ o3, IsV x)
    (h1 : bs.length + (encIs o1).length ≤ 4294967296) (h2 : (bs ++ encIs o1).length + (encRs o2).length ≤ 4294967296) (h3 : (bs ++ encIs o1 ++ encRs o2).length + (encRs o3).length ≤ 4294967296) (res : List Int) (hres : res = bs ++ encIs o1 ++ encRs o2 ++ encRs o3) :
    Calls Tryd.prog 38 #[v, .agg #[a, b, c]] w (Wrote w0 w 5 v res) := by
  have hold := OldIn.of_own HO
  have hal := Ext.alloc w (.cells #[a, b, c] 28)
  have HO' := own_ext HO hal
  have k0 := cell_new w #[a, b, c] 28
  have hne : some w.heap.size ≠ v.ownBlock := fun e => by have := hold _ e.symm; omega
  have hxa := hx.trans hal
  have hga := hal.grownBy v.ownBlock
  have c0 : (w.alloc (.cells #[a, b, c] 28)).cell? ⟨w.heap.size, 0, none⟩ = some a := k0 0
  have c1 : (w.alloc (.cells #[a, b, c] 28)).cell? ⟨w.heap.size, 1, none⟩ = some b := k0 1
  have c2 : (w.alloc (.cells #[a, b, c] 28)).cell? ⟨w.heap.size, 2, none⟩ = some c := k0 2
  have HOH := Lib.hid HO
  have H1 := Lib.hid h1; have H2 := Lib.hid h2; have H3 := Lib.hid h3
  have HNE := Lib.hid hne
  have HRES := Lib.hid hres
  clear k0 HO h1 h2 h3 hne hold hres
  go_enter Tryd.func38, Tryd.ntmps38
  go_wp2_with ((with_reducible go_at_call 34); (with_reducible refine (wnums_any w0 _ hxa v bs HO' a o1 ha hv1 H1.out).mono ?_); rintro _ w1 ⟨v1, rfl, HX1, HO1, HG1, HM1⟩; have k1 := HG1.cell c1 HNE.out; have k2 := Lib.hid (HG1.cell c2 HNE.out); have hne1 : Hid (some w.heap.size ≠ v1.ownBlock) := Lib.hid (not_moved HNE.out HM1 (by simp)); have HG1' := Lib.hid (grown_trans hga (Moved.refl _ _) HG1); have HM1' := Lib.hid (moved_alloc HM1); clear HG1 HM1 HO' c0 c1 c2)
  (with_reducible refine (wlistr_any w0 _ HX1 v1 _ HO1 b o2 hr hv2 H2.out).mono ?_)
  rintro _ w2 ⟨v2, rfl, HX2, HO2, HG2, HM2⟩
  have k3 := HG2.cell k2.out hne1.out
  replace HG2 := Lib.hid (grown_trans HG1'.out HM1'.out HG2)
  replace HM2 := Lib.hid (HM1'.out.trans HM2 HG1'.out.size)
  clear k1 k2 hne1 HG1' HM1' HX1 HO1
  go_wp2_with fail
  (with_reducible refine (wlistr_any w0 _ HX2 v2 _ HO2 c o3 hs hv3 H3.out).mono ?_)
  rintro _ w3 ⟨v3, rfl, HX3, HO3, HG3, HM3⟩
  go_wp2_with fail
  go_ret
  exact .mk' rfl hx HOH.out (by rw [HRES.out]; exact HO3) (grown_trans HG2.out HM2.out HG3) (HM2.out.trans HM3 HG2.out.size)
theorem wopn_any (w0 w : World) (hx : Ext w0 w) (v : Value) (bs : List Int) (HO : OwnB w0 w 5 v bs) (a b c : Value) (o : Opn) (hl : OpnAt w0 a b c o) (hv : OpV o) (hb : bs.length + (encO o).length ≤ 4294967296) :
    Calls Tryd.prog 38 #[v, .agg #[a, b, c]] w (Wrote w0 w 5 v (bs ++ encO o)) := by
  have e : bs ++ encO o = bs ++ encIs o.1 ++ encRs o.2.1 ++ encRs o.2.2 := by simp [encO]
  have hb' : bs.length + (encIs o.1).length + (encRs o.2.1).length + (encRs o.2.2).length ≤ 4294967296 := by simp only [encO, List.length_append] at hb; omega
  exact wopn3_any w0 w hx v bs HO a b c o.1 o.2.1 o.2.2 hl.places hl.rows hl.nodes hv.1.2 hv.2.1.2 hv.2.2.2 (by omega) (by rw [List.length_append]; omega) (by rw [List.length_append, List.length_append]; omega) _ e

set_option maxRecDepth 100000 in
set_option maxHeartbeats 2000000 in
theorem wlisto_any (w0 w : World) (hx : Ext w0 w) (v : Value) (bs : List Int) (HO : OwnB w0 w 5 v bs) (vl : Value) (l : List Opn) (hl : Opns w0 vl l) (hv : ∀ x ∈ l, OpV x) (hb : bs.length + (encOs l).length ≤ 4294967296) :
    Calls Tryd.prog 37 #[v, vl, .func (.func 38) #[] #[]] w (Wrote w0 w 5 v (bs ++ encOs l)) := by
  obtain ⟨A, B, C, hl⟩ := hl
  have hlen := hl.len
  have hll := hl.run_len (P := Tryd.prog) slOpnY
  rw [encOs, encL_len] at hb
  have H0 : I64 (l.length : Int) := by unfold I64; omega
  go_enter Tryd.func37, Tryd.ntmps37
  go_wp2_with (go_at_call 35; refine (wnum_any w0 _ hx v bs HO l.length H0 (by omega)).mono ?_; rintro _ w1 ⟨v1, rfl, HX1, HO1, HG1, HM1⟩)
  have HR : Hid (bs ++ encOs l = bs ++ encI l.length ++ l.flatMap encO) := Lib.hid (by unfold encOs encL; rw [← List.append_assoc])
  generalize bs ++ encOs l = res at *
  have HOH := Lib.hid HO
  have HLL := Lib.hid hl
  clear HO hl
  go_loopw [0, 8, 15] (fun x0 _ x15 wr => ∃ (v' : Value) (i : Nat), i ≤ l.length ∧ x0 = v' ∧ x15 = .int .i64 i ∧ OwnB w0 wr 5 v' (bs ++ encI l.length ++ (l.take i).flatMap encO) ∧ Ext w0 wr ∧ w.grownBy wr v.ownBlock ∧ Moved w v v') (fun _ _ x15 _ => l.length - (intOf x15).toNat)
  case atStart => exact ⟨v1, 0, Nat.zero_le _, rfl, rfl, by simpa using HO1, HX1, HG1, HM1⟩
  case round =>
    clear HO1 HX1 HG1 HM1
    obtain ⟨v', i, hi, rfl, rfl, HO2, HX2, HG2, HM2⟩ := hrel
    by_cases hil : i < l.length
    · have hix := HLL.out.run_index (P := Tryd.prog) slOpnY i hil
      obtain ⟨cb, co, he, c0, c1, c2⟩ := (HLL.out.ext HX2).cells i hil
      rw [he] at hix
      clear he
      have hrow := HLL.out.row i hil
      obtain ⟨aa, ca, ea⟩ := hrow.places.shape
      obtain ⟨ab, cb', eb⟩ := rws_shape hrow.rows
      obtain ⟨ac, cc', ec⟩ := rws_shape hrow.nodes
      rw [ea, eb, ec] at hrow
      rw [ea] at c0
      rw [eb] at c1
      rw [ec] at c2
      clear ea eb ec
      have hvi : OpV (nthO l i) := by rw [nthO_eq hil]; exact hv _ (List.getElem_mem hil)
      have h2 := flat_take_le encO l (i + 1)
      rw [flat_take_succ encO l i hil, ← nthO_eq hil, List.length_append] at h2
      have h3 : (bs ++ encI l.length ++ (l.take i).flatMap encO).length + (encO (nthO l i)).length ≤ 4294967296 := by simp only [List.length_append]; omega
      have h4 : (bs ++ encI l.length ++ (l.take i).flatMap encO) ++ encO (nthO l i) = bs ++ encI l.length ++ (l.take (i + 1)).flatMap encO := by rw [flat_take_succ encO l i hil, nthO_eq hil]; simp
      have H3 := Lib.hid h3; have H4 := Lib.hid h4; have HV := Lib.hid hvi; have HROW := Lib.hid hrow
      clear h2 h3 h4 hvi hrow
      have hal := Ext.alloc wr (Obj.cells #[.slice aa (nthO l i).1.length ca, .slice ab (nthO l i).2.1.length cb', .slice ac (nthO l i).2.2.length cc'] 28)
      go_wp2_with ((with_reducible go_at_call 38); (with_reducible refine (wopn_any w0 _ (HX2.trans hal) _ _ (own_ext HO2 hal) _ _ _ (nthO l i) HROW.out HV.out H3.out).mono ?_); rintro _ w3 ⟨v3, rfl, HX3, HO3, HG3, HM3⟩)
      go_roundw
      case rel => exact ⟨v3, i + 1, by omega, rfl, by go_num, by rw [← H4.out]; exact HO3, HX3, grown_trans HG2 HM2 (grown_trans (hal.grownBy _) (Moved.refl _ _) HG3), HM2.trans (moved_alloc HM3) HG2.size⟩
      case measure => simp [intOf]; omega
    · obtain rfl : i = l.length := by omega
      go_wp2_with fail
      go_ret
      exact ⟨_, rfl, HX2, by rw [List.take_length] at HO2; rw [HR.out]; exact HO2, HG2, HM2⟩
end Go.Proofs.YthpgmjdepigihaaDoor
