/- A word's coefficients; is it a codeword?: contracts. -/
import Derived.Test.YtnmjaddhbecopaaGreatDoorZx3
import Derived.Test.YtnmjaddhbecopaaGreatDoorZx1
namespace Go.Att
open Go.RowKit
noncomputable def cwB (p : Int) (K k : Nat) (g : Int) (wt : Nat → Int) (word : List Int) : Bool := @decide (CW p K k g wt word) (Classical.propDecidable _)
theorem cwB_iff {p : Int} {K k : Nat} {g : Int} {wt : Nat → Int} {word : List Int} : cwB p K k g wt word = true ↔ CW p K k g wt word := ⟨fun h => @of_decide_eq_true _ (Classical.propDecidable _) h, fun h => @decide_eq_true _ (Classical.propDecidable _) h⟩
/-- The products up to i. -/
def cofU (p : Int) (L : List Int) (P : Nat → Int) (i : Nat) : List Int := (List.range L.length).map fun j => if j < i then fmul p (nth L j) (P j) else nth L j
theorem cofU_length (p : Int) (L : List Int) (P : Nat → Int) (i : Nat) : (cofU p L P i).length = L.length := by simp [cofU]
theorem cofU_zero (p : Int) (L : List Int) (P : Nat → Int) : cofU p L P 0 = L := by
  apply List.ext_getElem (by simp [cofU])
  intro j h1 h2
  simp [cofU, nth_eq h2]
theorem cofU_nth (p : Int) (L : List Int) (P : Nat → Int) (i j : Nat) (h : j < L.length) : nth (cofU p L P i) j = if j < i then fmul p (nth L j) (P j) else nth L j := nth_map_range _ _ _ h
theorem cofU_set (p : Int) (L : List Int) (P : Nat → Int) (i : Nat) (h : i < L.length) : ((cofU p L P i).map (Value.int .i64)).take (i * 1) ++ [.int .i64 (fmul p (nth L i) (P i))] ++ ((cofU p L P i).map (Value.int .i64)).drop (i * 1 + 1) = (cofU p L P (i + 1)).map (Value.int .i64) := by
  rw [Nat.mul_one]
  apply List.ext_getElem?
  intro j
  by_cases hj : j < L.length
  · by_cases h1 : j < i
    · rw [List.append_assoc, List.getElem?_append_left (by simp [cofU]; omega), List.getElem?_take, if_pos h1]
      simp [cofU, hj, h1, show j < i + 1 by omega]
    · by_cases h2 : j = i
      · subst h2
        rw [List.append_assoc, List.getElem?_append_right (by simp [cofU]; omega)]
        simp [cofU, hj, show min j L.length = j by omega]
      · rw [List.getElem?_append_right (by simp [cofU]; omega)]
        simp only [List.length_append, List.length_take, List.length_map, cofU, List.length_range, List.length_singleton, List.getElem?_drop]
        rw [show i + 1 + (j - (min i L.length + 1)) = j by omega]
        simp [hj, h1, show ¬ j < i + 1 by omega]
  · rw [List.getElem?_eq_none (by simp [cofU]; omega), List.getElem?_eq_none (by simp [cofU]; omega)]
theorem trimL_len (p : Int) (M : List Int) : (trimL p M).length = degN p M := by
  unfold trimL; rw [List.length_map, List.length_take]; have := degN_le p M; omega
theorem is_fin {p : Int} {K : Nat} {g : Int} {wt : Nat → Int} {l M : List Int} (hM : M.length = 2 ^ K) (hc : ∀ j, j < 2 ^ K → nth M j % p = cz K g wt l j % p) (k : Nat) : decide ((trimL p M).length ≤ k) = cwB p K k g wt l := by
  rw [trimL_len, Bool.eq_iff_iff, cwB_iff, decide_eq_true_iff]
  rw [degN_bd]
  unfold CW
  rw [hM]
  exact ⟨fun h j h1 h2 => by rw [← hc j h2]; exact h j h1 h2, fun h j h1 h2 => by rw [hc j h2]; exact h j h1 h2⟩
end Go.Att
namespace Go.Proofs.YtnmjaddhbecopaaGreatDoor
open Go.RowKit Go.Att
/-- A word's coefficients are made. -/
def CofGot (p n sh r : Int) (K : Nat) (l : List Int) (v : Value) (w' : World) : Prop := ∃ (u : Value) (M : List Int), v = .tuple #[u, .nilIface] ∧ Ints w' u (trimL p M) ∧ M.length = 2 ^ K ∧ ∀ j, j < 2 ^ K → nth M j % p = cz K (finv p r) (ptAt p (finv p n) (finv p sh)) l j % p

set_option maxRecDepth 100000 in
set_option maxHeartbeats 4000000 in
theorem coef_any {w : World} {d : Value} {bf : Nat} {p g0 n sh r : Int} {fs : List Int} (hd : DomOf w d (.pointer (some ⟨bf, 0, none⟩)) n sh r) (hf : Fld w (.pointer (some ⟨bf, 0, none⟩)) p g0 fs) (K : Nat) (hK : K ≤ 16) (hn : n = (2 : Int) ^ K) {va : Value} {l : List Int} (hl : Ints w va l) (hlen : l.length = 2 ^ K) :
    Calls Tryz.prog 143 #[d, va] w (Gives w (CofGot p n sh r K l)) := by
  have hp1 : 1 ≤ 2 ^ K := Nat.one_le_two_pow
  have hp2 : 2 ^ K ≤ 65536 := by
    have e1 : 2 ^ K ≤ 2 ^ 16 := Nat.pow_le_pow_right (by decide) hK
    have e2 : (2 : Nat) ^ 16 = 65536 := by decide
    omega
  have hnn : n = ((2 ^ K : Nat) : Int) := by rw [hn]; norm_cast
  have HK := Lib.hid hK
  have hll := hl.run_len (P := Tryz.prog) slInts
  rw [hlen, ← hnn] at hll
  obtain ⟨h, hh⟩ : ∃ h, 2 ^ K = h := ⟨_, rfl⟩
  rw [hh] at hp1 hp2 hnn
  have HH := Lib.hid hh; have HNN := Lib.hid hnn; have HLEN := Lib.hid hlen
  have hn1 : 1 ≤ n := by omega
  have hn2 : n ≤ 65536 := by omega
  have HD := Lib.hid hd; have C := Lib.hid hf; have HL := Lib.hid hl
  obtain ⟨b, rfl⟩ := hd.ptr
  obtain ⟨bb, hbb, d1, d2, d3, d4⟩ := hd
  obtain rfl : b = bb := by simpa using hbb
  have hbr := finv_bd (p := p) C.out.two n
  clear hbb hf hl hn hh hnn hlen
  go_enter Tryz.func143, Tryz.ntmps143
  go_wp2_with fail
  go_region_held3 (fun w' => w'.cell? ⟨b, 0, none⟩ = some (.pointer (some ⟨bf, 0, none⟩)) ∧ w'.cell? ⟨b, 3, none⟩ = some (.int .i64 r)) (first | go_keep | exact ⟨hxs.cell d1, hxs.cell d4⟩ | exact ⟨(hxs.trans (Ext.drewN _ _)).cell d1, (hxs.trans (Ext.drewN _ _)).cell d4⟩ | exact ⟨hxc.cell d1, hxc.cell d4⟩ | exact ⟨(hxc.trans (Ext.drewN _ _)).cell d1, (hxc.trans (Ext.drewN _ _)).cell d4⟩) (first | (go_at_call 162; refine (clone_any (HL.out.ext (Ext.drew w)) (by rw [HLEN.out, HH.out]; omega)).mono ?_; rintro e w1 ⟨u1, rfl, hxa, hown⟩; have hxc := (Ext.drew w).trans hxa) | (go_at_call 125; refine (inv_any (C.out.ext hxc) _).mono ?_; rintro e w2 ⟨rfl, z, rfl⟩) | (go_at_call 211; refine (spread_any K _ _ bf p g0 n sh r fs (HD.out.ext (hxc.trans (Ext.drewN _ _))) (C.out.ext (hxc.trans (Ext.drewN _ _))) u1 l (finv p r) (Ints.of_own (own_ext hown (Ext.drewN _ _))) HLEN.out (Nat.le_trans HK.out (by omega))).mono ?_; rintro e w3 ⟨u3, rfl, hxs0, hspr⟩; have hxs := (hxc.trans (Ext.drewN _ _)).trans hxs0))
  obtain ⟨L, hI3, hL3, hm3, hcase⟩ := hspr
  have HO3 : w3.ownsRow w.heap.size 3 1 u3 h (L.map (Value.int .i64)) := by
    rcases hcase with ⟨hk0, rfl, rfl⟩ | ⟨_, ho, _⟩
    · rw [← HH.out, ← HLEN.out]
      exact own_ext (own_base hown (Nat.le_refl _)) ((Ext.drewN _ _).trans hxs0)
    · rw [← HH.out]
      exact own_base ho (by have := hxc.size; simpa using this)
  have HL3 := Lib.hid (hL3.trans HH.out); have HM3 := Lib.hid hm3
  have e1 := hxs.cell d1
  have e2 := hxs.cell d2
  have e3 := hxs.cell d3
  have HXS := Lib.hid hxs
  have HO := Lib.hid HO3
  clear hI3 hL3 hm3 hcase hown hxa hxc hxs0 d1 d2 d3 d4 hxs HO3
  go_wp2_with fail
  go_region_held3 (fun w' => w'.cell? ⟨b, 0, none⟩ = some (.pointer (some ⟨bf, 0, none⟩)) ∧ w'.cell? ⟨b, 1, none⟩ = some (.int .i64 n) ∧ w'.cell? ⟨b, 2, none⟩ = some (.int .i64 sh)) (first | go_keep | exact ⟨hxq.cell e1, hxq.cell e2, hxq.cell e3⟩) (first | (go_at_call 125; (first | (refine (inv_any (C.out.ext (HXS.out.trans (Ext.drew w3))) _).mono ?_; rintro e w' ⟨rfl, z1, rfl⟩) | (refine (inv_any (C.out.ext (HXS.out.trans (Ext.drewN w3 _))) _).mono ?_; rintro e w' ⟨rfl, z2, rfl⟩))) | (go_at_call 217; refine (powers_any (HD.out.ext (HXS.out.trans (Ext.drewN w3 _))) (C.out.ext (HXS.out.trans (Ext.drewN w3 _))) hn1 hn2 hbr).mono ?_; rintro e w4 ⟨u4, rfl, hxp, hP, hnew⟩; have hxq := (Ext.drewN w3 _).trans hxp; have hlp := hP.run_len (P := Tryz.prog) slInts; rw [points_length, show n.toNat = h by (have := HNN.out; omega)] at hlp))
  go_wp2_with fail
  have HP := Lib.hid hP; have HNE := Lib.hid (new_ne (own_ext HO.out (Ext.drewN w3 _)) hnew)
  replace HO := Lib.hid (own_ext HO.out hxq)
  have HPN := Lib.hid (show ∀ i, i < h → nth (points p (finv p n) (finv p sh) n.toNat) i = ptAt p (finv p n) (finv p sh) i from fun i hi => points_nth _ _ _ (by have := HNN.out; omega))
  have HPL := Lib.hid (show (points p (finv p n) (finv p sh) n.toNat).length = h by rw [points_length]; have := HNN.out; omega)
  replace HXS := Lib.hid (HXS.out.trans hxq)
  generalize points p (finv p n) (finv p sh) n.toNat = PL at *
  generalize hPP : ptAt p (finv p n) (finv p sh) = P at *
  have HPP := Lib.hid hPP
  clear hPP
  clear hP hnew hxp hxq e1 e2 e3 hlp hbr
  go_loopw [7, 8, 51] (fun _ _ x51 wr => ∃ i : Nat, i ≤ h ∧ x51 = .int .i64 i ∧ wr.ownsRow w.heap.size 3 1 u3 h ((cofU p L P i).map (Value.int .i64)) ∧ Ext w wr ∧ w4.grownBy wr u3.ownBlock) (fun _ _ x51 _ => h - (intOf x51).toNat)
  case atStart => exact ⟨0, Nat.zero_le _, rfl, by rw [cofU_zero]; exact HO.out, HXS.out, World.grownBy.refl _ _⟩
  case round =>
    clear HO HXS
    obtain ⟨i, hi, rfl, HO, HX, HG⟩ := hrel
    by_cases hih : i < h
    · have hiL : i < L.length := by rw [HL3.out]; exact hih
      have hix4 := HP.out.run_index (P := Tryz.prog) slInts i (by rw [HPL.out]; exact hih)
      have hc4 := (HP.out.grown HG HNE.out).cell i (by rw [HPL.out]; exact hih)
      rw [HPN.out i hih] at hc4
      have hio := Ints.of_own HO
      have hixA := hio.run_index (P := Tryz.prog) slInts i (by rw [cofU_length]; exact hiL)
      have hcA := hio.cell i (by rw [cofU_length]; exact hiL)
      rw [cofU_nth p L P i i hiL, if_neg (by omega)] at hcA
      have ST := Lib.hid (cofU_set p L P i hiL)
      obtain ⟨bb, hbb, d1, -, -, -⟩ := HD.out.ext HX
      obtain rfl : b = bb := by simpa using hbb
      have HF := Lib.hid (C.out.ext HX)
      clear hbb hio hiL
      go_wp2_with fail
      refine wp_region_quiet_tail 13 (by kernel_rfl) (by kernel_rfl) ?_
      simp only [List.take_succ_cons, List.take_zero, List.drop_succ_cons, List.drop_zero]
      repeat (go_big_quiet_step ((go_at_call 123; exact mul_q HF.out _ _ _)))
      refine wpQuiet_nil ?_
      rintro _ ⟨nq, rfl⟩
      have HO4 := own_ext HO (Ext.drewN wr nq)
      have HX4 := HX.trans (Ext.drewN wr nq)
      have HG4 := grown_ext HG (Ext.drewN wr nq)
      clear hix4 hc4 hixA hcA d1
      go_wp2_with (refine wpList_set rfl rfl _ _ 3 rfl slInts HO4 i hih rfl (.int .i64 (fmul p (nth L i) (P i))) rfl rfl (by intro u hu; simp [Value.cells] at hu; subst hu; rfl) ?_; intro w7 HO7 HG7)
      go_roundw
      case rel => exact ⟨i + 1, by omega, by go_num, by rw [← ST.out]; exact HO7, Ext.own_grown HX4 HO4 HG7, grown_trans HG4 (Moved.refl _ _) HG7⟩
      case measure => simp [intOf]; omega
    · obtain rfl : i = h := by omega
      have HI := Lib.hid (Ints.of_own HO)
      obtain ⟨bb, hbb, d1, -, -, -⟩ := HD.out.ext HX
      obtain rfl : b = bb := by simpa using hbb
      clear hbb
      go_wp2_with (go_at_call 218; refine (ptrim_any (C.out.ext HX) HI.out (by rw [cofU_length, HL3.out]; omega)).mono ?_; rintro e w8 ⟨u8, rfl, hx8, hI8⟩)
      go_ret2
      refine .mk _ rfl (HX.trans hx8) ⟨_, cofU p L P i, rfl, hI8, by rw [cofU_length, HL3.out, HH.out], fun j hj => ?_⟩
      have hj' : j < L.length := by rw [HL3.out, ← HH.out]; exact hj
      rw [cofU_nth p L P i j hj', if_pos (by rw [← HL3.out]; exact hj')]
      unfold cz fmul
      rw [e_idem, HPP.out]
      exact mmul (HM3.out j hj) rfl

/-- What Is says of a word. -/
def IsSaid (b : Bool) (w : World) (e : Ending) (w' : World) : Prop := e = .returned (.bool b) ∧ Ext w w'
end Go.Proofs.YtnmjaddhbecopaaGreatDoor
