/- What a polynomial is at all points; a point; on both sides: contracts. -/
import Derived.Test.YtcpnidomdkaefaaGreatDoorZx10
import Derived.Test.YtcpnidomdkaefaaGreatDoorZx1
import Derived.Test.YtcpnidomdkaefaaGreatDoorZx3
namespace Go.Att
open Go.RowKit
theorem ints_clip {w : World} {ao : Option Addr} {cap : Nat} {l : List Int} (h : Ints w (.slice ao l.length cap) l) : Ints w (.slice ao l.length l.length) l := by
  obtain ⟨ao', cap', e, h2, h3, h4, h5⟩ := h
  injection e with e1 e2 e3
  subst e1 e3
  exact ⟨ao, l.length, rfl, h2, Nat.le_refl _, by omega, h5⟩
/-- The coefficients, each times a power of the shift, up to i. -/
def shoU (p sh : Int) (l : List Int) (n i : Nat) : List Int := (List.range n).map fun j => if j < i then fadd p 0 (fmul p (ptAt p 1 sh j) (nth l j)) else 0
theorem shoU_length (p sh : Int) (l : List Int) (n i : Nat) : (shoU p sh l n i).length = n := by simp [shoU]
theorem shoU_nth (p sh : Int) (l : List Int) (n i : Nat) {j : Nat} (h : j < n) : nth (shoU p sh l n i) j = if j < i then fadd p 0 (fmul p (ptAt p 1 sh j) (nth l j)) else 0 := nth_map_range _ _ _ h
theorem shoU_zero (p sh : Int) (l : List Int) (n : Nat) : shoU p sh l n 0 = List.replicate n 0 := by
  unfold shoU
  apply List.ext_getElem (by simp)
  intro i h1 h2
  simp
theorem set_mid {l : List Int} {i : Nat} (hi : i < l.length) (x : Int) : (l.map (Value.int .i64)).take (i * 1) ++ (Value.cells (.int .i64 x)).toList ++ (l.map (Value.int .i64)).drop (i * 1 + 1) = (l.set i x).map (Value.int .i64) := by
  rw [Nat.mul_one, List.map_set]
  have h2 : i < (l.map (Value.int .i64)).length := by simpa using hi
  rw [List.set_eq_take_append_cons_drop, if_pos h2]
  simp [Value.cells]
theorem shoU_set (p sh : Int) (l : List Int) (n i : Nat) (_hi : i < n) : (shoU p sh l n i).set i (fadd p 0 (fmul p (ptAt p 1 sh i) (nth l i))) = shoU p sh l n (i + 1) := by
  apply List.ext_getElem (by simp [shoU])
  intro j h1 h2
  rw [List.getElem_set]
  simp only [shoU, List.getElem_map, List.getElem_range]
  by_cases e : i = j
  · subst e; rw [if_pos rfl, if_pos (by omega)]
  · rw [if_neg e]
    by_cases h : j < i
    · rw [if_pos h, if_pos (by omega)]
    · rw [if_neg h, if_neg (by omega)]
theorem ev_sum (l : List Int) (x : Int) : ev l x = sumN (fun i => nth l i * x ^ i) l.length := by
  rw [← ev_range]
  congr 1
  apply List.ext_getElem (by simp)
  intro i h1 h2
  simp [nth_eq h1]
theorem ev_long (l : List Int) (x : Int) {n : Nat} (h : l.length ≤ n) : ev l x = sumN (fun i => nth l i * x ^ i) n := by
  obtain ⟨m, rfl⟩ := Nat.le.dest h
  rw [ev_sum, sumN_split]
  have e : sumN (fun i => nth l (i + l.length) * x ^ (i + l.length)) m = 0 := by
    rw [sumN_congr (g := fun _ => 0) m fun i _ => ?_, sumN_zero]
    have : nth l (i + l.length) = 0 := by unfold nth; rw [List.getD_eq_getElem?_getD, List.getElem?_eq_none (by omega)]; rfl
    rw [this]; simp
  rw [e]; simp
/-- What spread makes of these is what the polynomial is at all points. -/
theorem vals_fin {p sh r : Int} {K : Nat} {l L : List Int} (hl : l.length ≤ 2 ^ K) (hr : ∀ m, K = m + 1 → r ^ (2 ^ m) % p = (-1) % p) (hL : L.length = 2 ^ K) (hm : ∀ j, j < 2 ^ K → nth L j % p = sprZ K (nth (shoU p sh l (2 ^ K) l.length)) r j % p) (hb : ∀ j, j < 2 ^ K → 0 ≤ nth L j ∧ nth L j < p) : L = valsL p sh r (2 ^ K) l := by
  apply List.ext_getElem (by rw [hL, valsL_length])
  intro j h1 h2
  rw [← nth_eq h1, ← nth_eq h2]
  have hj : j < 2 ^ K := by omega
  rw [valsL_nth _ _ _ _ _ hj]
  have := hb j hj
  rw [← Int.emod_eq_of_lt this.1 this.2, hm j hj, sprZ_dft K _ _ hr j hj, ev_long l _ hl]
  refine sumN_mod p _ fun i hi => ?_
  have e1 : nth (shoU p sh l (2 ^ K) l.length) i % p = (nth l i * sh ^ i) % p := by
    rw [shoU_nth _ _ _ _ _ hi]
    split
    · simp only [fadd, fmul, ptAt, Int.zero_add, e_idem, Int.one_mul]
      rw [em_l, Int.mul_comm]
    · have : nth l i = 0 := by unfold nth; rw [List.getD_eq_getElem?_getD, List.getElem?_eq_none (by omega)]; rfl
      rw [this]; simp
  refine (mmul e1 rfl).trans ?_
  have e2 : ptAt p sh r j ^ i % p = (sh * r ^ j) ^ i % p := pow_mod _ _ _
  refine Eq.trans ?_ (mmul rfl e2.symm)
  rw [Int.mul_pow, ← Int.pow_mul, Nat.mul_comm j i, Int.mul_assoc]
end Go.Att
namespace Go.Proofs.YtcpnidomdkaefaaGreatDoor
open Go.RowKit Go.Att
set_option maxRecDepth 100000 in
theorem clipW_any (b off n cap : Nat) (w : World) (h : n ≤ cap) (_h2 : cap ≤ maxLen) :
    Calls Tryz.prog 118 #[.slice (some ⟨b, off, none⟩) n cap] w fun e w' => e = .returned (.slice (some ⟨b, off, none⟩) n n) ∧ w = w' := by
  go_enter Tryz.func118, Tryz.ntmps118
  go_wp2_with fail
  go_ret
  exact ⟨rfl, rfl⟩
set_option maxRecDepth 100000 in
set_option maxHeartbeats 1000000 in
theorem dpoint_any {w : World} {d : Value} {bf : Nat} {p g0 n sh r : Int} {fs : List Int} (hd : DomOf w d (.pointer (some ⟨bf, 0, none⟩)) n sh r) (hf : Fld w (.pointer (some ⟨bf, 0, none⟩)) p g0 fs) (i : Nat) (hi : (i : Int) < n) (hn2 : n ≤ 65536) :
    Calls Tryz.prog 96 #[d, .int .i64 i] w (Rd w (.int .i64 (ptAt p sh r i))) := by
  have C := Lib.hid hf; clear hf
  obtain ⟨b, rfl, d1, d2, d3, d4⟩ := hd
  have hm : (i : Int) % n = i := Int.emod_eq_of_lt (by omega) hi
  have hm2 : (i : Int).tmod n = i := by rw [Int.tmod_eq_emod_of_nonneg (by omega)]; exact hm
  have hn1 : 1 ≤ n := by omega
  have hi0 : (0 : Int) ≤ i := by omega
  go_enter Tryz.func96, Tryz.ntmps96
  go_wp2_with fail
  go_quiet ((first | (go_at_call 42; exact pow_q C.out _ _ (by omega) (by omega) _) | (go_at_call 94; exact mul_q C.out _ _ _)))
  go_wp2_with fail
  go_ret
  exact ⟨ret_int (by unfold fmul; rw [Int.mul_comm]; exact ptAt_pow _ _ _ _), _, rfl⟩
set_option maxRecDepth 100000 in
set_option maxHeartbeats 4000000 in
theorem values_any {w : World} {d : Value} {bf : Nat} {p g0 n sh r : Int} {fs : List Int} (hd : DomOf w d (.pointer (some ⟨bf, 0, none⟩)) n sh r) (hf : Fld w (.pointer (some ⟨bf, 0, none⟩)) p g0 fs) (K : Nat) (hK1 : 1 ≤ K) (hK : K ≤ 16) (hn : n = (2 : Int) ^ K) {va : Value} {l : List Int} (hl : Ints w va l) (hlen : l.length ≤ 2 ^ K) (hr : ∀ m, K = m + 1 → r ^ (2 ^ m) % p = (-1) % p) :
    Calls Tryz.prog 122 #[d, va] w (Gives w fun v w' => Ints w' v (valsL p sh r (2 ^ K) l) ∧ NewIn w v) := by
  have hp1 : 1 ≤ 2 ^ K := Nat.one_le_two_pow
  have hp2 : 2 ^ K ≤ 65536 := by
    have e1 : 2 ^ K ≤ 2 ^ 16 := Nat.pow_le_pow_right (by decide) hK
    have e2 : (2 : Nat) ^ 16 = 65536 := by decide
    omega
  have hnn : n = ((2 ^ K : Nat) : Int) := by rw [hn]; norm_cast
  have HK := Lib.hid hK; have HK1 := Lib.hid hK1; have HR := Lib.hid hr
  have hll := hl.run_len (P := Tryz.prog) slInts
  obtain ⟨h, hh⟩ : ∃ h, 2 ^ K = h := ⟨_, rfl⟩
  rw [hh] at hp1 hp2 hnn hlen
  have HH := Lib.hid hh; have HNN := Lib.hid hnn
  have hn1 : 1 ≤ n := by omega
  have hn2 : n ≤ 65536 := by omega
  have HD := Lib.hid hd; have C := Lib.hid hf; have HL := Lib.hid hl
  obtain ⟨b, rfl⟩ := hd.ptr
  obtain ⟨bb, hbb, d1, d2, d3, d4⟩ := hd
  obtain rfl : b = bb := by simpa using hbb
  clear hbb hf hl hn hh hK hK1 hr hnn
  go_enter Tryz.func122, Tryz.ntmps122
  go_wp2_with (refine wpList_mkn rfl _ _ 22 rfl slInts (Ext.refl w) rfl rfl (by omega) (by omega) (by omega) ?_; intro v1 w1 HO1 HX1 _; rw [show n.toNat = h by (have := HNN.out; omega)] at HO1)
  have HO := Lib.hid (show w1.ownsRow w.heap.size 3 1 v1 h ((shoU p sh l h 0).map (Value.int .i64)) by
    rw [shoU_zero]
    have e1 : (madeCells (Value.cells (.int .i64 0)) (h * 1)).toList = (List.replicate h (0 : Int)).map (Value.int .i64) := by simp [madeCells, Value.cells, Nat.mod_one, List.map_const']
    rw [← e1]; exact HO1)
  have HX := Lib.hid HX1
  clear HO1 HX1 d1 d2 d3 d4
  have HP1 := Lib.hid (show ptAt p 1 sh 0 = 1 by unfold ptAt; rw [Int.pow_zero, Int.mul_one]; exact one_mod C.out.two)
  go_loopw [6, 7, 8, 16] (fun x6 _ _ x16 wr => ∃ i : Nat, i ≤ l.length ∧ x16 = .int .i64 i ∧ x6 = .int .i64 (ptAt p 1 sh i) ∧ wr.ownsRow w.heap.size 3 1 v1 h ((shoU p sh l h i).map (Value.int .i64)) ∧ Ext w wr) (fun _ _ _ x16 _ => l.length - (intOf x16).toNat)
  case atStart => exact ⟨0, Nat.zero_le _, rfl, by rw [HP1.out], HO.out, HX.out⟩
  case round =>
    clear HO HX
    obtain ⟨i, hi, rfl, rfl, HO, HX⟩ := hrel
    by_cases hil : i < l.length
    · have hih : i < h := by omega
      have hix := HL.out.run_index (P := Tryz.prog) slInts i hil
      have hc := (HL.out.ext HX).cell i hil
      have hio := Ints.of_own HO
      have hixA := hio.run_index (P := Tryz.prog) slInts i (by rw [shoU_length]; exact hih)
      have hcA := hio.cell i (by rw [shoU_length]; exact hih)
      rw [shoU_nth p sh l h i hih, if_neg (by omega)] at hcA
      have ST := Lib.hid (show ((shoU p sh l h i).map (Value.int .i64)).take (i * 1) ++ (Value.cells (.int .i64 (fadd p 0 (fmul p (ptAt p 1 sh i) (nth l i))))).toList ++ ((shoU p sh l h i).map (Value.int .i64)).drop (i * 1 + 1) = (shoU p sh l h (i + 1)).map (Value.int .i64) by rw [set_mid (by rw [shoU_length]; exact hih), shoU_set p sh l h i hih])
      have HPS := Lib.hid (ptAt_succ p 1 sh i)
      obtain ⟨bb, hbb, d1, d2, d3, -⟩ := HD.out.ext HX
      obtain rfl : b = bb := by simpa using hbb
      have HF := Lib.hid (C.out.ext HX)
      have hm : (i : Int) % n = i := Int.emod_eq_of_lt (by omega) (by have := HNN.out; omega)
      have hm2 : (i : Int).tmod n = i := by rw [Int.tmod_eq_emod_of_nonneg (by omega)]; exact hm
      clear hbb hio
      go_wp2_with fail
      refine wp_region_quiet_tail 29 (by kernel_rfl) (by kernel_rfl) ?_
      simp only [List.take_succ_cons, List.take_zero, List.drop_succ_cons, List.drop_zero]
      repeat (go_big_quiet_step ((first | (go_at_call 94; exact mul_q HF.out _ _ _) | (go_at_call 65; exact add_q HF.out _ _ _))))
      refine wpQuiet_nil ?_
      rintro _ ⟨nq, rfl⟩
      have HO4 := own_ext HO (Ext.drewN wr nq)
      have HX4 := HX.trans (Ext.drewN wr nq)
      clear hix hc hixA hcA d1 d2 d3 HO HX HF
      go_wp2_with (refine wpList_set rfl rfl _ _ 3 rfl slInts HO4 i hih rfl (.int .i64 (fadd p 0 (fmul p (ptAt p 1 sh i) (nth l i)))) rfl rfl (by intro u hu; simp [Value.cells] at hu; subst hu; rfl) ?_; intro w7 HO7 HG7)
      rw [ST.out] at HO7
      have HX7 := Ext.own_grown HX4 HO4 HG7
      obtain ⟨bb, hbb, d1, d2, d3, -⟩ := HD.out.ext HX7
      obtain rfl : b = bb := by simpa using hbb
      have HF := Lib.hid (C.out.ext HX7)
      clear hbb HO4 HX4 HG7
      go_wp2_with fail
      go_quiet ((go_at_call 94; exact mul_q HF.out _ _ _))
      have HO8 := own_ext HO7 (Ext.drewN w7 nq)
      have HX8 := HX7.trans (Ext.drewN w7 nq)
      clear d1 d2 d3 HO7 HX7 HF
      go_wp2_with fail
      go_roundw
      case rel => exact ⟨i + 1, by omega, by go_num, by rw [HPS.out], HO8, HX8⟩
      case measure => simp [intOf]; omega
    · obtain rfl : i = l.length := by omega
      have HI := Ints.of_own HO
      obtain ⟨bb, hbb, d1, d2, d3, d4⟩ := HD.out.ext HX
      obtain rfl : b = bb := by simpa using hbb
      clear hbb hil hi HO
      go_wp2_with fail
      refine (spread_any K _ _ bf p g0 n sh r fs (HD.out.ext HX) (C.out.ext HX) v1 (shoU p sh l h l.length) r HI (by rw [shoU_length]; exact HH.out.symm) (Nat.le_trans HK.out (by omega))).mono ?_
      rintro e w3 ⟨u3, rfl, hx3, L, hI3, hL3, hm3, hcase⟩
      obtain ⟨ho3, hb3⟩ : w3.ownsRow _ 3 1 u3 (2 ^ K) (L.map (Value.int .i64)) ∧ ∀ j, j < 2 ^ K → 0 ≤ nth L j ∧ nth L j < p := by
        rcases hcase with ⟨h0, _⟩ | ⟨_, h⟩
        · have := HK1.out; omega
        · exact h
      rw [← HH.out] at hm3 hlen
      have hfin := vals_fin hlen HR.out hL3 hm3 hb3
      subst hfin
      obtain ⟨gb, cap, cur, hv, hbg, hg, hn', hm', -⟩ := elt_own ho3 (show 0 < 2 ^ K by have := HH.out; omega)
      subst hv
      have HI4 := Lib.hid hI3
      have HX3 := Lib.hid (HX.trans hx3)
      have HBG := Lib.hid (show w.heap.size ≤ gb by have := HX.size; omega)
      clear hI3 hL3 hm3 hcase ho3 hb3 hx3 d1 d2 d3 d4 HX
      go_wp2_with (go_at_call 118; refine (clipW_any gb 0 _ cap _ (by omega) (by omega)).mono ?_; rintro e w4 ⟨rfl, rfl⟩)
      go_ret
      refine .mk _ rfl HX3.out ⟨?_, fun k hk => ?_⟩
      · have hl2 := valsL_length p sh r (2 ^ K) l
        have := ints_clip (by rw [hl2]; exact HI4.out)
        rwa [hl2] at this
      · simp [Value.ownBlock] at hk
        have := HBG.out; omega
end Go.Proofs.YtcpnidomdkaefaaGreatDoor
