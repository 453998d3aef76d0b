/- The document's polynomials through points; points of a line; how many variables a table has: contracts. -/
import Derived.Test.YthjemncbphdomaaDoorQ1
import Derived.Test.YthjemncbphdomaaDoorP1
namespace Go.Att
open Go.RowKit
/-- The first n numbers. -/
def idxL (n : Nat) : List Int := (List.range n).map fun (i : Nat) => (i : Int)
theorem idxL_length (n : Nat) : (idxL n).length = n := by simp [idxL]
theorem idxL_nth (n i : Nat) (h : i < n) : nth (idxL n) i = i := nth_map_range _ n i h
theorem idxL_step (n : Nat) : (idxL (n + 1)).map (Value.int .i64) = (idxL n).map (Value.int .i64) ++ [.int .i64 (n : Int)] := by
  unfold idxL; rw [List.range_succ]; simp
/-- A point of the line through two points. -/
def onL (p : Int) (x y : List Int) (t : Int) : List Int := (List.range x.length).map fun i => fadd p (nth x i) (fmul p t (fsub p (nth y i) (nth x i)))
theorem onL_length (p : Int) (x y : List Int) (t : Int) : (onL p x y t).length = x.length := by simp [onL]
theorem onL_step (p : Int) (x y : List Int) (t : Int) {i : Nat} (h : i < x.length) : ((onL p x y t).take (i + 1)).map (Value.int .i64) = ((onL p x y t).take i).map (Value.int .i64) ++ [.int .i64 (fadd p (nth x i) (fmul p t (fsub p (nth y i) (nth x i))))] := by
  have hl : i < (onL p x y t).length := by rw [onL_length]; exact h
  rw [List.take_succ_eq_append_getElem hl]
  simp [onL]
theorem wgt_cong {p : Int} : ∀ (l l' : List Int), l.length = l'.length → (∀ k, nth l k % p = nth l' k % p) → ∀ i, wgt l i % p = wgt l' i % p
  | [], [], _, _, _ => rfl
  | [], _ :: _, h, _, _ => by simp at h
  | _ :: _, [], h, _, _ => by simp at h
  | a :: l, b :: l', h, hk, i => by
    have hl : l.length = l'.length := by simpa using h
    have h0 : a % p = b % p := hk 0
    have ht := wgt_cong l l' hl (fun k => hk (k + 1)) i
    rw [wgt_cons, wgt_cons, hl]
    refine mmul ?_ ht
    split
    · exact h0
    · rw [Int.sub_emod, h0, ← Int.sub_emod]
theorem ext_cong {p : Int} (T l l' : List Int) (hl : l.length = l'.length) (hk : ∀ k, nth l k % p = nth l' k % p) : ext T l % p = ext T l' % p := by
  unfold ext
  rw [exS_sumN, exS_sumN]
  exact sumN_mod p _ fun i _ => mmul rfl (wgt_cong l l' hl hk i)
theorem lineZ_length (x y : List Int) (t : Int) (h : x.length = y.length) : (lineZ x y t).length = x.length := by simp [lineZ, h]
theorem lineZ_nth (x y : List Int) (t : Int) (h : x.length = y.length) (k : Nat) (hk : k < x.length) : nth (lineZ x y t) k = nth x k + t * (nth y k - nth x k) := by
  have h2 : k < y.length := by omega
  simp [lineZ, nth, List.getD_eq_getElem?_getD, List.getElem?_zipWith, hk, h2]
theorem ext_on (p : Int) (T x y : List Int) (t : Int) (h : x.length = y.length) : ext T (onL p x y t) % p = ext T (lineZ x y t) % p := by
  refine ext_cong T _ _ (by rw [onL_length, lineZ_length x y t h]) fun k => ?_
  by_cases hk : k < x.length
  · rw [lineZ_nth x y t h k hk, onL, nth_map_range _ _ _ hk]
    simp only [fadd, fmul, fsub, em_r, ea_r, e_idem]
  · have h1 : nth (onL p x y t) k = 0 := by simp [nth, onL, show x.length ≤ k by omega]
    have h3 : (lineZ x y t).length ≤ k := by rw [lineZ_length x y t h]; omega
    have h2 : nth (lineZ x y t) k = 0 := by simp [nth, h3]
    rw [h1, h2]
end Go.Att
namespace Go.Proofs.YthjemncbphdomaaDoor
open Go.RowKit Go.Att

set_option maxRecDepth 100000 in
set_option maxHeartbeats 1000000 in
theorem rvanish_any (p k : Int) (vx : Value) (xs : List Int) (w : World) (hp : 2 ≤ p) (hp2 : p ≤ 2147483647) (hx : Ints w vx xs) (hs : xs.length ≤ 100000) :
    Calls Tryd.prog 167 #[.int .i64 p, vx, .int .i64 k] w (Gives w fun u w' => Ints w' u (vanS p xs k xs.length)) := by
  have hlx := hx.run_len (P := Tryd.prog) slInts
  have HX := Lib.hid hx; clear hx
  have hx1 := Ext.alloc w (Obj.cells #[.int .i64 1] 3)
  have h1 := ints_lit1 w 1 3
  go_enter Tryd.func167, Tryd.ntmps167
  go_wp2_with fail
  go_loopw [7, 8, 9] (fun x7 x8 _ wr => ∃ i : Nat, i ≤ xs.length ∧ x8 = .int .i64 i ∧ Ints wr x7 (vanS p xs k i) ∧ Ext w wr) (fun _ x8 _ _ => xs.length - (intOf x8).toNat)
  case atStart => exact ⟨0, Nat.zero_le _, rfl, h1, hx1⟩
  case round =>
    obtain ⟨i, hi, rfl, hT, HXX⟩ := hrel
    have HT := Lib.hid hT; clear hT h1 hx1
    by_cases hlt : i < xs.length
    · have hix := HX.out.run_index (P := Tryd.prog) slInts i hlt
      have hc := (HX.out.ext HXX).cell i hlt
      by_cases hk : (i : Int) = k
      · have hb : ((i : Int) == k) = true := by rw [beq_iff_eq]; exact hk
        have S := Lib.hid (show vanS p xs k (i + 1) = vanS p xs k i by simp only [vanS]; rw [if_pos hk])
        clear hk
        go_wp2_with fail
        go_roundw
        case rel => exact ⟨i + 1, by omega, by go_num, by rw [S.out]; exact HT.out, HXX⟩
        case measure => simp [intOf]; omega
      · have hb : ((i : Int) == k) = false := by rw [beq_eq_false_iff_ne]; exact hk
        have S := Lib.hid (show vanS p xs k (i + 1) = timesL p (vanS p xs k i) [fsub p 0 (nth xs i), 1] by simp only [vanS]; rw [if_neg hk])
        have HL := Lib.hid (show (vanS p xs k i).length ≤ 400000 by have := vanS_length p xs k i; omega)
        clear hk
        go_wp2_with (first | (go_at_call 63; refine (rsub_any _ _ _ _ hp hp2).mono ?_; rintro e w' ⟨rfl, rfl⟩) | (go_at_call 208; refine (rtimes_any p _ _ _ [fsub p 0 (nth xs i), 1] _ hp hp2 (HT.out.ext (Ext.alloc _ _)) (ints_lit2 _ _ _ _) HL.out (by simp)).mono ?_; rintro e w3 ⟨u3, rfl, hx3, hu⟩; have HU3 := Lib.hid hu; clear hu))
        go_roundw
        case rel => exact ⟨i + 1, by omega, by go_num, by rw [S.out]; exact HU3.out, (HXX.trans (Ext.alloc _ _)).trans hx3⟩
        case measure => simp [intOf]; omega
    · obtain rfl : i = xs.length := by omega
      go_wp2_with fail
      go_ret
      exact .mk _ rfl HXX HT.out

set_option maxRecDepth 100000 in
set_option maxHeartbeats 1000000 in
theorem rfit_any (p : Int) (vx vy : Value) (xs ys : List Int) (w : World) (hp : 2 ≤ p) (hp2 : p ≤ 2147483647) (hx : Ints w vx xs) (hy : Ints w vy ys) (hs : xs.length ≤ 100000) (hl : xs.length ≤ ys.length) :
    Calls Tryd.prog 125 #[.int .i64 p, vx, vy] w (Gives w fun u w' => Ints w' u (fitL p xs ys)) := by
  have hlx := hx.run_len (P := Tryd.prog) slInts
  have HX := Lib.hid hx; have HY := Lib.hid hy; clear hx hy
  go_enter Tryd.func125, Tryd.ntmps125
  go_wp2_with fail
  go_loopw [7, 8, 9, 10, 11, 12] (fun x7 x8 _ _ _ _ wr => ∃ i : Nat, i ≤ xs.length ∧ x8 = .int .i64 i ∧ Ints wr x7 (fitS p xs ys i) ∧ Ext w wr) (fun _ x8 _ _ _ _ _ => xs.length - (intOf x8).toNat)
  case atStart => exact ⟨0, Nat.zero_le _, rfl, Ints.nil _, Ext.refl _⟩
  case round =>
    obtain ⟨i, hi, rfl, hT, HXX⟩ := hrel
    have HT := Lib.hid hT; clear hT
    by_cases hlt : i < xs.length
    · have hix := HX.out.run_index (P := Tryd.prog) slInts i hlt
      have hc := (HX.out.ext HXX).cell i hlt
      have hiy := HY.out.run_index (P := Tryd.prog) slInts i (by omega)
      have hcy := (HY.out.ext HXX).cell i (by omega)
      have HLV := Lib.hid (show (vanS p xs i xs.length).length ≤ 1000000 by have := vanS_length p xs i xs.length; omega)
      have HLF := Lib.hid (show (fitS p xs ys i).length ≤ 1000000 by have := fitS_length p xs ys i hi; omega)
      have HLS := Lib.hid (show (scaledL p (vanS p xs i xs.length) (fitC p xs ys i) 0).length ≤ 1000000 by
        have h1 := vanS_length p xs i xs.length
        have h2 := scaledL_length p (vanS p xs i xs.length) (fitC p xs ys i) 0
        omega)
      have FC := Lib.hid (show fdiv p (nth ys i) (ev (vanS p xs i xs.length) (nth xs i) % p) = fitC p xs ys i from rfl)
      have S := Lib.hid (show fitS p xs ys (i + 1) = plusL p (fitS p xs ys i) (scaledL p (vanS p xs i xs.length) (fitC p xs ys i) 0) from rfl)
      go_wp2_with (go_at_call 167; refine (rvanish_any p i _ xs _ hp hp2 (HX.out.ext HXX) hs).mono ?_; rintro e w2 ⟨u2, rfl, hx2, hu⟩; have HV := Lib.hid hu; clear hu; replace hc := hx2.cell hc; replace hcy := hx2.cell hcy)
      refine (reval_any p (nth xs i) _ _ _ hp hp2 HV.out).mono ?_
      rintro e w' ⟨rfl, rfl⟩
      go_wp2_with (first | (go_at_call 168; refine (rdiv_any p (nth ys i) _ _ hp hp2).mono ?_; rw [FC.out]; rintro e w' ⟨rfl, rfl⟩) | (go_at_call 169; refine (rscaled_any p (fitC p xs ys i) 0 _ (vanS p xs i xs.length) _ hp hp2 HV.out HLV.out (by omega)).mono ?_; rintro e w3 ⟨u3, rfl, hx3, hu⟩; have HS3 := Lib.hid hu; clear hu) | (go_at_call 170; refine (rplus_any p _ _ _ _ _ hp hp2 ((HT.out.ext hx2).ext hx3) HS3.out HLF.out HLS.out).mono ?_; rintro e w4 ⟨u4, rfl, hx4, hu⟩; have HU4 := Lib.hid hu; clear hu))
      go_roundw
      case rel => exact ⟨i + 1, by omega, by go_num, by rw [S.out]; exact HU4.out, HXX.trans (hx2.trans (hx3.trans hx4))⟩
      case measure => simp [intOf]; omega
    · obtain rfl : i = xs.length := by omega
      go_wp2_with fail
      go_ret
      exact .mk _ rfl HXX HT.out

set_option maxRecDepth 100000 in
set_option maxHeartbeats 1000000 in
theorem rthrough_any (p t : Int) (vl : Value) (l : List Int) (w : World) (hp : 2 ≤ p) (hp2 : p ≤ 2147483647) (hl : Ints w vl l) (hs : l.length ≤ 100000) :
    Calls Tryd.prog 49 #[.int .i64 p, vl, .int .i64 t] w fun e w' => e = .returned (.int .i64 (ev (fitL p (idxL l.length) l) t % p)) ∧ Ext w w' := by
  have hll := hl.run_len (P := Tryd.prog) slInts
  have HL := Lib.hid hl; clear hl
  go_enter Tryd.func49, Tryd.ntmps49
  go_wp2_with fail
  go_loopw [7, 8] (fun x7 x8 wr => ∃ i : Nat, i ≤ l.length ∧ x8 = .int .i64 i ∧ wr.ownsRow w.heap.size 3 1 x7 i ((idxL i).map (Value.int .i64)) ∧ Ext w wr) (fun _ x8 _ => l.length - (intOf x8).toNat)
  case atStart => exact ⟨0, Nat.zero_le _, rfl, World.ownsRow_nil _ _ _ _, Ext.refl _⟩
  case round =>
    obtain ⟨i, hi, rfl, HO, HX⟩ := hrel
    by_cases hlt : i < l.length
    · have S := Lib.hid (idxL_step i)
      go_wp2_with (at_builtin; refine wpList_app1 rfl _ _ 23 rfl slInts rfl HX HO rfl _ rfl rfl (by omega) (by omega) ?_; intro v' w2 HO' HX' _)
      go_roundw
      case rel => exact ⟨i + 1, by omega, by go_num, by rw [S.out]; exact HO', HX'⟩
      case measure => simp [intOf]; omega
    · obtain rfl : i = l.length := by omega
      have HI := Lib.hid (Ints.of_own HO)
      have HB := Lib.hid (idxL_length l.length)
      go_wp2_with (first | (go_at_call 125; refine (rfit_any p _ _ _ _ _ hp hp2 HI.out (HL.out.ext HX) (by rw [HB.out]; exact hs) (by rw [HB.out]; exact Nat.le_refl _)).mono ?_; rintro e w3 ⟨u3, rfl, hx3, hu⟩; have HU3 := Lib.hid hu; clear hu) | (go_at_call 126; refine (reval_any p t _ _ _ hp hp2 HU3.out).mono ?_; rintro e w' ⟨rfl, rfl⟩))
      go_ret
      exact ⟨rfl, HX.trans hx3⟩

set_option maxRecDepth 100000 in
set_option maxHeartbeats 1000000 in
theorem ron_any (p t : Int) (vx vy : Value) (x y : List Int) (w : World) (hp : 2 ≤ p) (hp2 : p ≤ 2147483647) (hx : Ints w vx x) (hy : Ints w vy y) (hs : x.length ≤ 100000) (hl : x.length ≤ y.length) :
    Calls Tryd.prog 51 #[.int .i64 p, vx, vy, .int .i64 t] w (Gives w fun u w' => Ints w' u (onL p x y t)) := by
  have hlx := hx.run_len (P := Tryd.prog) slInts
  have HX := Lib.hid hx; have HY := Lib.hid hy; clear hx hy
  go_enter Tryd.func51, Tryd.ntmps51
  go_wp2_with fail
  go_loopw [9, 10, 11] (fun x9 x10 _ wr => ∃ i : Nat, i ≤ x.length ∧ x10 = .int .i64 i ∧ wr.ownsRow w.heap.size 3 1 x9 i (((onL p x y t).take i).map (Value.int .i64)) ∧ Ext w wr) (fun _ x10 _ _ => x.length - (intOf x10).toNat)
  case atStart => exact ⟨0, Nat.zero_le _, rfl, World.ownsRow_nil _ _ _ _, Ext.refl _⟩
  case round =>
    obtain ⟨i, hi, rfl, HO, HXX⟩ := hrel
    by_cases hlt : i < x.length
    · have hix := HX.out.run_index (P := Tryd.prog) slInts i hlt
      have hc := (HX.out.ext HXX).cell i hlt
      have hiy := HY.out.run_index (P := Tryd.prog) slInts i (by omega)
      have hcy := (HY.out.ext HXX).cell i (by omega)
      have S := Lib.hid (onL_step p x y t hlt)
      go_wp2_with fail
      go_quiet ((go_at_call 63; exact rsub_q _ _ _ _ _ hp hp2))
      have HO2 := own_ext HO (Ext.drewN wr nq)
      have HX2 := HXX.trans (Ext.drewN wr nq)
      replace hc := (Ext.drewN wr nq).cell hc
      clear hcy
      generalize wr.drewN nq = w5 at *
      go_wp2_with (first | (go_at_call 57; refine (rmul_any _ _ _ _ hp hp2).mono ?_; rintro e w' ⟨rfl, rfl⟩) | (go_at_call 48; refine (radd_any _ _ _ _ hp hp2).mono ?_; rintro e w' ⟨rfl, rfl⟩) | (at_builtin; refine wpList_app1 rfl _ _ 23 rfl slInts rfl HX2 HO2 rfl _ rfl rfl (by omega) (by omega) ?_; intro v' w6 HO' HX' _))
      go_roundw
      case rel => exact ⟨i + 1, by omega, by go_num, by rw [S.out]; exact HO', HX'⟩
      case measure => simp [intOf]; omega
    · have hE : (onL p x y t).take i = onL p x y t := List.take_of_length_le (by rw [onL_length]; omega)
      rw [hE] at HO
      have HI := Lib.hid (Ints.of_own HO)
      clear hE
      go_wp2_with fail
      go_ret
      exact .mk _ rfl HXX HI.out

set_option maxHeartbeats 1000000 in
theorem rvars_any (v : Value) (l : List Int) (w : World) (hv : Ints w v l) : Calls Tryd.prog 50 #[v] w fun e w' => e = .returned (.int .i64 (varOf l.length)) ∧ w = w' := by
  have hll := hv.run_len (P := Tryd.prog) slInts
  clear hv
  generalize (l.length : Int) = n at *
  go_enter Tryd.func50, Tryd.ntmps50
  go_wp2
  go_loop [3, 4] (fun x3 x4 => ∃ k : Nat, k ≤ 13 ∧ x3 = .int .i64 ((2 : Int) ^ k) ∧ x4 = .int .i64 k ∧ Hid (∀ j : Nat, j < k → (2 : Int) ^ j ≠ n)) (fun _ x4 => 13 - (intOf x4).toNat)
  case atStart => exact ⟨0, by omega, rfl, rfl, Lib.hid (fun j hj => by omega)⟩
  case round =>
    obtain ⟨k, hk, rfl, rfl, H⟩ := hrel
    by_cases hk7 : k ≤ 12
    · have hp : (2 : Int) ^ (k + 1) = 2 ^ k * 2 := Int.pow_succ _ _
      have hb : (1 : Int) ≤ 2 ^ k ∧ (2 : Int) ^ k ≤ 4096 := by
        rcases le12 hk7 with rfl | rfl | rfl | rfl | rfl | rfl | rfl | rfl | rfl | rfl | rfl | rfl | rfl <;> decide
      have hw := varOf_of k hk7
      have HW := Lib.hid hw; have HP := Lib.hid hp; clear hw hp
      by_cases he : (2 : Int) ^ k = n
      · have HE := Lib.hid he
        have hbb : (n == (2 : Int) ^ k) = true := by rw [beq_iff_eq]; exact he.symm
        clear he
        go_wp2
        go_ret
        exact ⟨ret_int (by rw [← HE.out, HW.out]), rfl⟩
      · have HE := Lib.hid he
        have hbb : (n == (2 : Int) ^ k) = false := by rw [beq_eq_false_iff_ne]; exact fun h => he h.symm
        clear he
        generalize hN : (2 : Int) ^ k = N at hb hbb
        go_wp2
        go_round
        case rel => exact ⟨k + 1, by omega, by rw [HP.out, hN], by go_num, Lib.hid (fun j hj => by
          rcases Nat.lt_or_eq_of_le (show j ≤ k by omega) with h | rfl
          · exact H.out j h
          · exact HE.out)⟩
        case measure => simp [intOf]; omega
    · obtain rfl : k = 13 := by omega
      have HW := Lib.hid (varOf_no (n := n) (fun k hk => H.out k (by omega)))
      go_wp2
      go_ret
      exact ⟨ret_int HW.out.symm, rfl⟩
end Go.Proofs.YthjemncbphdomaaDoor
