/- The document's polynomials through points; points of a line; how many variables a table has: contracts. A layer's sum, the program's side: Part with its faults. What a table is at a point, the program's side: Extend. A circuit of one gate, built in place. What is not so is seen by nearly all numbers: plain laws. What goes through numbers at 0, 1, .. is one: plain laws. No program in sight. -/
import Derived.Test.YtaajjaadlpgbiaaGreatDoorZx11
import Derived.Test.YtaajjaadlpgbiaaGreatDoorP1
import Derived.Test.YtaajjaadlpgbiaaGreatDoorP3
import Derived.Test.YtaajjaadlpgbiaaGreatDoorZx6
section
namespace Go.Att
open Go.RowKit
/-- The first n numbers. -/
def idxL (n : Nat) : List Int := (List.range n).map fun (i : Nat) => (i : Int)
theorem idxL_length (n : Nat) : (idxL n).length = n := by simp [idxL]
theorem idxL_nth (n i : Nat) (h : i < n) : nth (idxL n) i = i := nth_map_range _ n i h
theorem idxL_step (n : Nat) : (idxL (n + 1)).map (Value.int .i64) = (idxL n).map (Value.int .i64) ++ [.int .i64 (n : Int)] := by
  unfold idxL; rw [List.range_succ]; simp
/-- A point of the line through two points. -/
def onL (p : Int) (x y : List Int) (t : Int) : List Int := (List.range x.length).map fun i => fadd p (nth x i) (fmul p t (fsub p (nth y i) (nth x i)))
theorem onL_length (p : Int) (x y : List Int) (t : Int) : (onL p x y t).length = x.length := by simp [onL]
theorem onL_step (p : Int) (x y : List Int) (t : Int) {i : Nat} (h : i < x.length) : ((onL p x y t).take (i + 1)).map (Value.int .i64) = ((onL p x y t).take i).map (Value.int .i64) ++ [.int .i64 (fadd p (nth x i) (fmul p t (fsub p (nth y i) (nth x i))))] := by
  have hl : i < (onL p x y t).length := by rw [onL_length]; exact h
  rw [List.take_succ_eq_append_getElem hl]
  simp [onL]
theorem wgt_cong {p : Int} : ∀ (l l' : List Int), l.length = l'.length → (∀ k, nth l k % p = nth l' k % p) → ∀ i, wgt l i % p = wgt l' i % p
  | [], [], _, _, _ => rfl
  | [], _ :: _, h, _, _ => by simp at h
  | _ :: _, [], h, _, _ => by simp at h
  | a :: l, b :: l', h, hk, i => by
    have hl : l.length = l'.length := by simpa using h
    have h0 : a % p = b % p := hk 0
    have ht := wgt_cong l l' hl (fun k => hk (k + 1)) i
    rw [wgt_cons, wgt_cons, hl]
    refine mmul ?_ ht
    split
    · exact h0
    · rw [Int.sub_emod, h0, ← Int.sub_emod]
theorem ext_cong {p : Int} (T l l' : List Int) (hl : l.length = l'.length) (hk : ∀ k, nth l k % p = nth l' k % p) : ext T l % p = ext T l' % p := by
  unfold ext
  rw [exS_sumN, exS_sumN]
  exact sumN_mod p _ fun i _ => mmul rfl (wgt_cong l l' hl hk i)
theorem lineZ_length (x y : List Int) (t : Int) (h : x.length = y.length) : (lineZ x y t).length = x.length := by simp [lineZ, h]
theorem lineZ_nth (x y : List Int) (t : Int) (h : x.length = y.length) (k : Nat) (hk : k < x.length) : nth (lineZ x y t) k = nth x k + t * (nth y k - nth x k) := by
  have h2 : k < y.length := by omega
  simp [lineZ, nth, List.getD_eq_getElem?_getD, List.getElem?_zipWith, hk, h2]
theorem ext_on (p : Int) (T x y : List Int) (t : Int) (h : x.length = y.length) : ext T (onL p x y t) % p = ext T (lineZ x y t) % p := by
  refine ext_cong T _ _ (by rw [onL_length, lineZ_length x y t h]) fun k => ?_
  by_cases hk : k < x.length
  · rw [lineZ_nth x y t h k hk, onL, nth_map_range _ _ _ hk]
    simp only [fadd, fmul, fsub, em_r, ea_r, e_idem]
  · have h1 : nth (onL p x y t) k = 0 := by simp [nth, onL, show x.length ≤ k by omega]
    have h3 : (lineZ x y t).length ≤ k := by rw [lineZ_length x y t h]; omega
    have h2 : nth (lineZ x y t) k = 0 := by simp [nth, h3]
    rw [h1, h2]
end Go.Att
namespace Go.Proofs.YtaajjaadlpgbiaaGreatDoor
open Go.RowKit Go.Att

set_option maxRecDepth 100000 in
set_option maxHeartbeats 1000000 in
theorem rvanish_any (p k : Int) (vx : Value) (xs : List Int) (w : World) (hp : 2 ≤ p) (hp2 : p ≤ 2147483647) (hx : Ints w vx xs) (hs : xs.length ≤ 100000) :
    Calls Tryz.prog 141 #[.int .i64 p, vx, .int .i64 k] w (Gives w fun u w' => Ints w' u (vanS p xs k xs.length)) := by
  have hlx := hx.run_len (P := Tryz.prog) slInts
  have HX := Lib.hid hx; clear hx
  have hx1 := Ext.alloc w (Obj.cells #[.int .i64 1] 3)
  have h1 := ints_lit1 w 1 3
  go_enter Tryz.func141, Tryz.ntmps141
  go_wp2_with fail
  go_loopw [7, 8, 9] (fun x7 x8 _ wr => ∃ i : Nat, i ≤ xs.length ∧ x8 = .int .i64 i ∧ Ints wr x7 (vanS p xs k i) ∧ Ext w wr) (fun _ x8 _ _ => xs.length - (intOf x8).toNat)
  case atStart => exact ⟨0, Nat.zero_le _, rfl, h1, hx1⟩
  case round =>
    obtain ⟨i, hi, rfl, hT, HXX⟩ := hrel
    have HT := Lib.hid hT; clear hT h1 hx1
    by_cases hlt : i < xs.length
    · have hix := HX.out.run_index (P := Tryz.prog) slInts i hlt
      have hc := (HX.out.ext HXX).cell i hlt
      by_cases hk : (i : Int) = k
      · have hb : ((i : Int) == k) = true := by rw [beq_iff_eq]; exact hk
        have S := Lib.hid (show vanS p xs k (i + 1) = vanS p xs k i by simp only [vanS]; rw [if_pos hk])
        clear hk
        go_wp2_with fail
        go_roundw
        case rel => exact ⟨i + 1, by omega, by go_num, by rw [S.out]; exact HT.out, HXX⟩
        case measure => simp [intOf]; omega
      · have hb : ((i : Int) == k) = false := by rw [beq_eq_false_iff_ne]; exact hk
        have S := Lib.hid (show vanS p xs k (i + 1) = timesL p (vanS p xs k i) [fsub p 0 (nth xs i), 1] by simp only [vanS]; rw [if_neg hk])
        have HL := Lib.hid (show (vanS p xs k i).length ≤ 400000 by have := vanS_length p xs k i; omega)
        clear hk
        go_wp2_with (first | (go_at_call 112; refine (rsub_any _ _ _ _ hp hp2).mono ?_; rintro e w' ⟨rfl, rfl⟩) | (go_at_call 160; refine (rtimes_any p _ _ _ [fsub p 0 (nth xs i), 1] _ hp hp2 (HT.out.ext (Ext.alloc _ _)) (ints_lit2 _ _ _ _) HL.out (by simp)).mono ?_; rintro e w3 ⟨u3, rfl, hx3, hu⟩; have HU3 := Lib.hid hu; clear hu))
        go_roundw
        case rel => exact ⟨i + 1, by omega, by go_num, by rw [S.out]; exact HU3.out, (HXX.trans (Ext.alloc _ _)).trans hx3⟩
        case measure => simp [intOf]; omega
    · obtain rfl : i = xs.length := by omega
      go_wp2_with fail
      go_ret
      exact .mk _ rfl HXX HT.out

set_option maxRecDepth 100000 in
set_option maxHeartbeats 1000000 in
theorem rfit_any (p : Int) (vx vy : Value) (xs ys : List Int) (w : World) (hp : 2 ≤ p) (hp2 : p ≤ 2147483647) (hx : Ints w vx xs) (hy : Ints w vy ys) (hs : xs.length ≤ 100000) (hl : xs.length ≤ ys.length) :
    Calls Tryz.prog 109 #[.int .i64 p, vx, vy] w (Gives w fun u w' => Ints w' u (fitL p xs ys)) := by
  have hlx := hx.run_len (P := Tryz.prog) slInts
  have HX := Lib.hid hx; have HY := Lib.hid hy; clear hx hy
  go_enter Tryz.func109, Tryz.ntmps109
  go_wp2_with fail
  go_loopw [7, 8, 9, 10, 11, 12] (fun x7 x8 _ _ _ _ wr => ∃ i : Nat, i ≤ xs.length ∧ x8 = .int .i64 i ∧ Ints wr x7 (fitS p xs ys i) ∧ Ext w wr) (fun _ x8 _ _ _ _ _ => xs.length - (intOf x8).toNat)
  case atStart => exact ⟨0, Nat.zero_le _, rfl, Ints.nil _, Ext.refl _⟩
  case round =>
    obtain ⟨i, hi, rfl, hT, HXX⟩ := hrel
    have HT := Lib.hid hT; clear hT
    by_cases hlt : i < xs.length
    · have hix := HX.out.run_index (P := Tryz.prog) slInts i hlt
      have hc := (HX.out.ext HXX).cell i hlt
      have hiy := HY.out.run_index (P := Tryz.prog) slInts i (by omega)
      have hcy := (HY.out.ext HXX).cell i (by omega)
      have HLV := Lib.hid (show (vanS p xs i xs.length).length ≤ 1000000 by have := vanS_length p xs i xs.length; omega)
      have HLF := Lib.hid (show (fitS p xs ys i).length ≤ 1000000 by have := fitS_length p xs ys i hi; omega)
      have HLS := Lib.hid (show (scaledL p (vanS p xs i xs.length) (fitC p xs ys i) 0).length ≤ 1000000 by
        have h1 := vanS_length p xs i xs.length
        have h2 := scaledL_length p (vanS p xs i xs.length) (fitC p xs ys i) 0
        omega)
      have FC := Lib.hid (show fdiv p (nth ys i) (ev (vanS p xs i xs.length) (nth xs i) % p) = fitC p xs ys i from rfl)
      have S := Lib.hid (show fitS p xs ys (i + 1) = plusL p (fitS p xs ys i) (scaledL p (vanS p xs i xs.length) (fitC p xs ys i) 0) from rfl)
      go_wp2_with (go_at_call 141; refine (rvanish_any p i _ xs _ hp hp2 (HX.out.ext HXX) hs).mono ?_; rintro e w2 ⟨u2, rfl, hx2, hu⟩; have HV := Lib.hid hu; clear hu; replace hc := hx2.cell hc; replace hcy := hx2.cell hcy)
      refine (reval_any p (nth xs i) _ _ _ hp hp2 HV.out).mono ?_
      rintro e w' ⟨rfl, rfl⟩
      go_wp2_with (first | (go_at_call 142; refine (rdiv_any p (nth ys i) _ _ hp hp2).mono ?_; rw [FC.out]; rintro e w' ⟨rfl, rfl⟩) | (go_at_call 143; refine (rscaled_any p (fitC p xs ys i) 0 _ (vanS p xs i xs.length) _ hp hp2 HV.out HLV.out (by omega)).mono ?_; rintro e w3 ⟨u3, rfl, hx3, hu⟩; have HS3 := Lib.hid hu; clear hu) | (go_at_call 144; refine (rplus_any p _ _ _ _ _ hp hp2 ((HT.out.ext hx2).ext hx3) HS3.out HLF.out HLS.out).mono ?_; rintro e w4 ⟨u4, rfl, hx4, hu⟩; have HU4 := Lib.hid hu; clear hu))
      go_roundw
      case rel => exact ⟨i + 1, by omega, by go_num, by rw [S.out]; exact HU4.out, HXX.trans (hx2.trans (hx3.trans hx4))⟩
      case measure => simp [intOf]; omega
    · obtain rfl : i = xs.length := by omega
      go_wp2_with fail
      go_ret
      exact .mk _ rfl HXX HT.out

set_option maxRecDepth 100000 in
set_option maxHeartbeats 1000000 in
theorem rthrough_any (p t : Int) (vl : Value) (l : List Int) (w : World) (hp : 2 ≤ p) (hp2 : p ≤ 2147483647) (hl : Ints w vl l) (hs : l.length ≤ 100000) :
    Calls Tryz.prog 56 #[.int .i64 p, vl, .int .i64 t] w fun e w' => e = .returned (.int .i64 (ev (fitL p (idxL l.length) l) t % p)) ∧ Ext w w' := by
  have hll := hl.run_len (P := Tryz.prog) slInts
  have HL := Lib.hid hl; clear hl
  go_enter Tryz.func56, Tryz.ntmps56
  go_wp2_with fail
  go_loopw [7, 8] (fun x7 x8 wr => ∃ i : Nat, i ≤ l.length ∧ x8 = .int .i64 i ∧ wr.ownsRow w.heap.size 3 1 x7 i ((idxL i).map (Value.int .i64)) ∧ Ext w wr) (fun _ x8 _ => l.length - (intOf x8).toNat)
  case atStart => exact ⟨0, Nat.zero_le _, rfl, World.ownsRow_nil _ _ _ _, Ext.refl _⟩
  case round =>
    obtain ⟨i, hi, rfl, HO, HX⟩ := hrel
    by_cases hlt : i < l.length
    · have S := Lib.hid (idxL_step i)
      go_wp2_with (at_builtin; refine wpList_app1 rfl _ _ 23 rfl slInts rfl HX HO rfl _ rfl rfl (by omega) (by omega) ?_; intro v' w2 HO' HX' _)
      go_roundw
      case rel => exact ⟨i + 1, by omega, by go_num, by rw [S.out]; exact HO', HX'⟩
      case measure => simp [intOf]; omega
    · obtain rfl : i = l.length := by omega
      have HI := Lib.hid (Ints.of_own HO)
      have HB := Lib.hid (idxL_length l.length)
      go_wp2_with (first | (go_at_call 109; refine (rfit_any p _ _ _ _ _ hp hp2 HI.out (HL.out.ext HX) (by rw [HB.out]; exact hs) (by rw [HB.out]; exact Nat.le_refl _)).mono ?_; rintro e w3 ⟨u3, rfl, hx3, hu⟩; have HU3 := Lib.hid hu; clear hu) | (go_at_call 110; refine (reval_any p t _ _ _ hp hp2 HU3.out).mono ?_; rintro e w' ⟨rfl, rfl⟩))
      go_ret
      exact ⟨rfl, HX.trans hx3⟩

set_option maxRecDepth 100000 in
set_option maxHeartbeats 1000000 in
theorem ron_any (p t : Int) (vx vy : Value) (x y : List Int) (w : World) (hp : 2 ≤ p) (hp2 : p ≤ 2147483647) (hx : Ints w vx x) (hy : Ints w vy y) (hs : x.length ≤ 100000) (hl : x.length ≤ y.length) :
    Calls Tryz.prog 58 #[.int .i64 p, vx, vy, .int .i64 t] w (Gives w fun u w' => Ints w' u (onL p x y t)) := by
  have hlx := hx.run_len (P := Tryz.prog) slInts
  have HX := Lib.hid hx; have HY := Lib.hid hy; clear hx hy
  go_enter Tryz.func58, Tryz.ntmps58
  go_wp2_with fail
  go_loopw [9, 10, 11] (fun x9 x10 _ wr => ∃ i : Nat, i ≤ x.length ∧ x10 = .int .i64 i ∧ wr.ownsRow w.heap.size 3 1 x9 i (((onL p x y t).take i).map (Value.int .i64)) ∧ Ext w wr) (fun _ x10 _ _ => x.length - (intOf x10).toNat)
  case atStart => exact ⟨0, Nat.zero_le _, rfl, World.ownsRow_nil _ _ _ _, Ext.refl _⟩
  case round =>
    obtain ⟨i, hi, rfl, HO, HXX⟩ := hrel
    by_cases hlt : i < x.length
    · have hix := HX.out.run_index (P := Tryz.prog) slInts i hlt
      have hc := (HX.out.ext HXX).cell i hlt
      have hiy := HY.out.run_index (P := Tryz.prog) slInts i (by omega)
      have hcy := (HY.out.ext HXX).cell i (by omega)
      have S := Lib.hid (onL_step p x y t hlt)
      go_wp2_with fail
      go_quiet ((go_at_call 112; exact rsub_q _ _ _ _ _ hp hp2))
      have HO2 := own_ext HO (Ext.drewN wr nq)
      have HX2 := HXX.trans (Ext.drewN wr nq)
      replace hc := (Ext.drewN wr nq).cell hc
      clear hcy
      generalize wr.drewN nq = w5 at *
      go_wp2_with (first | (go_at_call 33; refine (rmul_any _ _ _ _ hp hp2).mono ?_; rintro e w' ⟨rfl, rfl⟩) | (go_at_call 34; refine (radd_any _ _ _ _ hp hp2).mono ?_; rintro e w' ⟨rfl, rfl⟩) | (at_builtin; refine wpList_app1 rfl _ _ 23 rfl slInts rfl HX2 HO2 rfl _ rfl rfl (by omega) (by omega) ?_; intro v' w6 HO' HX' _))
      go_roundw
      case rel => exact ⟨i + 1, by omega, by go_num, by rw [S.out]; exact HO', HX'⟩
      case measure => simp [intOf]; omega
    · have hE : (onL p x y t).take i = onL p x y t := List.take_of_length_le (by rw [onL_length]; omega)
      rw [hE] at HO
      have HI := Lib.hid (Ints.of_own HO)
      clear hE
      go_wp2_with fail
      go_ret
      exact .mk _ rfl HXX HI.out

set_option maxHeartbeats 1000000 in
theorem rvars_any (v : Value) (l : List Int) (w : World) (hv : Ints w v l) : Calls Tryz.prog 14 #[v] w fun e w' => e = .returned (.int .i64 (varOf l.length)) ∧ w = w' := by
  have hll := hv.run_len (P := Tryz.prog) slInts
  clear hv
  generalize (l.length : Int) = n at *
  go_enter Tryz.func14, Tryz.ntmps14
  go_wp2
  go_loop [3, 4] (fun x3 x4 => ∃ k : Nat, k ≤ 13 ∧ x3 = .int .i64 ((2 : Int) ^ k) ∧ x4 = .int .i64 k ∧ Hid (∀ j : Nat, j < k → (2 : Int) ^ j ≠ n)) (fun _ x4 => 13 - (intOf x4).toNat)
  case atStart => exact ⟨0, by omega, rfl, rfl, Lib.hid (fun j hj => by omega)⟩
  case round =>
    obtain ⟨k, hk, rfl, rfl, H⟩ := hrel
    by_cases hk7 : k ≤ 12
    · have hp : (2 : Int) ^ (k + 1) = 2 ^ k * 2 := Int.pow_succ _ _
      have hb : (1 : Int) ≤ 2 ^ k ∧ (2 : Int) ^ k ≤ 4096 := by
        rcases le12 hk7 with rfl | rfl | rfl | rfl | rfl | rfl | rfl | rfl | rfl | rfl | rfl | rfl | rfl <;> decide
      have hw := varOf_of k hk7
      have HW := Lib.hid hw; have HP := Lib.hid hp; clear hw hp
      by_cases he : (2 : Int) ^ k = n
      · have HE := Lib.hid he
        have hbb : (n == (2 : Int) ^ k) = true := by rw [beq_iff_eq]; exact he.symm
        clear he
        go_wp2
        go_ret
        exact ⟨ret_int (by rw [← HE.out, HW.out]), rfl⟩
      · have HE := Lib.hid he
        have hbb : (n == (2 : Int) ^ k) = false := by rw [beq_eq_false_iff_ne]; exact fun h => he h.symm
        clear he
        generalize hN : (2 : Int) ^ k = N at hb hbb
        go_wp2
        go_round
        case rel => exact ⟨k + 1, by omega, by rw [HP.out, hN], by go_num, Lib.hid (fun j hj => by
          rcases Nat.lt_or_eq_of_le (show j ≤ k by omega) with h | rfl
          · exact H.out j h
          · exact HE.out)⟩
        case measure => simp [intOf]; omega
    · obtain rfl : k = 13 := by omega
      have HW := Lib.hid (varOf_no (n := n) (fun k hk => H.out k (by omega)))
      go_wp2
      go_ret
      exact ⟨ret_int HW.out.symm, rfl⟩
end Go.Proofs.YtaajjaadlpgbiaaGreatDoor
end
section
namespace Go.Att
open Go.RowKit
open Classical in
/-- What is wrong with a layer, with so many numbers of two points. -/
noncomputable def partErr (wd : Int) (Ls : List (List Tri)) (m : Nat) (layer : Int) (lz lx : Nat) : Int :=
  if walkErr wd Ls m = 0 then (if layB layer Ls.length = true then (if (lz : Int) = wideOf (nthY Ls layer.toNat).length ∧ (lx : Int) ≤ 2 * beneath wd Ls layer.toNat then 0 else 2) else 3) else walkErr wd Ls m
/-- The sum. -/
noncomputable def partV (p wd : Int) (Ls : List (List Tri)) (inp : List Int) (i : Nat) (z xs : List Int) : Int := partS (nthY Ls i) (beneath wd Ls i).toNat (vrow p Ls inp i) z xs (nthY Ls i).length % p
/-- .. 0 where something is wrong. -/
noncomputable def partR (p wd : Int) (Ls : List (List Tri)) (inp : List Int) (layer : Int) (z xs : List Int) : Int := if partErr wd Ls inp.length layer z.length xs.length = 0 then partV p wd Ls inp layer.toNat z xs else 0
theorem partErr_ok {wd : Int} {Ls : List (List Tri)} {m : Nat} {layer : Int} {lz lx : Nat} (h : partErr wd Ls m layer lz lx = 0) : walkErr wd Ls m = 0 ∧ layB layer Ls.length = true ∧ (lz : Int) = wideOf (nthY Ls layer.toNat).length ∧ (lx : Int) ≤ 2 * beneath wd Ls layer.toNat := by
  unfold partErr at h
  by_cases h1 : walkErr wd Ls m = 0
  · rw [if_pos h1] at h
    by_cases h2 : layB layer Ls.length = true
    · rw [if_pos h2] at h
      by_cases h3 : (lz : Int) = wideOf (nthY Ls layer.toNat).length ∧ (lx : Int) ≤ 2 * beneath wd Ls layer.toNat
      · exact ⟨h1, h2, h3.1, h3.2⟩
      · rw [if_neg h3] at h; omega
    · rw [if_neg h2] at h; omega
  · rw [if_neg h1] at h; exact absurd h h1
theorem partErr_mk {wd : Int} {Ls : List (List Tri)} {m : Nat} {layer : Int} {lz lx : Nat} (h1 : walkErr wd Ls m = 0) (h2 : layB layer Ls.length = true) (h3 : (lz : Int) = wideOf (nthY Ls layer.toNat).length) (h4 : (lx : Int) ≤ 2 * beneath wd Ls layer.toNat) : partErr wd Ls m layer lz lx = 0 := by
  unfold partErr; rw [if_pos h1, if_pos h2, if_pos ⟨h3, h4⟩]
theorem partErr_1 {wd : Int} {Ls : List (List Tri)} {m : Nat} {layer : Int} {lz lx : Nat} (h : walkErr wd Ls m ≠ 0) : partErr wd Ls m layer lz lx = walkErr wd Ls m := by unfold partErr; rw [if_neg h]
theorem partErr_3 {wd : Int} {Ls : List (List Tri)} {m : Nat} {layer : Int} {lz lx : Nat} (h : walkErr wd Ls m = 0) (h2 : layB layer Ls.length = false) : partErr wd Ls m layer lz lx = 3 := by unfold partErr; rw [if_pos h, if_neg (by rw [h2]; decide)]
theorem partErr_2 {wd : Int} {Ls : List (List Tri)} {m : Nat} {layer : Int} {lz lx : Nat} (h : walkErr wd Ls m = 0) (h2 : layB layer Ls.length = true) (h3 : ¬ ((lz : Int) = wideOf (nthY Ls layer.toNat).length ∧ (lx : Int) ≤ 2 * beneath wd Ls layer.toNat)) : partErr wd Ls m layer lz lx = 2 := by unfold partErr; rw [if_pos h, if_pos h2, if_neg h3]
end Go.Att
namespace Go.Proofs.YtaajjaadlpgbiaaGreatDoor
open Go.RowKit Go.Att

end Go.Proofs.YtaajjaadlpgbiaaGreatDoor
end
section
namespace Go.Att
open Go.RowKit
theorem ext_end (p : Int) (t at_ : List Int) (k : Nat) (hl : t.length = 2 ^ k) (hla : at_.length = k) : fof p (nth (fixAll p t at_) 0) = ext t at_ % p := by
  have := half_is p t at_ k 0 (by omega) hl
  rw [hla, Nat.sub_self] at this
  simpa [bitsL, fof] using this
/-- A circuit of one gate that multiplies. -/
def oneC : List (List Tri) := [[(1, 0, 0)]]
theorem oneC_err : cirErr 0 oneC = 0 := by
  refine cirErr_zero ⟨by decide, by decide, by decide, by decide, fun i hi => ?_⟩ fun i hi k hk => ?_
  · have : i = 0 := by simp [oneC] at hi; exact hi
    subst this; decide
  · have : i = 0 := by simp [oneC] at hi; exact hi
    subst this
    have : k = 0 := by simp [oneC, nthY] at hk; exact hk
    subst this
    simp [gateOk, oneC, nthY, nthT, below]
theorem oneC_walk : walkErr 0 oneC ([1] : List Int).length = 0 := by unfold walkErr; rw [if_pos oneC_err]; rfl
theorem oneC_row {p : Int} (hp : 2 ≤ p) : vrow p oneC [1] 1 = [1] := by
  have h1 : (1 : Int) % p = 1 := one_mod hp
  simp [vrow, oneC, nthY, gval, nth, fmul, fof, h1]
theorem lys_one (w : World) (tg tl : TypeId) : LysAt ((w.alloc (Obj.cells #[.int .i64 1, .int .i64 0, .int .i64 0] tg)).alloc (Obj.cells #[.slice (some ⟨w.heap.size, 0, none⟩) 1 1] tl)) (.slice (some ⟨w.heap.size + 1, 0, none⟩) 1 1) oneC (fun _ => .slice (some ⟨w.heap.size, 0, none⟩) 1 1) := by
  refine ⟨⟨_, _, rfl, rfl, Nat.le_refl _, by unfold maxLen; omega, fun i hi => ?_⟩, fun i hi => ?_⟩
  · have h0 : i = 0 := by simpa [oneC] using hi
    subst h0
    have := cell_new (w.alloc (Obj.cells #[.int .i64 1, .int .i64 0, .int .i64 0] tg)) #[.slice (some ⟨w.heap.size, 0, none⟩) 1 1] tl 0
    have hs : (w.alloc (Obj.cells #[.int .i64 1, .int .i64 0, .int .i64 0] tg)).heap.size = w.heap.size + 1 := by simp
    rw [hs] at this
    exact ⟨_, _, rfl, this⟩
  · have h0 : i = 0 := by simpa [oneC] using hi
    subst h0
    have hx := Ext.alloc (w.alloc (Obj.cells #[.int .i64 1, .int .i64 0, .int .i64 0] tg)) (Obj.cells #[.slice (some ⟨w.heap.size, 0, none⟩) 1 1] tl)
    refine Trs.ext (w := w.alloc (Obj.cells #[.int .i64 1, .int .i64 0, .int .i64 0] tg)) ⟨_, _, rfl, rfl, Nat.le_refl _, by unfold maxLen; omega, fun j hj => ?_⟩ hx
    have h3 : j = 0 ∨ j = 1 ∨ j = 2 := by simp [flatT, oneC, nthY] at hj; omega
    rcases h3 with rfl | rfl | rfl
    · exact ⟨_, _, rfl, cell_new w #[.int .i64 1, .int .i64 0, .int .i64 0] tg 0⟩
    · exact ⟨_, _, rfl, cell_new w #[.int .i64 1, .int .i64 0, .int .i64 0] tg 1⟩
    · exact ⟨_, _, rfl, cell_new w #[.int .i64 1, .int .i64 0, .int .i64 0] tg 2⟩
theorem own_grown {w w' : World} {B e sz n : Nat} {v : Value} {xs : List Value} {r : Option Nat} (h : w.ownsRow B e sz v n xs) (hg : w.grownBy w' r) (hne : ∀ k, v.ownBlock = some k → some k ≠ r) : w'.ownsRow B e sz v n xs := by
  refine ⟨h.1, ?_⟩
  rcases h.2 with h2 | ⟨g, cap, cur, hv, hb, hgt, hr⟩
  · exact .inl h2
  · exact .inr ⟨g, cap, cur, hv, hb, by rw [hg.block g (Array.getElem?_eq_some_iff.1 hgt).1 (hne g (by rw [hv]; rfl))]; exact hgt, hr⟩
theorem ints_cs (l : List Int) : ∀ u ∈ l.map (Value.int .i64), u.oneCell' = true := by
  intro u hu; obtain ⟨x, -, rfl⟩ := List.mem_map.1 hu; rfl
/-- A list of one number, built in place. -/
theorem ints_lit (w : World) (x : Int) (ti : TypeId) : Ints (w.alloc (Obj.cells #[.int .i64 x] ti)) (.slice (some ⟨w.heap.size, 0, none⟩) 1 1) [x] := by
  refine ⟨_, _, rfl, rfl, Nat.le_refl _, by unfold maxLen; omega, fun i hi => ?_⟩
  have h0 : i = 0 := by simpa using hi
  subst h0
  exact ⟨_, _, rfl, cell_new w #[.int .i64 x] ti 0⟩
end Go.Att
namespace Go.Att
open Go.RowKit
theorem partR_bad {p wd : Int} {Ls : List (List Tri)} {inp z xs : List Int} {layer E : Int} (h : partErr wd Ls inp.length layer z.length xs.length = E) (hE : E ≠ 0) : partR p wd Ls inp layer z xs = 0 := by unfold partR; rw [h, if_neg hE]
theorem partR_ok {p wd : Int} {Ls : List (List Tri)} {inp z xs : List Int} {i : Nat} (h : partErr wd Ls inp.length i z.length xs.length = 0) : partR p wd Ls inp i z xs = partV p wd Ls inp i z xs := by unfold partR; rw [if_pos h, Int.toNat_natCast]
theorem gval_gop (p : Int) (row : List Int) (g : Tri) : gval p row g = gop g.1 (nth row g.2.1.toNat) (nth row g.2.2.toNat) % p := by
  unfold gval gop; split <;> rfl
theorem nth_map_tri (f : Tri → Int) (l : List Tri) (k : Nat) (h : k < l.length) : nth (l.map f) k = f (nthT l k) := by
  rw [nthT_eq h]; simp [nth, h]
/-- A layer is the sum over its wires. -/
theorem layer_sum {p wd : Int} {Ls : List (List Tri)} {inp : List Int} (hE : cirErr wd Ls = 0) (hin : (inp.length : Int) = 2 ^ wd.toNat) {i : Nat} (hi : i < Ls.length) (z : List Int) : partV p wd Ls inp i z [] = ext (vrow p Ls inp (i + 1)) z % p := by
  have hbd := beneath_bd (cirErr_ok hE).1 hi
  obtain ⟨n, hn⟩ := Int.eq_ofNat_of_zero_le hbd.1
  have hbp := below_pow (cirErr_ok hE).1 hi
  rw [hn, Int.toNat_natCast] at hbp
  unfold partV
  rw [hn, Int.toNat_natCast]
  refine partS_nil p (nthY Ls i) n (vrow p Ls inp i) z (vrow p Ls inp (i + 1)) (vrow_two hE hin hi hn) (fun k hk => ?_) (by simp [vrow]) (fun k hk => ?_)
  · have hok := (cirErr_ok hE).2 i hi k hk
    rw [hbp] at hok
    obtain ⟨o1, o2, o3, o4, o5, o6⟩ := hok
    have e1 : ((2 ^ n : Nat) : Int) = (2 : Int) ^ n := by simp
    show (nthT (nthY Ls i) k).2.1.toNat < 2 ^ n ∧ (nthT (nthY Ls i) k).2.2.toNat < 2 ^ n
    omega
  · show nth ((nthY Ls i).map (gval p (vrow p Ls inp i))) k = _
    rw [nth_map_tri _ _ _ hk, gval_gop]; rfl
/-- What a variable makes of it. -/
theorem layer_snoc (p wd : Int) (Ls : List (List Tri)) (inp : List Int) (i : Nat) (z xs : List Int) (h : (xs.length : Int) < 2 * beneath wd Ls i) : partV p wd Ls inp i z xs = fadd p (partV p wd Ls inp i z (xs ++ [0])) (partV p wd Ls inp i z (xs ++ [1])) := by
  unfold partV
  rw [partS_snoc _ _ _ _ _ _ (by omega)]
  simp only [fadd, ea_l, ea_r]
end Go.Att
namespace Go.Proofs.YtaajjaadlpgbiaaGreatDoor
open Go.RowKit Go.Att
section
variable {w : World} {f : Value} {p g : Int} {fs : List Int}
set_option maxRecDepth 100000 in
set_option maxHeartbeats 1000000 in
theorem sExtend_ok (hf : Fld w f p g fs) (vt va : Value) (t at_ : List Int) (ht : Ints w vt t) (ha : Ints w va at_) (k : Nat) (hk : k ≤ 12) (hl : t.length = 2 ^ k) (hla : at_.length = k) :
    Calls Tryz.prog 23 #[f, vt, va] w fun e w' => e = .returned (.tuple #[.int .i64 (ext t at_ % p), .nilIface]) ∧ Ext w w' := by
  have e : varOf t.length = k := by rw [hl, Int.natCast_pow]; exact varOf_of k hk
  have hlen : (2 : Nat) ^ k ≤ 2 ^ 12 := Nat.pow_le_pow_right (by decide) hk
  have h12 : (2 : Nat) ^ 12 = 4096 := by decide
  have HP2 := Lib.hid (show (2 : Nat) ^ k ≤ 1048576 by omega)
  have hlv := ha.run_len (P := Tryz.prog) slInts
  have HT := Lib.hid ht; have HA := Lib.hid ha; have C := Lib.hid hf; have E := Lib.hid e; have HL := Lib.hid hl; have EE := Lib.hid (ext_end p t at_ k hl hla)
  have b1 : ((at_.length : Int) != (k : Int)) = false := by rw [bne_eq_false_iff_eq]; omega
  clear ht ha hf hl e hlen h12
  go_enter Tryz.func23, Tryz.ntmps23
  go_wp2_with (go_at_call 64; refine (svars_any _ _ _ HT.out).mono ?_; rw [E.out]; rintro e w' ⟨rfl, rfl⟩)
  go_loopw [1, 10, 24] (fun x1 _ x24 wr => ∃ j : Nat, j ≤ at_.length ∧ x24 = .int .i64 j ∧ Ints wr x1 (fixAll p t (at_.take j)) ∧ Ext w wr) (fun _ _ x24 _ => at_.length - (intOf x24).toNat)
  case atStart => exact ⟨0, Nat.zero_le _, rfl, HT.out, Ext.refl _⟩
  case round =>
    obtain ⟨j, hj, rfl, hT, hx⟩ := hrel
    have HTJ := Lib.hid hT; clear hT
    by_cases hjl : j < at_.length
    · have hix := HA.out.run_index (P := Tryz.prog) slInts j hjl
      have hc := (HA.out.ext hx).cell j hjl
      have ST := Lib.hid (fixAll_step p t at_ hjl)
      have HLN := Lib.hid (show (fixAll p t (at_.take j)).length ≤ 1048576 by
        rw [fixAll_length p t (at_.take j) (k - j) (by rw [HL.out, List.length_take]; congr 1; omega)]
        exact Nat.le_trans (Nat.pow_le_pow_right (by decide) (Nat.sub_le k j)) HP2.out)
      go_wp2_with (go_at_call 65; refine (sfixed_any (C.out.ext hx) _ _ _ HTJ.out HLN.out).mono ?_; rintro e w3 ⟨v, rfl, hx3, hu⟩; have HU := Lib.hid hu; clear hu)
      go_roundw
      case rel => exact ⟨j + 1, by omega, by go_num, by rw [ST.out]; exact HU.out, hx.trans hx3⟩
      case measure => simp [intOf]; omega
    · obtain rfl : j = at_.length := by omega
      rw [List.take_length] at HTJ
      have h1 : 0 < (fixAll p t at_).length := by rw [fixAll_length p t at_ 0 (by rw [HL.out, hla]; rfl)]; decide
      have hix := HTJ.out.run_index (P := Tryz.prog) slInts 0 h1
      have hc := HTJ.out.cell 0 h1
      rw [show ((0 : Nat) : Int) = 0 from rfl] at hix
      clear h1
      go_wp2_with (go_at_call 66; refine (of_any (C.out.ext hx) _).mono ?_; rw [EE.out]; rintro e w4 hrd; obtain ⟨rfl, hx4⟩ := hrd.ext; clear hrd)
      go_ret2
      exact ⟨rfl, hx.trans hx4⟩
end
end Go.Proofs.YtaajjaadlpgbiaaGreatDoor
end
section
namespace Go.Att
theorem PolyN.sub {m : Nat} {f g : Int → Int} (h1 : PolyN m f) (h2 : PolyN m g) : PolyN m fun t => f t - g t :=
  (h1.add (h2.smul (-1))).congr fun t => by omega
theorem eq_mod_sub {p a b : Int} (h : a % p = b % p) : (a - b) % p = 0 := Int.emod_eq_emod_iff_emod_sub_eq_zero.1 h
theorem mod_sub_eq {p a b : Int} (h : (a - b) % p = 0) : a % p = b % p := Int.emod_eq_emod_iff_emod_sub_eq_zero.2 h
theorem idx_apart {p : Int} (n : Nat) (hn : (n : Int) ≤ p) (m i : Nat) (hm : m < n) (hi : i < n) (h : i ≠ m) : ¬ p ∣ nth (idxL n) m - nth (idxL n) i := by
  rw [idxL_nth n m hm, idxL_nth n i hi]
  intro ⟨k, hk⟩
  have h1 : ((m : Int) - i) < p := by omega
  have h2 : -p < ((m : Int) - i) := by omega
  rw [hk] at h1 h2
  have k0 : k = 0 := by
    rcases Int.lt_trichotomy k 0 with h | h | h
    · have : p * k ≤ p * (-1) := Int.mul_le_mul_of_nonneg_left (by omega) (by omega)
      omega
    · exact h
    · have : p * 1 ≤ p * k := Int.mul_le_mul_of_nonneg_left (by omega) (by omega)
      omega
  rw [k0] at hk
  omega
/-- A claim about a layer's sum that is not so, and any three numbers that have its sum: at most two elements hide it. -/
theorem catch1 {p : Int} (hp : Pr p) (h3 : 3 ≤ p) (l : List Gt) (n : Nat) (hn : 1 ≤ n) (t z told : List Int) (k : Nat) (ht : told.length = 3) (hc : fadd p (nth told 0) (nth told 1) ≠ partS l n t z [] k % p) :
    cntN (fun r => ev (fitL p (idxL told.length) told) (r : Int) % p == partS l n t z [(r : Int)] k % p) p.toNat ≤ 2 := by
  have h1 : PolyN 3 (fun r => ev (fitL p (idxL told.length) told) r) := PolyN.mono ⟨_, rfl, fun _ => rfl⟩ (by have := fitL_length p (idxL told.length) told; rw [idxL_length] at this; omega)
  have h2 := h1.sub (partS_one l n t z k hn)
  have h4 := few_roots hp h2 (fun r => ev (fitL p (idxL told.length) told) (r : Int) % p == partS l n t z [(r : Int)] k % p) p.toNat (by omega) (fun i _ hP => eq_mod_sub (by simpa using hP))
  rcases h4 with h | h
  · omega
  · exfalso
    apply hc
    have e0 := mod_sub_eq (h 0)
    have e1 := mod_sub_eq (h 1)
    have f0 := fit_at hp (idxL told.length) told 0 (by rw [idxL_length, ht]; decide) (fun i hi hne => by rw [idxL_length] at hi; exact idx_apart _ (by omega) 0 i (by omega) hi hne)
    have f1 := fit_at hp (idxL told.length) told 1 (by rw [idxL_length, ht]; decide) (fun i hi hne => by rw [idxL_length] at hi; exact idx_apart _ (by omega) 1 i (by omega) hi hne)
    rw [idxL_nth _ _ (by omega)] at f0 f1
    have g0 : ev (fitL p (idxL told.length) told) 0 % p = nth told 0 % p := f0
    have g1 : ev (fitL p (idxL told.length) told) 1 % p = nth told 1 % p := f1
    have sn := partS_snoc l n t z [] k (by simp; omega)
    rw [List.nil_append, List.nil_append] at sn
    rw [sn]
    exact (madd (g0.symm.trans e0) (g1.symm.trans e1))
/-- Is one of the first unlike, up to a place? -/
def unlN (P : Nat → Bool) (v : Nat) : Nat → Bool
  | 0 => false
  | t + 1 => unlN P v t || (decide (t ≤ v) && !P t)
theorem unlN_true {P : Nat → Bool} {v n : Nat} (h : unlN P v n = true) : ∃ s, s < n ∧ s ≤ v ∧ P s = false := by
  induction n with
  | zero => cases h
  | succ n ih =>
    simp only [unlN, Bool.or_eq_true, Bool.and_eq_true, decide_eq_true_eq, Bool.not_eq_true'] at h
    rcases h with h | h
    · obtain ⟨s, h1, h2⟩ := ih h; exact ⟨s, by omega, h2⟩
    · exact ⟨n, by omega, h.1, h.2⟩
theorem unlN_false {P : Nat → Bool} {v n : Nat} (h : unlN P v n = false) : ∀ s, s < n → s ≤ v → P s = true := by
  induction n with
  | zero => intro s hs; omega
  | succ n ih =>
    simp only [unlN, Bool.or_eq_false_iff] at h
    intro s hs hv
    by_cases e : s = n
    · subst e
      have := h.2
      rw [decide_eq_true hv] at this
      simpa using this
    · exact ih h.1 s (by omega) hv
/-- A line that is not so: at most as many elements hide it as there are variables. -/
theorem catch2 {p : Int} (hp : Pr p) (T x y line : List Int) (v : Nat) (hx : x.length = v) (hy : y.length = v) (hl : line.length = v + 1) (P : Nat → Bool)
    (hP : ∀ s, P s = (ev (fitL p (idxL line.length) line) (s : Int) % p == ext T (onL p x y (s : Int)) % p)) :
    (unlN P v p.toNat = false → cntN P p.toNat = p.toNat) ∧ (unlN P v p.toNat = true → cntN P p.toNat ≤ v) := by
  have hp2 := hp.two
  have h1 : PolyN (v + 1) (fun t => ev (fitL p (idxL line.length) line) t) := PolyN.mono ⟨_, rfl, fun _ => rfl⟩ (by have := fitL_length p (idxL line.length) line; rw [idxL_length] at this; omega)
  have h2 := h1.sub (hx ▸ ext_line T x y (by omega))
  have hR : ∀ i : Nat, P i = true → ((ev (fitL p (idxL line.length) line) (i : Int)) - ext T (lineZ x y (i : Int))) % p = 0 := fun i h => by
    rw [hP] at h
    exact eq_mod_sub ((by simpa using h : _ = _).trans (ext_on p T x y i (by omega)))
  have hB : (∀ t, ((ev (fitL p (idxL line.length) line) t) - ext T (lineZ x y t)) % p = 0) → ∀ i : Nat, P i = true := fun h i => by
    rw [hP, beq_iff_eq, ext_on p T x y i (by omega)]
    exact mod_sub_eq (h i)
  constructor
  · intro hu
    have hall := unlN_false hu
    by_cases hv : (v : Int) < p
    · have h4 := few_roots hp h2 P (v + 1) (by omega) (fun i _ h => hR i h)
      rw [cntN_all (fun i hi => hall i (by omega) (by omega))] at h4
      rcases h4 with h4 | h4
      · omega
      · exact cntN_all fun i _ => hB h4 i
    · exact cntN_all fun i hi => hall i hi (by omega)
  · intro hu
    obtain ⟨s, s1, s2, s3⟩ := unlN_true hu
    have h4 := few_roots hp h2 P p.toNat (by omega) (fun i _ h => hR i h)
    rcases h4 with h4 | h4
    · omega
    · rw [hB h4 s] at s3; cases s3
end Go.Att
end
section
namespace Go.Att
/-- A polynomial of low degree that has the numbers at 0, 1, .. is everywhere what is fitted through them. -/
theorem fit_one {p : Int} (hp : Pr p) {l : List Int} {f : Int → Int} (hn : (l.length : Int) ≤ p) (hf : PolyN l.length f) (h : ∀ i : Nat, i < l.length → f i % p = nth l i % p) (t : Int) : ev (fitL p (idxL l.length) l) t % p = f t % p := by
  have hq : PolyN l.length fun x => ev (fitL p (idxL l.length) l) x :=
    PolyN.mono ⟨_, rfl, fun _ => rfl⟩ (by have := fitL_length p (idxL l.length) l; rw [idxL_length] at this; exact this)
  have h2 := PolyN.sub hq hf
  have h4 := few_roots hp h2 (fun _ => true) l.length hn (fun i hi _ => eq_mod_sub (by
    have f0 := fit_at hp (idxL l.length) l i (by rw [idxL_length]; exact hi) (fun k hk hne => by rw [idxL_length] at hk; exact idx_apart _ hn i k hi hk hne)
    rw [idxL_nth _ _ hi] at f0
    rw [f0]; exact (h i hi).symm))
  rcases h4 with h4 | h4
  · rw [cntN_all (fun _ _ => rfl)] at h4; omega
  · exact mod_sub_eq (h4 t)
/-- Any list that is short enough and has the numbers is as good. -/
theorem fit_like {p : Int} (hp : Pr p) {l g : List Int} (hn : (l.length : Int) ≤ p) (hg : g.length ≤ l.length) (h : ∀ i : Nat, i < l.length → ev g i % p = nth l i % p) (t : Int) : ev g t % p = ev (fitL p (idxL l.length) l) t % p :=
  (fit_one hp hn (PolyN.mono ⟨g, rfl, fun _ => rfl⟩ hg) h t).symm
end Go.Att
end
