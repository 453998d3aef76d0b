/- What is wrong with a circuit, the document's side: contract of Fault. What the gates of a circuit are, the document's side: contracts. -/
import Derived.Test.YtaajjaadlpgbiaaGreatDoorZx20
import Derived.Test.YtaajjaadlpgbiaaGreatDoorVc
import Derived.Test.YtaajjaadlpgbiaaGreatDoorZx1
import Derived.Test.YtaajjaadlpgbiaaGreatDoorZx4
import Derived.Test.YtaajjaadlpgbiaaGreatDoorZx11
import Derived.Deep.RegionWith
section
namespace Go.Att
theorem sizes_not {wd : Int} {Ls : List (List Tri)} (h : wd < 0 ∨ 6 < wd ∨ (Ls.length : Int) < 1 ∨ 8 < (Ls.length : Int)) : ¬ cirSizes wd Ls := by
  intro hc
  unfold cirSizes at hc
  omega
theorem pow2_small {n : Nat} (h : n ≤ 6) : (1 : Int) ≤ 2 ^ n ∧ (2 : Int) ^ n ≤ 64 := by
  have : n = 0 ∨ n = 1 ∨ n = 2 ∨ n = 3 ∨ n = 4 ∨ n = 5 ∨ n = 6 := by omega
  rcases this with rfl | rfl | rfl | rfl | rfl | rfl | rfl <;> decide
end Go.Att
namespace Go.Proofs.YtaajjaadlpgbiaaGreatDoor
open Go.RowKit Go.Att

set_option maxRecDepth 100000 in
set_option maxHeartbeats 4000000 in
theorem rfaultc_any (wd : Int) (lv : Value) (Ls : List (List Tri)) (R : Nat → Value) (w : World) (hv : LysAt w lv Ls R) :
    Calls Tryz.prog 50 #[.agg #[.int .i64 wd, lv]] w fun e w' => e = .returned (.int .i64 (cirErr wd Ls)) ∧ Ext w w' := by
  obtain ⟨ao, cap, rfl⟩ := hv.shape
  have hlen := hv.len
  have hll := hv.run_len (P := Tryz.prog) slLayers
  have HV := Lib.hid hv; clear hv
  by_cases s0 : wd < 0
  · have E := Lib.hid (cirErr_two (sizes_not (wd := wd) (Ls := Ls) (by omega)))
    go_enter Tryz.func50, Tryz.ntmps50
    go_wp2_with fail
    go_ret
    exact ⟨ret_int E.out.symm, Ext.alloc _ _⟩
  by_cases s1 : 6 < wd
  · have E := Lib.hid (cirErr_two (sizes_not (wd := wd) (Ls := Ls) (by omega)))
    go_enter Tryz.func50, Tryz.ntmps50
    go_wp2_with fail
    go_ret
    exact ⟨ret_int E.out.symm, Ext.alloc _ _⟩
  by_cases s2 : (Ls.length : Int) < 1
  · have E := Lib.hid (cirErr_two (sizes_not (wd := wd) (Ls := Ls) (by omega)))
    go_enter Tryz.func50, Tryz.ntmps50
    go_wp2_with fail
    go_ret
    exact ⟨ret_int E.out.symm, Ext.alloc _ _⟩
  by_cases s3 : 8 < (Ls.length : Int)
  · have E := Lib.hid (cirErr_two (sizes_not (wd := wd) (Ls := Ls) (by omega)))
    go_enter Tryz.func50, Tryz.ntmps50
    go_wp2_with fail
    go_ret
    exact ⟨ret_int E.out.symm, Ext.alloc _ _⟩
  go_enter Tryz.func50, Tryz.ntmps50
  go_wp2_with fail
  generalize hW : World.alloc w _ = W1
  have hx1 : Ext w W1 := hW ▸ Ext.alloc _ _
  have c0 : W1.cell? ⟨w.heap.size, 0, none⟩ = some (.int .i64 wd) := by rw [← hW]; simp
  have c1 : W1.cell? ⟨w.heap.size, 1, none⟩ = some (.slice ao Ls.length cap) := by rw [← hW]; simp
  have HV1 := Lib.hid (HV.out.ext hx1)
  clear hW
  go_loop [3, 4] (fun x3 _ => ∃ i : Nat, i ≤ Ls.length ∧ x3 = .int .i64 i ∧ Hid (∀ j, j < i → 0 ≤ wideOf (nthY Ls j).length)) (fun x3 _ => Ls.length - (intOf x3).toNat)
  case atStart => exact ⟨0, Nat.zero_le _, rfl, Lib.hid (fun j hj => by omega)⟩
  case round =>
    obtain ⟨i, hi, rfl, HS⟩ := hrel
    by_cases hil : i < Ls.length
    · have hix := HV1.out.run_index (P := Tryz.prog) slLayers i hil
      have hc := HV1.out.cell i hil
      have hrow := HV1.out.row i hil
      have hln := hrow.run_len (P := Tryz.prog) slGates
      have hwb := wideOf_bd (nthY Ls i).length
      clear hrow
      by_cases hw0 : wideOf (nthY Ls i).length < 0
      · have E := Lib.hid (cirErr_two (fun (h : cirSizes wd Ls) => by have := h.2.2.2.2 i hil; omega))
        go_wp2_with (go_at_call 105; refine (rwide_any _ _).mono ?_; rintro e w2 ⟨rfl, rfl⟩)
        go_ret
        exact ⟨ret_int E.out.symm, hx1⟩
      · have hw1 := Lib.hid (show 0 ≤ wideOf (nthY Ls i).length by omega)
        go_wp2_with (go_at_call 105; refine (rwide_any _ _).mono ?_; rintro e w2 ⟨rfl, rfl⟩)
        go_round
        case rel => exact ⟨i + 1, by omega, by go_num, Lib.hid (fun j hj => by
          rcases Nat.lt_or_eq_of_le (show j ≤ i by omega) with h | rfl
          · exact HS.out j h
          · exact hw1.out)⟩
        case measure => simp [intOf]; omega
    · obtain rfl : i = Ls.length := by omega
      have HSZ := Lib.hid (show cirSizes wd Ls from ⟨by omega, by omega, by omega, by omega, HS.out⟩)
      clear HS
      go_wp2_with fail
      go_loopw [5, 6, 7, 8, 9, 10] (fun x5 _ _ _ _ _ wr => ∃ i : Nat, i ≤ Ls.length ∧ x5 = .int .i64 i ∧ Ext W1 wr ∧ Hid (∀ j, j < i → ∀ k, k < (nthY Ls j).length → gateOk (below wd Ls j) (nthT (nthY Ls j) k))) (fun x5 _ _ _ _ _ _ => Ls.length - (intOf x5).toNat)
      case atStart => exact ⟨0, Nat.zero_le _, rfl, Ext.refl _, Lib.hid (fun j hj => by omega)⟩
      case round =>
        obtain ⟨i, hi, rfl, HX, HG⟩ := hrel
        have d0 := HX.cell c0
        have d1 := HX.cell c1
        by_cases hil : i < Ls.length
        · have hbn := beneath_bd HSZ.out hil
          have hbp := below_pow HSZ.out hil
          obtain ⟨n, hn⟩ := Int.eq_ofNat_of_zero_le hbn.1
          rw [hn, Int.toNat_natCast] at hbp
          have HN := Lib.hid hn; have HBP := Lib.hid hbp
          have hn6 : n ≤ 6 := by omega
          clear hn hbp hbn
          have hl64 := wideOf_le (HSZ.out.2.2.2.2 i hil)
          go_wp2_with (go_at_call 53; refine (rbeneath_any wd _ Ls R i _ (HV1.out.ext HX) hil).mono ?_; rw [HN.out]; rintro e w3 ⟨rfl, hx3⟩; replace d0 := hx3.cell d0; replace d1 := hx3.cell d1)
          go_loop [7, 8] (fun x7 x8 => ∃ k : Nat, k ≤ n ∧ x8 = .int .i64 k ∧ x7 = .int .i64 ((2 : Int) ^ k)) (fun _ x8 => n - (intOf x8).toNat)
          case atStart => exact ⟨0, Nat.zero_le _, rfl, rfl⟩
          case round =>
            obtain ⟨k, hk, rfl, rfl⟩ := hrel
            have hpb := pow2_small (n := k) (by omega)
            by_cases hkn : k < n
            · have HPW := Lib.hid (show (2 : Int) ^ (k + 1) = 2 ^ k * 2 from Int.pow_succ _ _)
              generalize hN : (2 : Int) ^ k = N at hpb
              have HNN := Lib.hid hN; clear hN
              go_wp2_with fail
              go_round
              case rel => exact ⟨k + 1, by omega, by go_num, by rw [HPW.out, HNN.out]⟩
              case measure => simp [intOf]; omega
            · obtain rfl : k = n := by omega
              rw [← HBP.out] at *
              generalize hB : below wd Ls i = B at hpb
              have HB := Lib.hid hB; clear hB
              go_wp2_with fail
              have HX3 := Lib.hid (HX.trans hx3)
              clear hx3
              go_loopw [9, 10] (fun x9 _ wr => ∃ k : Nat, k ≤ (nthY Ls i).length ∧ x9 = .int .i64 k ∧ Ext w3 wr ∧ Hid (∀ j, j < k → gateOk (below wd Ls i) (nthT (nthY Ls i) j))) (fun x9 _ _ => (nthY Ls i).length - (intOf x9).toNat)
              case atStart => exact ⟨0, Nat.zero_le _, rfl, Ext.refl _, Lib.hid (fun j hj => by omega)⟩
              case round =>
                obtain ⟨k, hk, rfl, HX4, HK⟩ := hrel
                have f0 := HX4.cell d0
                have f1 := HX4.cell d1
                have hV := HV1.out.ext (HX3.out.trans HX4)
                have hix := hV.run_index (P := Tryz.prog) slLayers i hil
                have hc := hV.cell i hil
                have hrow := hV.row i hil
                have hln := hrow.run_len (P := Tryz.prog) slGates
                clear hV
                by_cases hkl : k < (nthY Ls i).length
                · have hix2 := hrow.run_index (P := Tryz.prog) slGates k hkl
                  have g0 := hrow.c0 k hkl
                  have g1 := hrow.c1 k hkl
                  have g2 := hrow.c2 k hkl
                  clear hrow
                  generalize hg : nthT (nthY Ls i) k = G at g0 g1 g2
                  obtain ⟨gk, ga, gb⟩ := G
                  have HGG := Lib.hid hg; clear hg
                  simp only at g0 g1 g2
                  by_cases t0 : gk < 0
                  · have E := Lib.hid (cirErr_three HSZ.out (gates_not hil hkl (by rw [HGG.out, HB.out]; unfold gateOk; simp only; omega)))
                    go_wp2_with fail
                    go_ret
                    exact ⟨ret_int E.out.symm, (hx1.trans (HX3.out.trans HX4)).trans (Ext.alloc _ _)⟩
                  by_cases t1 : 1 < gk
                  · have E := Lib.hid (cirErr_three HSZ.out (gates_not hil hkl (by rw [HGG.out, HB.out]; unfold gateOk; simp only; omega)))
                    go_wp2_with fail
                    go_ret
                    exact ⟨ret_int E.out.symm, (hx1.trans (HX3.out.trans HX4)).trans (Ext.alloc _ _)⟩
                  by_cases t2 : ga < 0
                  · have E := Lib.hid (cirErr_three HSZ.out (gates_not hil hkl (by rw [HGG.out, HB.out]; unfold gateOk; simp only; omega)))
                    go_wp2_with fail
                    go_ret
                    exact ⟨ret_int E.out.symm, (hx1.trans (HX3.out.trans HX4)).trans (Ext.alloc _ _)⟩
                  by_cases t3 : B ≤ ga
                  · have E := Lib.hid (cirErr_three HSZ.out (gates_not hil hkl (by rw [HGG.out, HB.out]; unfold gateOk; simp only; omega)))
                    go_wp2_with fail
                    go_ret
                    exact ⟨ret_int E.out.symm, (hx1.trans (HX3.out.trans HX4)).trans (Ext.alloc _ _)⟩
                  by_cases t4 : gb < 0
                  · have E := Lib.hid (cirErr_three HSZ.out (gates_not hil hkl (by rw [HGG.out, HB.out]; unfold gateOk; simp only; omega)))
                    go_wp2_with fail
                    go_ret
                    exact ⟨ret_int E.out.symm, (hx1.trans (HX3.out.trans HX4)).trans (Ext.alloc _ _)⟩
                  by_cases t5 : B ≤ gb
                  · have E := Lib.hid (cirErr_three HSZ.out (gates_not hil hkl (by rw [HGG.out, HB.out]; unfold gateOk; simp only; omega)))
                    go_wp2_with fail
                    go_ret
                    exact ⟨ret_int E.out.symm, (hx1.trans (HX3.out.trans HX4)).trans (Ext.alloc _ _)⟩
                  have OK := Lib.hid (show gateOk (below wd Ls i) (nthT (nthY Ls i) k) by rw [HGG.out, HB.out]; unfold gateOk; simp only; omega)
                  go_wp2_with fail
                  go_roundw
                  case rel => exact ⟨k + 1, by omega, by go_num, HX4.trans (Ext.alloc _ _), Lib.hid (fun j hj => by
                    rcases Nat.lt_or_eq_of_le (show j ≤ k by omega) with h | rfl
                    · exact HK.out j h
                    · exact OK.out)⟩
                  case measure => simp [intOf]; omega
                · obtain rfl : k = (nthY Ls i).length := by omega
                  clear hrow
                  go_wp2_with fail
                  go_roundw
                  case rel => exact ⟨i + 1, by omega, by go_num, HX3.out.trans HX4, Lib.hid (fun j hj => by
                    rcases Nat.lt_or_eq_of_le (show j ≤ i by omega) with h | rfl
                    · exact HG.out j h
                    · exact HK.out)⟩
                  case measure => simp [intOf]; omega
        · obtain rfl : i = Ls.length := by omega
          have E := Lib.hid (cirErr_zero HSZ.out HG.out)
          go_wp2_with fail
          go_ret
          exact ⟨ret_int E.out.symm, hx1.trans HX⟩
end Go.Proofs.YtaajjaadlpgbiaaGreatDoor
end
section
namespace Go.Att
open Go.RowKit
/-- What a gate is, over the values beneath. -/
def gval (p : Int) (row : List Int) (g : Tri) : Int := if g.1 = 1 then fmul p (nth row g.2.1.toNat) (nth row g.2.2.toNat) else fadd p (nth row g.2.1.toNat) (nth row g.2.2.toNat)
def vrow (p : Int) (Ls : List (List Tri)) (inp : List Int) : Nat → List Int
  | 0 => inp.map (fof p)
  | i + 1 => (nthY Ls i).map (gval p (vrow p Ls inp i))
/-- All rows up to one. -/
def vals (p : Int) (Ls : List (List Tri)) (inp : List Int) (n : Nat) : List (List Int) := (List.range (n + 1)).map (vrow p Ls inp)
theorem vals_length (p : Int) (Ls : List (List Tri)) (inp : List Int) (n : Nat) : (vals p Ls inp n).length = n + 1 := by simp [vals]
theorem vals_succ (p : Int) (Ls : List (List Tri)) (inp : List Int) (n : Nat) : vals p Ls inp (n + 1) = vals p Ls inp n ++ [vrow p Ls inp (n + 1)] := by unfold vals; rw [List.range_succ, List.map_append]; rfl
theorem vals_nth (p : Int) (Ls : List (List Tri)) (inp : List Int) {n i : Nat} (h : i ≤ n) : nthL (vals p Ls inp n) i = vrow p Ls inp i := by rw [nthL_eq (by rw [vals_length]; omega)]; simp [vals]
theorem vrow_length {p wd : Int} {Ls : List (List Tri)} {inp : List Int} (h : (inp.length : Int) = 2 ^ wd.toNat) (i : Nat) : ((vrow p Ls inp i).length : Int) = below wd Ls i := by
  cases i with
  | zero => simp [vrow, below, h]
  | succ i => simp [vrow, below]
theorem vrow_step (p : Int) (row : List Int) {l : List Tri} {k : Nat} (h : k < l.length) : ((l.take (k + 1)).map (gval p row)).map (Value.int .i64) = ((l.take k).map (gval p row)).map (Value.int .i64) ++ [.int .i64 (gval p row (nthT l k))] := by
  rw [List.take_succ_eq_append_getElem h, ← nthT_eq h]; simp
theorem gval_mul {p : Int} {row : List Int} {a b : Nat} : gval p row (1, a, b) = fmul p (nth row a) (nth row b) := by simp [gval]
theorem gval_add {p : Int} {row : List Int} {k : Int} {a b : Nat} (h : k ≠ 1) : gval p row (k, a, b) = fadd p (nth row a) (nth row b) := by simp [gval, h]
end Go.Att
namespace Go.Proofs.YtaajjaadlpgbiaaGreatDoor
open Go.RowKit Go.Att

end Go.Proofs.YtaajjaadlpgbiaaGreatDoor
end
