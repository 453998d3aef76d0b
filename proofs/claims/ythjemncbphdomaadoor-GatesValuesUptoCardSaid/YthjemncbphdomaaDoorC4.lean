/- How wide a layer is, the program's side: contracts of size, and of the search for a layer that is none. -/
import Derived.Test.YthjemncbphdomaaDoorC3
import Derived.Test.YthjemncbphdomaaDoorH3
namespace Go.Att
open Go.RowKit
/-- A power of two up to 64 is wide; what is wide is one. -/
theorem wide_two {n : Int} (h1 : 1 ≤ n) (h2 : n ≤ 64) : twoB n = decide (0 ≤ wideOf n) := by
  by_cases h : 0 ≤ wideOf n
  · rw [decide_eq_true h]
    have hp := wideOf_pow h
    have hb := wideOf_bd n
    simp only [twoB, twoUp, List.any_eq_true, List.mem_range, beq_iff_eq]
    exact ⟨(wideOf n).toNat, by omega, hp.symm⟩
  · rw [decide_eq_false h, Bool.eq_false_iff]
    intro hc
    simp only [twoB, twoUp, List.any_eq_true, List.mem_range, beq_iff_eq] at hc
    obtain ⟨k, hk, rfl⟩ := hc
    have hk6 : k ≤ 6 := by
      apply Classical.byContradiction
      intro hc2
      have h3 : (2 : Nat) ^ 7 ≤ 2 ^ k := Nat.pow_le_pow_right (by decide) (by omega)
      have h4 : ((2 ^ k : Nat) : Int) = (2 : Int) ^ k := by simp
      omega
    rw [wideOf_of k hk6] at h; omega
theorem wide_out {n : Int} (h : n < 1 ∨ 64 < n) : wideOf n = -1 := by
  have h1 := wideOf_bd n
  apply Classical.byContradiction
  intro hc
  have := wideOf_le (n := n) (by omega)
  omega
/-- Is a layer of no size? -/
def badLy (l : List Tri) : Bool := decide (wideOf l.length < 0)
end Go.Att
namespace Go.Proofs.YthjemncbphdomaaDoor
open Go.RowKit Go.Att

set_option maxRecDepth 100000 in
set_option maxHeartbeats 1000000 in
theorem size_ok (n : Int) (w : World) (hn : n ≤ 9223372036854775807) : Calls Tryd.prog 157 #[.int .i64 n] w fun e w' => e = .returned (.int .i64 (wideOf n)) ∧ w = w' := by
  by_cases h1 : n < 1
  · rw [wide_out (.inl h1)]
    go_enter Tryd.func157, Tryd.ntmps157
    go_wp2_with fail
    go_ret
    exact ⟨rfl, rfl⟩
  · by_cases h2 : 64 < n
    · rw [wide_out (.inr h2)]
      cases hm : (bits BinOp.and IntKind.i64 n (n - 1) != 0)
      all_goals
        go_enter Tryd.func157, Tryd.ntmps157
        go_wp2_with fail
        go_ret
        exact ⟨rfl, rfl⟩
    · by_cases h : 0 ≤ wideOf n
      · have hb := wideOf_bd n
        have hp := wideOf_pow h
        obtain ⟨k, hk⟩ := Int.eq_ofNat_of_zero_le h
        rw [hk, Int.toNat_natCast] at hp
        have hk6 : k ≤ 6 := by omega
        clear h hb hk
        subst hp
        rw [wideOf_of k hk6]
        have : k = 0 ∨ k = 1 ∨ k = 2 ∨ k = 3 ∨ k = 4 ∨ k = 5 ∨ k = 6 := by omega
        clear h1 h2 hk6 hn
        rcases this with rfl | rfl | rfl | rfl | rfl | rfl | rfl
        all_goals
          go_enter Tryd.func157, Tryd.ntmps157
          go_wp2
          go_ret
          exact ⟨by kernel_rfl, rfl⟩
      · have hm : (bits BinOp.and IntKind.i64 n (n - 1) != 0) = true := by rw [twoB_iff (by omega) (by omega), wide_two (by omega) (by omega), decide_eq_false h]; rfl
        have hw : wideOf n = -1 := by have := wideOf_bd n; omega
        rw [hw]
        clear h hw
        go_enter Tryd.func157, Tryd.ntmps157
        go_wp2_with fail
        go_ret
        exact ⟨rfl, rfl⟩

theorem chk1_any (v : Value) (l : List Tri) (w : World) (hv : Trs w v l) :
    Calls Tryd.prog 156 #[v] w fun e w' => e = .returned (.bool (badLy l)) ∧ w = w' := by
  have hl := hv.run_len (P := Tryd.prog) slGates
  have hlen := hv.len
  clear hv
  go_enter Tryd.func156, Tryd.ntmps156
  go_wp2_with (go_at_call 157; refine (size_ok _ _ (by omega)).mono ?_; rintro e w' ⟨rfl, rfl⟩)
  go_ret
  exact ⟨rfl, rfl⟩

set_option maxRecDepth 100000 in
set_option maxHeartbeats 1000000 in
theorem gindex_any (v : Value) (Ls : List (List Tri)) (R : Nat → Value) (w : World) (hv : LysAt w v Ls R) :
    Calls Tryd.prog 200 #[v, .func (Fn.func 156) #[] #[]] w (RdI w fun r => decide (0 ≤ r) = Ls.any badLy) := by
  have hl := hv.run_len (P := Tryd.prog) slLayers
  have hlen := hv.len
  have HV := Lib.hid hv; clear hv
  go_enter Tryd.func200, Tryd.ntmps200
  go_wp2
  go_loop [5, 8] (fun _ x8 => ∃ i : Nat, i ≤ Ls.length ∧ x8 = .int .i64 i ∧ Hid (∀ j, j < i → badLy (nthY Ls j) = false)) (fun _ x8 => Ls.length - (intOf x8).toNat)
  case atStart => exact ⟨0, Nat.zero_le _, rfl, Lib.hid (fun j hj => by omega)⟩
  case round =>
    obtain ⟨i, hi, rfl, H⟩ := hrel
    by_cases hlt : i < Ls.length
    · have hix := HV.out.run_index (P := Tryd.prog) slLayers i hlt
      have hcell := HV.out.cell i hlt
      cases he : badLy (nthY Ls i) with
      | false =>
        have HE := Lib.hid he; clear he
        go_wp2_with (go_at_call 156; refine (chk1_any _ _ _ (HV.out.row i hlt)).mono ?_; rw [HE.out]; rintro e w' ⟨rfl, rfl⟩)
        go_round
        case rel => exact ⟨i + 1, by omega, by go_num, Lib.hid (fun j hj => by
            rcases Nat.lt_or_eq_of_le (show j ≤ i by omega) with h | rfl
            · exact H.out j h
            · exact HE.out)⟩
        case measure => simp [intOf]; omega
      | true =>
        have HE := Lib.hid he; clear he
        have HA := Lib.hid (show Ls.any badLy = true from List.any_eq_true.2 ⟨_, nthY_mem hlt, HE.out⟩)
        go_wp2_with (go_at_call 156; refine (chk1_any _ _ _ (HV.out.row i hlt)).mono ?_; rw [HE.out]; rintro e w' ⟨rfl, rfl⟩)
        go_ret
        exact ⟨i, by rw [HA.out]; simp, rfl, 0, rfl⟩
    · obtain rfl : i = Ls.length := by omega
      have HA := Lib.hid (show Ls.any badLy = false by
        rw [List.any_eq_false]
        intro l hl
        obtain ⟨j, hj, rfl⟩ := List.getElem_of_mem hl
        have := H.out j hj
        rw [nthY_eq hj] at this; simp [this])
      go_wp2_with fail
      go_ret
      exact ⟨-1, by rw [HA.out]; rfl, rfl, 0, rfl⟩

theorem gcontains_any (v : Value) (Ls : List (List Tri)) (R : Nat → Value) (w : World) (hv : LysAt w v Ls R) :
    Calls Tryd.prog 155 #[v, .func (Fn.func 156) #[] #[]] w (Rd w (.bool (Ls.any badLy))) := by
  have HV := Lib.hid hv; clear hv
  go_enter Tryd.func155, Tryd.ntmps155
  go_wp2_with (go_at_call 200; refine (gindex_any _ _ _ _ HV.out).mono ?_; rintro e w' ⟨r, hr, rfl, m, rfl⟩; have HR := Lib.hid hr; clear hr)
  go_ret
  exact .more _ (ret_bool HR.out)
end Go.Proofs.YthjemncbphdomaaDoor
