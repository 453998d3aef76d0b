/- How wide a layer is, the program's side: contracts of size, and of the search for a layer that is none. -/
import Derived.Test.YtaajjaadlpgbiaaGreatDoorZx3
import Derived.Test.YtaajjaadlpgbiaaGreatDoorHb
/-! How wide a layer is, the program's side: contracts of size, and of the search for a layer that is none. -/
namespace Go.Att
open Go.RowKit
/-- A power of two up to 64 is wide; what is wide is one. -/
theorem wide_two {n : Int} (h1 : 1 ≤ n) (h2 : n ≤ 64) : twoB n = decide (0 ≤ wideOf n) := by
  by_cases h : 0 ≤ wideOf n
  · rw [decide_eq_true h]
    have hp := wideOf_pow h
    have hb := wideOf_bd n
    simp only [twoB, twoUp, List.any_eq_true, List.mem_range, beq_iff_eq]
    exact ⟨(wideOf n).toNat, by omega, hp.symm⟩
  · rw [decide_eq_false h, Bool.eq_false_iff]
    intro hc
    simp only [twoB, twoUp, List.any_eq_true, List.mem_range, beq_iff_eq] at hc
    obtain ⟨k, hk, rfl⟩ := hc
    have hk6 : k ≤ 6 := by
      apply Classical.byContradiction
      intro hc2
      have h3 : (2 : Nat) ^ 7 ≤ 2 ^ k := Nat.pow_le_pow_right (by decide) (by omega)
      have h4 : ((2 ^ k : Nat) : Int) = (2 : Int) ^ k := by simp
      omega
    rw [wideOf_of k hk6] at h; omega
theorem wide_out {n : Int} (h : n < 1 ∨ 64 < n) : wideOf n = -1 := by
  have h1 := wideOf_bd n
  apply Classical.byContradiction
  intro hc
  have := wideOf_le (n := n) (by omega)
  omega
/-- Is a layer of no size? -/
def badLy (l : List Tri) : Bool := decide (wideOf l.length < 0)
end Go.Att
namespace Go.Proofs.YtaajjaadlpgbiaaGreatDoor
open Go.RowKit Go.Att

set_option maxRecDepth 100000 in
set_option maxHeartbeats 1000000 in
theorem size_ok (n : Int) (w : World) (hn : n ≤ 9223372036854775807) : Calls Tryz.prog 95 #[.int .i64 n] w fun e w' => e = .returned (.int .i64 (wideOf n)) ∧ w = w' := by
  by_cases h1 : n < 1
  · rw [wide_out (.inl h1)]
    go_enter Tryz.func95, Tryz.ntmps95
    go_wp2_with fail
    go_ret
    exact ⟨rfl, rfl⟩
  · by_cases h2 : 64 < n
    · rw [wide_out (.inr h2)]
      cases hm : (bits BinOp.and IntKind.i64 n (n - 1) != 0)
      all_goals
        go_enter Tryz.func95, Tryz.ntmps95
        go_wp2_with fail
        go_ret
        exact ⟨rfl, rfl⟩
    · by_cases h : 0 ≤ wideOf n
      · have hb := wideOf_bd n
        have hp := wideOf_pow h
        obtain ⟨k, hk⟩ := Int.eq_ofNat_of_zero_le h
        rw [hk, Int.toNat_natCast] at hp
        have hk6 : k ≤ 6 := by omega
        clear h hb hk
        subst hp
        rw [wideOf_of k hk6]
        have : k = 0 ∨ k = 1 ∨ k = 2 ∨ k = 3 ∨ k = 4 ∨ k = 5 ∨ k = 6 := by omega
        clear h1 h2 hk6 hn
        rcases this with rfl | rfl | rfl | rfl | rfl | rfl | rfl
        all_goals
          go_enter Tryz.func95, Tryz.ntmps95
          go_wp2
          go_ret
          exact ⟨by kernel_rfl, rfl⟩
      · have hm : (bits BinOp.and IntKind.i64 n (n - 1) != 0) = true := by rw [twoB_iff (by omega) (by omega), wide_two (by omega) (by omega), decide_eq_false h]; rfl
        have hw : wideOf n = -1 := by have := wideOf_bd n; omega
        rw [hw]
        clear h hw
        go_enter Tryz.func95, Tryz.ntmps95
        go_wp2_with fail
        go_ret
        exact ⟨rfl, rfl⟩

theorem chk1_any (v : Value) (l : List Tri) (w : World) (hv : Trs w v l) :
    Calls Tryz.prog 94 #[v] w fun e w' => e = .returned (.bool (badLy l)) ∧ w = w' := by
  have hl := hv.run_len (P := Tryz.prog) slGates
  have hlen := hv.len
  clear hv
  go_enter Tryz.func94, Tryz.ntmps94
  go_wp2_with (go_at_call 95; refine (size_ok _ _ (by omega)).mono ?_; rintro e w' ⟨rfl, rfl⟩)
  go_ret
  exact ⟨rfl, rfl⟩

set_option maxRecDepth 100000 in
set_option maxHeartbeats 1000000 in
theorem gindex_any (v : Value) (Ls : List (List Tri)) (R : Nat → Value) (w : World) (hv : LysAt w v Ls R) :
    Calls Tryz.prog 134 #[v, .func (Fn.func 94) #[] #[]] w (RdI w fun r => decide (0 ≤ r) = Ls.any badLy) := by
  have hl := hv.run_len (P := Tryz.prog) slLayers
  have hlen := hv.len
  have HV := Lib.hid hv; clear hv
  go_enter Tryz.func134, Tryz.ntmps134
  go_wp2
  go_loop [5, 8] (fun _ x8 => ∃ i : Nat, i ≤ Ls.length ∧ x8 = .int .i64 i ∧ Hid (∀ j, j < i → badLy (nthY Ls j) = false)) (fun _ x8 => Ls.length - (intOf x8).toNat)
  case atStart => exact ⟨0, Nat.zero_le _, rfl, Lib.hid (fun j hj => by omega)⟩
  case round =>
    obtain ⟨i, hi, rfl, H⟩ := hrel
    by_cases hlt : i < Ls.length
    · have hix := HV.out.run_index (P := Tryz.prog) slLayers i hlt
      have hcell := HV.out.cell i hlt
      cases he : badLy (nthY Ls i) with
      | false =>
        have HE := Lib.hid he; clear he
        go_wp2_with (go_at_call 94; refine (chk1_any _ _ _ (HV.out.row i hlt)).mono ?_; rw [HE.out]; rintro e w' ⟨rfl, rfl⟩)
        go_round
        case rel => exact ⟨i + 1, by omega, by go_num, Lib.hid (fun j hj => by
            rcases Nat.lt_or_eq_of_le (show j ≤ i by omega) with h | rfl
            · exact H.out j h
            · exact HE.out)⟩
        case measure => simp [intOf]; omega
      | true =>
        have HE := Lib.hid he; clear he
        have HA := Lib.hid (show Ls.any badLy = true from List.any_eq_true.2 ⟨_, nthY_mem hlt, HE.out⟩)
        go_wp2_with (go_at_call 94; refine (chk1_any _ _ _ (HV.out.row i hlt)).mono ?_; rw [HE.out]; rintro e w' ⟨rfl, rfl⟩)
        go_ret
        exact ⟨i, by rw [HA.out]; simp, rfl, 0, rfl⟩
    · obtain rfl : i = Ls.length := by omega
      have HA := Lib.hid (show Ls.any badLy = false by
        rw [List.any_eq_false]
        intro l hl
        obtain ⟨j, hj, rfl⟩ := List.getElem_of_mem hl
        have := H.out j hj
        rw [nthY_eq hj] at this; simp [this])
      go_wp2_with fail
      go_ret
      exact ⟨-1, by rw [HA.out]; rfl, rfl, 0, rfl⟩

theorem gcontains_any (v : Value) (Ls : List (List Tri)) (R : Nat → Value) (w : World) (hv : LysAt w v Ls R) :
    Calls Tryz.prog 93 #[v, .func (Fn.func 94) #[] #[]] w (Rd w (.bool (Ls.any badLy))) := by
  have HV := Lib.hid hv; clear hv
  go_enter Tryz.func93, Tryz.ntmps93
  go_wp2_with (go_at_call 134; refine (gindex_any _ _ _ _ HV.out).mono ?_; rintro e w' ⟨r, hr, rfl, m, rfl⟩; have HR := Lib.hid hr; clear hr)
  go_ret
  exact .more _ (ret_bool HR.out)
end Go.Proofs.YtaajjaadlpgbiaaGreatDoor
/-! What is wrong with a circuit, the program's side: contract of checked. -/
namespace Go.Att
theorem sizes_any {wd : Int} {Ls : List (List Tri)} (h : Ls.any badLy = true) : ¬ cirSizes wd Ls := by
  intro hc
  obtain ⟨l, hl, h2⟩ := List.any_eq_true.1 h
  obtain ⟨i, hi, rfl⟩ := List.getElem_of_mem hl
  have := hc.2.2.2.2 i hi
  rw [nthY_eq hi] at this
  unfold badLy at h2
  simp only [decide_eq_true_eq] at h2
  omega
theorem sizes_of {wd : Int} {Ls : List (List Tri)} (h1 : 0 ≤ wd) (h2 : wd ≤ 6) (h3 : 1 ≤ (Ls.length : Int)) (h4 : (Ls.length : Int) ≤ 8) (h : Ls.any badLy = false) : cirSizes wd Ls := by
  refine ⟨h1, h2, by omega, by omega, fun i hi => ?_⟩
  rw [List.any_eq_false] at h
  have := h _ (nthY_mem hi)
  unfold badLy at this
  simp only [decide_eq_true_eq] at this
  omega
theorem below_succ (wd : Int) (Ls : List (List Tri)) (i : Nat) : below wd Ls (i + 1) = (nthY Ls i).length := by unfold below; rw [if_neg (by omega)]; rfl
end Go.Att
namespace Go.Proofs.YtaajjaadlpgbiaaGreatDoor
open Go.RowKit Go.Att

set_option maxRecDepth 100000 in
set_option maxHeartbeats 4000000 in
theorem checked_any (wd : Int) (lv : Value) (Ls : List (List Tri)) (R : Nat → Value) (w : World) (hv : LysAt w lv Ls R) :
    Calls Tryz.prog 47 #[.agg #[.int .i64 wd, lv]] w fun e w' => e = .returned (errv (cirErr wd Ls)) ∧ Ext w w' := by
  obtain ⟨ao, cap, rfl⟩ := hv.shape
  have hlen := hv.len
  have hll := hv.run_len (P := Tryz.prog) slLayers
  have HV := Lib.hid hv; clear hv
  by_cases s0 : wd < 0
  · rw [cirErr_two (sizes_not (wd := wd) (Ls := Ls) (by omega)), errv_pos (by decide)]
    go_enter Tryz.func47, Tryz.ntmps47
    go_wp2_with fail
    go_ret
    exact ⟨rfl, Ext.alloc _ _⟩
  by_cases s1 : 6 < wd
  · rw [cirErr_two (sizes_not (wd := wd) (Ls := Ls) (by omega)), errv_pos (by decide)]
    go_enter Tryz.func47, Tryz.ntmps47
    go_wp2_with fail
    go_ret
    exact ⟨rfl, Ext.alloc _ _⟩
  by_cases s2 : (Ls.length : Int) < 1
  · rw [cirErr_two (sizes_not (wd := wd) (Ls := Ls) (by omega)), errv_pos (by decide)]
    go_enter Tryz.func47, Tryz.ntmps47
    go_wp2_with fail
    go_ret
    exact ⟨rfl, Ext.alloc _ _⟩
  by_cases s3 : 8 < (Ls.length : Int)
  · rw [cirErr_two (sizes_not (wd := wd) (Ls := Ls) (by omega)), errv_pos (by decide)]
    go_enter Tryz.func47, Tryz.ntmps47
    go_wp2_with fail
    go_ret
    exact ⟨rfl, Ext.alloc _ _⟩
  obtain ⟨wn, rfl⟩ := Int.eq_ofNat_of_zero_le (show 0 ≤ wd by omega)
  have hwn6 : wn ≤ 6 := by omega
  have hp2 := pow2_small hwn6
  cases hbad : Ls.any badLy with
  | true =>
    rw [cirErr_two (sizes_any hbad), errv_pos (by decide)]
    go_enter Tryz.func47, Tryz.ntmps47
    go_wp2_with (go_at_call 93; refine (gcontains_any _ Ls R _ (HV.out.ext (Ext.alloc _ _))).mono ?_; rw [hbad]; rintro e w2 hrd; obtain ⟨rfl, hx2⟩ := hrd.ext; clear hrd)
    go_ret
    exact ⟨rfl, (Ext.alloc _ _).trans hx2⟩
  | false =>
    have HSZ := Lib.hid (sizes_of (wd := wn) (Ls := Ls) (by omega) (by omega) (by omega) (by omega) hbad)
    have c0 := cell_new w #[.int .i64 wn, .slice ao Ls.length cap] 48 0
    have c1 := cell_new w #[.int .i64 wn, .slice ao Ls.length cap] 48 1
    go_enter Tryz.func47, Tryz.ntmps47
    go_wp2_with (go_at_call 93; refine (gcontains_any _ Ls R _ (HV.out.ext (Ext.alloc _ _))).mono ?_; rw [hbad]; rintro e w2 hrd; obtain ⟨rfl, hx2⟩ := hrd.ext; clear hrd; replace c0 : w2.cell? ⟨w.heap.size, 0, none⟩ = some (.int .i64 wn) := hx2.cell c0; replace c1 : w2.cell? ⟨w.heap.size, 1, none⟩ = some (.slice ao Ls.length cap) := hx2.cell c1)
    have HX := Lib.hid ((Ext.alloc w (Obj.cells #[.int .i64 wn, .slice ao Ls.length cap] 48)).trans hx2)
    clear hx2
    go_loopw [3, 5, 7, 39] (fun x3 _ _ x39 wr => ∃ i : Nat, i ≤ Ls.length ∧ x39 = .int .i64 i ∧ x3 = .int .i64 (below wn Ls i) ∧ Ext w2 wr ∧ Hid (∀ j, j < i → ∀ k, k < (nthY Ls j).length → gateOk (below wn Ls j) (nthT (nthY Ls j) k))) (fun _ _ _ x39 _ => Ls.length - (intOf x39).toNat)
    case atStart => exact ⟨0, Nat.zero_le _, rfl, rfl, Ext.refl _, Lib.hid (fun j hj => by omega)⟩
    case round =>
      obtain ⟨i, hi, rfl, rfl, HX1, HG⟩ := hrel
      by_cases hil : i < Ls.length
      · have hl64 := wideOf_le (HSZ.out.2.2.2.2 i hil)
        have hV := HV.out.ext (HX.out.trans HX1)
        have hix := hV.run_index (P := Tryz.prog) slLayers i hil
        have hc := hV.cell i hil
        have hrow := hV.row i hil
        have hln := hrow.run_len (P := Tryz.prog) slGates
        have HROW := Lib.hid hrow
        clear hV hrow
        generalize hB : below wn Ls i = B
        have HB := Lib.hid hB; clear hB
        go_wp2_with fail
        clear hix hc
        go_loopw [7, 45] (fun _ x45 ws => ∃ k : Nat, k ≤ (nthY Ls i).length ∧ x45 = .int .i64 k ∧ Ext wr ws ∧ Hid (∀ j, j < k → gateOk (below wn Ls i) (nthT (nthY Ls i) j))) (fun _ x45 _ => (nthY Ls i).length - (intOf x45).toNat)
        case atStart => exact ⟨0, Nat.zero_le _, rfl, Ext.refl _, Lib.hid (fun j hj => by omega)⟩
        case round =>
          obtain ⟨k, hk, rfl, HX2, HK⟩ := hrel
          by_cases hkl : k < (nthY Ls i).length
          · have hrow := HROW.out.ext HX2
            have hix2 := hrow.run_index (P := Tryz.prog) slGates k hkl
            have g0 := hrow.c0 k hkl
            have g1 := hrow.c1 k hkl
            have g2 := hrow.c2 k hkl
            clear hrow
            generalize hg : nthT (nthY Ls i) k = G at g0 g1 g2
            obtain ⟨gk, ga, gb⟩ := G
            have HGG := Lib.hid hg; clear hg
            simp only at g0 g1 g2
            by_cases k0 : gk = 0
            · subst k0
              by_cases t0 : ga < 0
              · have E := Lib.hid (show errv (cirErr wn Ls) = .iface 77 (.int .i64 3) by rw [cirErr_three HSZ.out (gates_not hil hkl (by rw [HGG.out, HB.out]; unfold gateOk; simp only; omega)), errv_pos (by decide)])
                go_wp2_with fail
                go_ret
                exact ⟨ret_val E.out.symm, ((HX.out.trans HX1).trans HX2).trans (Ext.alloc _ _)⟩
              by_cases t1 : B ≤ ga
              · have E := Lib.hid (show errv (cirErr wn Ls) = .iface 77 (.int .i64 3) by rw [cirErr_three HSZ.out (gates_not hil hkl (by rw [HGG.out, HB.out]; unfold gateOk; simp only; omega)), errv_pos (by decide)])
                go_wp2_with fail
                go_ret
                exact ⟨ret_val E.out.symm, ((HX.out.trans HX1).trans HX2).trans (Ext.alloc _ _)⟩
              by_cases t2 : gb < 0
              · have E := Lib.hid (show errv (cirErr wn Ls) = .iface 77 (.int .i64 3) by rw [cirErr_three HSZ.out (gates_not hil hkl (by rw [HGG.out, HB.out]; unfold gateOk; simp only; omega)), errv_pos (by decide)])
                go_wp2_with fail
                go_ret
                exact ⟨ret_val E.out.symm, ((HX.out.trans HX1).trans HX2).trans (Ext.alloc _ _)⟩
              by_cases t3 : B ≤ gb
              · have E := Lib.hid (show errv (cirErr wn Ls) = .iface 77 (.int .i64 3) by rw [cirErr_three HSZ.out (gates_not hil hkl (by rw [HGG.out, HB.out]; unfold gateOk; simp only; omega)), errv_pos (by decide)])
                go_wp2_with fail
                go_ret
                exact ⟨ret_val E.out.symm, ((HX.out.trans HX1).trans HX2).trans (Ext.alloc _ _)⟩
              have OK := Lib.hid (show gateOk (below wn Ls i) (nthT (nthY Ls i) k) by rw [HGG.out, HB.out]; unfold gateOk; simp only; omega)
              go_wp2_with fail
              go_roundw
              case rel => exact ⟨k + 1, by omega, by go_num, HX2.trans (Ext.alloc _ _), Lib.hid (fun j hj => by
                rcases Nat.lt_or_eq_of_le (show j ≤ k by omega) with h | rfl
                · exact HK.out j h
                · exact OK.out)⟩
              case measure => simp [intOf]; omega
            · by_cases k1 : gk = 1
              · subst k1
                by_cases t0 : ga < 0
                · have E := Lib.hid (show errv (cirErr wn Ls) = .iface 77 (.int .i64 3) by rw [cirErr_three HSZ.out (gates_not hil hkl (by rw [HGG.out, HB.out]; unfold gateOk; simp only; omega)), errv_pos (by decide)])
                  go_wp2_with fail
                  go_ret
                  exact ⟨ret_val E.out.symm, ((HX.out.trans HX1).trans HX2).trans (Ext.alloc _ _)⟩
                by_cases t1 : B ≤ ga
                · have E := Lib.hid (show errv (cirErr wn Ls) = .iface 77 (.int .i64 3) by rw [cirErr_three HSZ.out (gates_not hil hkl (by rw [HGG.out, HB.out]; unfold gateOk; simp only; omega)), errv_pos (by decide)])
                  go_wp2_with fail
                  go_ret
                  exact ⟨ret_val E.out.symm, ((HX.out.trans HX1).trans HX2).trans (Ext.alloc _ _)⟩
                by_cases t2 : gb < 0
                · have E := Lib.hid (show errv (cirErr wn Ls) = .iface 77 (.int .i64 3) by rw [cirErr_three HSZ.out (gates_not hil hkl (by rw [HGG.out, HB.out]; unfold gateOk; simp only; omega)), errv_pos (by decide)])
                  go_wp2_with fail
                  go_ret
                  exact ⟨ret_val E.out.symm, ((HX.out.trans HX1).trans HX2).trans (Ext.alloc _ _)⟩
                by_cases t3 : B ≤ gb
                · have E := Lib.hid (show errv (cirErr wn Ls) = .iface 77 (.int .i64 3) by rw [cirErr_three HSZ.out (gates_not hil hkl (by rw [HGG.out, HB.out]; unfold gateOk; simp only; omega)), errv_pos (by decide)])
                  go_wp2_with fail
                  go_ret
                  exact ⟨ret_val E.out.symm, ((HX.out.trans HX1).trans HX2).trans (Ext.alloc _ _)⟩
                have OK := Lib.hid (show gateOk (below wn Ls i) (nthT (nthY Ls i) k) by rw [HGG.out, HB.out]; unfold gateOk; simp only; omega)
                go_wp2_with fail
                go_roundw
                case rel => exact ⟨k + 1, by omega, by go_num, HX2.trans (Ext.alloc _ _), Lib.hid (fun j hj => by
                  rcases Nat.lt_or_eq_of_le (show j ≤ k by omega) with h | rfl
                  · exact HK.out j h
                  · exact OK.out)⟩
                case measure => simp [intOf]; omega
              · have b0 : (gk != 0) = true := by rw [bne_iff_ne]; exact k0
                have b1 : (gk != 1) = true := by rw [bne_iff_ne]; exact k1
                have E := Lib.hid (show errv (cirErr wn Ls) = .iface 77 (.int .i64 3) by rw [cirErr_three HSZ.out (gates_not hil hkl (by rw [HGG.out, HB.out]; unfold gateOk; simp only; omega)), errv_pos (by decide)])
                go_wp2_with fail
                go_ret
                exact ⟨ret_val E.out.symm, ((HX.out.trans HX1).trans HX2).trans (Ext.alloc _ _)⟩
          · obtain rfl : k = (nthY Ls i).length := by omega
            go_wp2_with fail
            go_roundw
            case rel => exact ⟨i + 1, by omega, by go_num, by rw [below_succ], HX1.trans HX2, Lib.hid (fun j hj => by
              rcases Nat.lt_or_eq_of_le (show j ≤ i by omega) with h | rfl
              · exact HG.out j h
              · exact HK.out)⟩
            case measure => simp [intOf]; omega
      · obtain rfl : i = Ls.length := by omega
        have E := Lib.hid (show errv (cirErr wn Ls) = .nilIface by rw [cirErr_zero HSZ.out HG.out, errv_zero])
        go_wp2_with fail
        go_ret
        exact ⟨ret_val E.out.symm, HX.out.trans HX1⟩
end Go.Proofs.YtaajjaadlpgbiaaGreatDoor
