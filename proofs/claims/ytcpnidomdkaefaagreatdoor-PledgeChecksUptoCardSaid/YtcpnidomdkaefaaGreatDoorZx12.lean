/- The document's digest: powers, constants, stirring, what stands behind a list: contracts. The sponge, the program's side: a state is stirred: contract. The document's digest: a state is stirred; what stands behind a list; the digest: contracts. -/
import Derived.Test.YtcpnidomdkaefaaGreatDoorZx8
import Derived.Test.YtcpnidomdkaefaaGreatDoorWw
section
namespace Go.Att
open Go.RowKit
/-- Has n a divisor but 1 in common with m, below i? -/
def comB (n m : Nat) (i : Nat) : Bool := (List.range i).any fun d => decide (2 ≤ d) && (n % d == 0) && (m % d == 0)
theorem com_gcd {n m : Nat} (hn : 1 ≤ n) (h : ∀ d, 2 ≤ d → d ≤ n → ¬ (n % d = 0 ∧ m % d = 0)) : Nat.gcd n m = 1 := by
  apply Classical.byContradiction
  intro hc
  have h0 : 0 < Nat.gcd n m := Nat.gcd_pos_of_pos_left _ hn
  have h1 : Nat.gcd n m ∣ n := Nat.gcd_dvd_left _ _
  have h2 : Nat.gcd n m ∣ m := Nat.gcd_dvd_right _ _
  exact h _ (by omega) (Nat.le_of_dvd hn h1) ⟨Nat.mod_eq_zero_of_dvd h1, Nat.mod_eq_zero_of_dvd h2⟩
theorem gcd_com {n m d : Nat} (h2 : 2 ≤ d) (h : n % d = 0 ∧ m % d = 0) : Nat.gcd n m ≠ 1 := by
  intro hc
  have := Nat.dvd_gcd (Nat.dvd_of_mod_eq_zero h.1) (Nat.dvd_of_mod_eq_zero h.2)
  rw [hc] at this
  have := Nat.le_of_dvd (by omega) this
  omega
theorem modN_cast (n i : Nat) : ((n : Int) % (i : Int) == 0) = (n % i == 0) := by
  rw [Bool.eq_iff_iff, beq_iff_eq, beq_iff_eq]; omega
theorem mixT_snoc (p : Int) (x : List Int) (i : Nat) (hi : i < 8) : ((mixT p x).take (i + 1)).map (Value.int .i64) = ((mixT p x).take i).map (Value.int .i64) ++ [.int .i64 (dotP p (fun j => fmul p (finv p ((i : Int) + j + 8)) (nth x j)) 8)] := by
  rw [List.take_succ_eq_append_getElem (by rw [mixT_length]; exact hi), List.map_append, ← nth_eq, mixT_nth p x hi]; rfl
theorem dot_step (p s _a x : Int) (c : Int) (_h : 0 ≤ s ∧ s < p) : (s + fdiv p x c) % p = fadd p s (fmul p (finv p c) x) := by
  unfold fadd fdiv fmul
  rw [Int.mul_comm x]
/-- The powers so far. -/
def powU (p : Int) (k r : Nat) (x : List Int) (i : Nat) : List Int := (List.range 8).map fun j => if j < i then fpow p (fadd p (nth x j) (cstP p r j)) k else nth x j
theorem powU_length (p : Int) (k r : Nat) (x : List Int) (i : Nat) : (powU p k r x i).length = 8 := by simp [powU]
theorem powU_nth (p : Int) (k r : Nat) (x : List Int) (i : Nat) {j : Nat} (h : j < 8) : nth (powU p k r x i) j = if j < i then fpow p (fadd p (nth x j) (cstP p r j)) k else nth x j := by
  rw [nth_eq (by rw [powU_length]; exact h)]; simp [powU]
theorem powU_zero (p : Int) (k r : Nat) (x : List Int) (hl : x.length = 8) : powU p k r x 0 = x := by
  apply List.ext_getElem (by rw [powU_length, hl])
  intro i h1 h2
  simp [powU, nth_eq h2]
theorem powU_all (p : Int) (k r : Nat) (x : List Int) : powU p k r x 8 = powP p k r x := by
  unfold powU powP
  exact List.map_congr_left fun i hi => by rw [if_pos (List.mem_range.1 hi)]
theorem powU_set (p : Int) (k r : Nat) (x : List Int) (i : Nat) (_hi : i < 8) (v : Int) (hv : v = fpow p (fadd p (nth x i) (cstP p r i)) k) : (powU p k r x i).set i v = powU p k r x (i + 1) := by
  subst hv
  apply List.ext_getElem (by simp [powU])
  intro j h1 h2
  rw [List.getElem_set]
  simp only [powU, List.getElem_map, List.getElem_range]
  by_cases e : i = j
  · subst e; rw [if_pos rfl, if_pos (by omega)]
  · rw [if_neg e]
    by_cases h : j < i
    · rw [if_pos h, if_pos (by omega)]
    · rw [if_neg h, if_neg (by omega)]
theorem fpow_add (p a c : Int) (k : Nat) : fpow p (a + c) k = fpow p (fadd p a c) k := by unfold fpow fadd; rw [pow_mod]
end Go.Att
namespace Go.Proofs.YtcpnidomdkaefaaGreatDoor
open Go.RowKit Go.Att
set_option maxRecDepth 100000 in
set_option maxHeartbeats 4000000 in
theorem rcommon_any (n m : Nat) (w : World) (h1 : 2 ≤ n) (hn : n ≤ 2147483647) (hm : m ≤ 2147483647) :
    Calls Tryz.prog 188 #[.int .i64 n, .int .i64 m] w fun e w' => e = .returned (.bool (decide (Nat.gcd n m ≠ 1))) ∧ w = w' := by
  go_enter Tryz.func188, Tryz.ntmps188
  go_wp2_with fail
  go_loopw [5] (fun x5 wr => ∃ i : Nat, 2 ≤ i ∧ i ≤ n + 1 ∧ x5 = .int .i64 i ∧ Hid (∀ d, 2 ≤ d → d < i → ¬ (n % d = 0 ∧ m % d = 0)) ∧ wr = w) (fun x5 _ => n + 1 - (intOf x5).toNat)
  case atStart => exact ⟨2, by omega, by omega, rfl, Lib.hid (fun d h1 h2 => by omega), rfl⟩
  case round =>
    obtain ⟨i, hi2, hi, rfl, HD, rfl⟩ := hrel
    by_cases hin : i ≤ n
    · have e1 := modN_cast n i
      have e2 := modN_cast m i
      by_cases ha : n % i = 0
      · have ha' : ((n : Int) % (i : Int) == 0) = true := by rw [e1]; simpa using ha
        by_cases hb : m % i = 0
        · have hb' : ((m : Int) % (i : Int) == 0) = true := by rw [e2]; simpa using hb
          have HG := Lib.hid (gcd_com hi2 ⟨ha, hb⟩)
          clear e1 e2 ha hb
          go_wp2_with fail
          go_ret
          exact ⟨ret_bool (by simpa using HG.out), rfl⟩
        · have hb' : ((m : Int) % (i : Int) == 0) = false := by rw [e2]; simpa using hb
          have HD2 := Lib.hid (show ∀ d, 2 ≤ d → d < i + 1 → ¬ (n % d = 0 ∧ m % d = 0) from fun d h1 h2 hc => by
            by_cases e : d = i
            · subst e; exact hb hc.2
            · exact HD.out d h1 (by omega) hc)
          clear e1 e2 ha hb
          go_wp2_with fail
          go_roundw
          case rel => exact ⟨i + 1, by omega, by omega, by go_num, HD2, trivial⟩
          case measure => simp [intOf]; omega
      · have ha' : ((n : Int) % (i : Int) == 0) = false := by rw [e1]; simpa using ha
        have HD2 := Lib.hid (show ∀ d, 2 ≤ d → d < i + 1 → ¬ (n % d = 0 ∧ m % d = 0) from fun d h1 h2 hc => by
            by_cases e : d = i
            · subst e; exact ha hc.1
            · exact HD.out d h1 (by omega) hc)
        clear e1 e2 ha
        go_wp2_with fail
        go_roundw
        case rel => exact ⟨i + 1, by omega, by omega, by go_num, HD2, trivial⟩
        case measure => simp [intOf]; omega
    · have HG := Lib.hid (com_gcd (n := n) (m := m) (by omega) (fun d h1 h2 => HD.out d h1 (by omega)))
      go_wp2_with fail
      go_ret
      exact ⟨ret_bool (by simpa using HG.out), rfl⟩
set_option maxRecDepth 100000 in
set_option maxHeartbeats 4000000 in
theorem rpower_any (p : Int) (k : Nat) (w : World) (h23 : 23 ≤ p) (hp2 : p ≤ 2147483647) (hk : IsPw p k) :
    Calls Tryz.prog 174 #[.int .i64 p] w fun e w' => e = .returned (.int .i64 k) ∧ w = w' := by
  obtain ⟨hk2, hkg, hkl⟩ := hk
  have hkp : (k : Int) < p := by
    apply Classical.byContradiction
    intro hc
    exact hkl (p - 2).toNat (by omega) (by omega) (gcd_last h23)
  have HKG := Lib.hid hkg; have HKL := Lib.hid hkl
  obtain ⟨m, hm⟩ : ∃ m : Nat, (p - 1) = m ∧ (p - 1).toNat = m := ⟨(p - 1).toNat, by omega, rfl⟩
  have hm1 := hm.1
  have HM := Lib.hid hm
  clear hkg hkl hm
  go_enter Tryz.func174, Tryz.ntmps174
  go_wp2_with fail
  go_loopw [3, 4] (fun x3 _ wr => ∃ n : Nat, 2 ≤ n ∧ n ≤ k ∧ x3 = .int .i64 n ∧ wr = w) (fun x3 _ _ => k - (intOf x3).toNat)
  case atStart => exact ⟨2, by omega, by omega, rfl, rfl⟩
  case round =>
    obtain ⟨n, hn2, hnk, rfl, rfl⟩ := hrel
    by_cases hlt : n < k
    · have HC := Lib.hid (show decide (Nat.gcd n m ≠ 1) = true from by rw [decide_eq_true_iff, ← HM.out.2]; exact HKL.out n hn2 hlt)
      go_wp2_with (go_at_call 188; refine (rcommon_any n m _ hn2 (by omega) (by omega)).mono ?_; rw [HC.out]; rintro e w' ⟨rfl, rfl⟩)
      go_roundw
      case rel => exact ⟨n + 1, by omega, by omega, by go_num, trivial⟩
      case measure => simp [intOf]; omega
    · obtain rfl : n = k := by omega
      have HC := Lib.hid (show decide (Nat.gcd n m ≠ 1) = false from by rw [decide_eq_false_iff_not, ← HM.out.2]; simpa using HKG.out)
      go_wp2_with (go_at_call 188; refine (rcommon_any n m _ hn2 (by omega) (by omega)).mono ?_; rw [HC.out]; rintro e w' ⟨rfl, rfl⟩)
      go_ret
      exact ⟨rfl, rfl⟩
set_option maxRecDepth 100000 in
set_option maxHeartbeats 4000000 in
theorem rconst_any (p : Int) (r i : Nat) (w : World) (hp : 2 ≤ p) (hp2 : p ≤ 2147483647) (hr : r < 8) (hi : i < 8) :
    Calls Tryz.prog 175 #[.int .i64 p, .int .i64 r, .int .i64 i] w fun e w' => e = .returned (.int .i64 (cstP p r i)) ∧ w = w' := by
  have hr2 : ¬ (7 : Int) < r := by omega
  have hi2 : ¬ (7 : Int) < i := by omega
  have hr3 : (r : Int) ≤ 7 := by omega
  have hi3 : (i : Int) ≤ 7 := by omega
  go_enter Tryz.func175, Tryz.ntmps175
  go_wp2_with (first | (go_at_call 101; refine (rpow_any p _ 5 _ hp hp2 (by omega)).mono ?_; rintro e w' ⟨rfl, rfl⟩) | (go_at_call 110; refine (radd_any _ _ _ _ hp hp2).mono ?_; rintro e w' ⟨rfl, rfl⟩))
  go_ret
  exact ⟨rfl, rfl⟩
end Go.Proofs.YtcpnidomdkaefaaGreatDoor
end
section
namespace Go.Proofs.YtcpnidomdkaefaaGreatDoor
open Go.RowKit Go.Att
theorem row8_kept {W : World} {b q : Nat} {cs : List Value} {t : TypeId} (h : BlkOf W b cs t) (hne : some b ≠ some q) (a0 a1 a2 a3 a4 a5 a6 a7 : Int) :
    BlkOf ((((((((W.setCell ⟨q, 0, none⟩ (.int .i64 a0)).setCell ⟨q, 1, none⟩ (.int .i64 a1)).setCell ⟨q, 2, none⟩ (.int .i64 a2)).setCell ⟨q, 3, none⟩ (.int .i64 a3)).setCell ⟨q, 4, none⟩ (.int .i64 a4)).setCell ⟨q, 5, none⟩ (.int .i64 a5)).setCell ⟨q, 6, none⟩ (.int .i64 a6)).setCell ⟨q, 7, none⟩ (.int .i64 a7)) b cs t :=
  (((((((h.grown (setCell_grown _ _ _ _) hne).grown (setCell_grown _ _ _ _) hne).grown (setCell_grown _ _ _ _) hne).grown (setCell_grown _ _ _ _) hne).grown (setCell_grown _ _ _ _) hne).grown (setCell_grown _ _ _ _) hne).grown (setCell_grown _ _ _ _) hne).grown (setCell_grown _ _ _ _) hne
section
variable {w : World} {b bf k : Nat} {p g rt : Int} {fs : List Int}
set_option maxRecDepth 100000 in
set_option maxHeartbeats 8000000 in
theorem permuted_any (hs : SpB w b (.pointer (some ⟨bf, 0, none⟩)) k rt (fun r j => finv p ((r : Int) + j + 8))) (hf : Fld w (.pointer (some ⟨bf, 0, none⟩)) p g fs) (hk : (k : Int) ≤ 9223372036854775807) (x : List Int) (hl : x.length = 8) :
    Calls Tryz.prog 66 #[.pointer (some ⟨b, 0, none⟩), st8 x] w (Gives w fun u _ => u = st8 (permP p k x 8)) := by
  have HF := Lib.hid hf; have HS := Lib.hid hs
  have HL0 := Lib.hid hl
  clear hf hs hl
  unfold st8
  go_enter Tryz.func66, Tryz.ntmps66
  go_wp2_with fail
  obtain ⟨W0, hW0⟩ : ∃ W0, W0 = ((w.alloc (Obj.cells #[.int .i64 (nth x 0), .int .i64 (nth x 1), .int .i64 (nth x 2), .int .i64 (nth x 3), .int .i64 (nth x 4), .int .i64 (nth x 5), .int .i64 (nth x 6), .int .i64 (nth x 7)] 104)).alloc (Obj.cells #[.int .i64 0, .int .i64 0, .int .i64 0, .int .i64 0, .int .i64 0, .int .i64 0, .int .i64 0, .int .i64 0] 104)) := ⟨_, rfl⟩
  rw [← hW0]
  have HX0 := Lib.hid (show Ext w W0 from by rw [hW0]; exact (Ext.alloc w _).trans (Ext.alloc _ _))
  have HBX := Lib.hid (show BlkOf W0 w.heap.size (c8 (permP p k x 0)) 104 from by rw [hW0]; exact (BlkOf.new w (c8 x) 104).ext (Ext.alloc _ _))
  have HBR := Lib.hid (show BlkOf W0 (w.heap.size + 1) (c8 (List.replicate 8 0)) 104 from by rw [hW0]; have h := (BlkOf.new (w.alloc (Obj.cells (c8 x).toArray 104)) (c8 (List.replicate 8 0)) 104); rw [show (w.alloc (Obj.cells (c8 x).toArray 104)).heap.size = w.heap.size + 1 from by simp] at h; exact h)
  clear hW0
  go_loopw [5, 6, 7, 10] (fun _ _ x7 _ wr => ∃ r : Nat, r ≤ 8 ∧ x7 = .int .i64 r ∧ Hid (BlkOf wr w.heap.size (c8 (permP p k x r)) 104) ∧ Hid (BlkOf wr (w.heap.size + 1) (c8 (List.replicate 8 0)) 104) ∧ Hid (Ext w wr)) (fun _ _ x7 _ _ => 8 - (intOf x7).toNat)
  case atStart => exact ⟨0, by omega, rfl, HBX, HBR, HX0⟩
  case round =>
    clear HBX HBR HX0
    obtain ⟨r, hr, rfl, HBX, HBR, HX⟩ := hrel
    by_cases hr8 : r < 8
    · have hr88 : (r : Int) < 8 := by omega
      have HLX := Lib.hid (permP_length p k HL0.out r)
      have HSX := Lib.hid (show permP p k x (r + 1) = mixT p (powP p k r (permP p k x r)) from rfl)
      generalize permP p k x r = X at *
      have HBX0 := Lib.hid (show BlkOf wr w.heap.size (c8 (powU p k r X 0)) 104 from by rw [powU_zero p k r X HLX.out]; exact HBX.out)
      clear HBX
      go_wp2_with fail
      go_loopw [6, 10] (fun _ x10 wq => ∃ i : Nat, i ≤ 8 ∧ x10 = .int .i64 i ∧ Hid (BlkOf wq w.heap.size (c8 (powU p k r X i)) 104) ∧ Hid (BlkOf wq (w.heap.size + 1) (c8 (List.replicate 8 0)) 104) ∧ Hid (Ext w wq)) (fun _ x10 _ => 8 - (intOf x10).toNat)
      case atStart => exact ⟨0, by omega, rfl, HBX0, HBR, HX⟩
      case round =>
        clear HBX0 HBR HX
        obtain ⟨i, hi, rfl, HBX, HBR, HX⟩ := hrel
        by_cases hi8 : i < 8
        · have hi88 : (i : Int) < 8 := by omega
          have hp1 := fun w' => ptr8 w.heap.size 0 i hi8 w'
          simp only [Nat.zero_add] at hp1
          have d1 : wr.cell? ⟨w.heap.size, i, none⟩ = some (.int .i64 (nth (powU p k r X i) i)) := (HBX.out.cell i).trans (c8_at _ i hi8)
          rw [powU_nth p k r X i hi8, if_neg (by omega)] at d1
          have d3 := HBX.out.free i
          have HSW := Lib.hid (HS.out.ext HX.out)
          have d0 := HSW.out.c0
          have dk := HSW.out.c1
          have HFW := Lib.hid (HF.out.ext HX.out)
          have HST := Lib.hid (powU_set p k r X i hi8 _ rfl)
          have HC8 := Lib.hid (fun v => c8_set (powU p k r X i) i v (powU_length p k r X i) hi8)
          generalize nth X i = xi at *
          have CC := fun m => constant_any (HSW.out.ext (Ext.drewN wr m)) (HFW.out.drewN m) r i hr8 hi8
          generalize cstP p r i = ci at *
          go_wp2_with fail
          refine wp_region_quiet_tail 23 (by kernel_rfl) (by kernel_rfl) ?_
          simp only [List.take_succ_cons, List.take_zero, List.drop_succ_cons, List.drop_zero]
          repeat (go_big_quiet_step (first | (go_at_call 42; exact pow_q HFW.out _ _ (by omega) (by omega) _) | (go_at_call 65; exact add_q HFW.out _ _ _) | (go_at_call 119; exact Calls.quiet_of (CC _))))
          refine wpQuiet_nil ?_
          rintro _ ⟨nq, rfl⟩
          have HX5 := Lib.hid (HX.out.trans (Ext.drewN wr nq))
          have HBX5 := Lib.hid (HBX.out.ext (Ext.drewN wr nq))
          have HBR5 := Lib.hid (HBR.out.ext (Ext.drewN wr nq))
          clear hp1 d0 dk HX HBX HBR CC
          go_wp2_with fail
          go_roundw
          case rel => exact ⟨i + 1, by omega, by go_num, Lib.hid (by have h := HBX5.out.set i (.int .i64 (fpow p (fadd p xi ci) k)); rw [HC8.out, HST.out] at h; exact h), Lib.hid (HBR5.out.grown (setCell_grown _ _ _ _) (by simp)), Lib.hid (Below.setCell HX5.out (Nat.le_refl _) _)⟩
          case measure => simp [intOf]; omega
        · obtain rfl : i = 8 := by omega
          obtain ⟨m0, m1, m2, m3, m4, m5, m6, m7⟩ := blk8 HBX.out
          have HSW := Lib.hid (HS.out.ext HX.out)
          have HFW := Lib.hid (HF.out.ext HX.out)
          go_wp2_with fail
          refine wp_region_quiet_tail 5 (by kernel_rfl) (by kernel_rfl) ?_
          simp only [List.take_succ_cons, List.take_zero, List.drop_succ_cons, List.drop_zero]
          repeat (go_big_quiet_step (fail))
          refine wpQuiet_nil ?_
          rintro _ ⟨nq, rfl⟩
          have HX5 := Lib.hid (HX.out.trans (Ext.drewN wr nq))
          have HBX5 := Lib.hid (HBX.out.ext (Ext.drewN wr nq))
          have HBR5 := Lib.hid (HBR.out.ext (Ext.drewN wr nq))
          have HS5 := Lib.hid (HSW.out.ext (Ext.drewN wr nq))
          have HF5 := Lib.hid (HFW.out.drewN nq)
          clear m0 m1 m2 m3 m4 m5 m6 m7 HX HBX HBR HSW HFW
          generalize World.drewN wr nq = W5 at *
          go_wp2_with (go_at_call 120; refine (times_any HS5.out.c0 HF5.out HS5.out.mx (powU p k r X 8)).mono ?_; rw [mixU_all, powU_all]; rintro e w8 ⟨v8, rfl, hx8, rfl⟩; unfold st8; have HX8 := Lib.hid (HX5.out.trans hx8); have HBX8 := Lib.hid (HBX5.out.ext hx8); have HBR8 := Lib.hid (HBR5.out.ext hx8); obtain ⟨n0, n1, n2, n3, n4, n5, n6, n7⟩ := blk8 HBX8.out; have s0 := HBX8.out.free 0; have s1 := HBX8.out.free 1; have s2 := HBX8.out.free 2; have s3 := HBX8.out.free 3; have s4 := HBX8.out.free 4; have s5 := HBX8.out.free 5; have s6 := HBX8.out.free 6; have s7 := HBX8.out.free 7; clear hx8)
          generalize hY : mixT p (powP p k r X) = Y at *
          obtain ⟨hb, hx⟩ := at_row8 HBX8.out (nth Y 0) (nth Y 1) (nth Y 2) (nth Y 3) (nth Y 4) (nth Y 5) (nth Y 6) (nth Y 7) (Nat.le_refl _) HX8.out
          have hn := row8_kept HBR8.out (q := w.heap.size) (by simp) (nth Y 0) (nth Y 1) (nth Y 2) (nth Y 3) (nth Y 4) (nth Y 5) (nth Y 6) (nth Y 7)
          go_roundw
          case rel => exact ⟨r + 1, by omega, by go_num, Lib.hid (by rw [HSX.out]; exact hb), Lib.hid hn, Lib.hid hx⟩
          case measure => simp [intOf]; omega
    · obtain rfl : r = 8 := by omega
      obtain ⟨m0, m1, m2, m3, m4, m5, m6, m7⟩ := blk8 HBX.out
      obtain ⟨r0, r1, r2, r3, r4, r5, r6, r7⟩ := blk8 HBR.out
      have s0 := HBR.out.free 0
      have s1 := HBR.out.free 1
      have s2 := HBR.out.free 2
      have s3 := HBR.out.free 3
      have s4 := HBR.out.free 4
      have s5 := HBR.out.free 5
      have s6 := HBR.out.free 6
      have s7 := HBR.out.free 7
      go_wp2_with fail
      obtain ⟨hb, hx⟩ := at_row8 HBR.out (nth (permP p k x 8) 0) (nth (permP p k x 8) 1) (nth (permP p k x 8) 2) (nth (permP p k x 8) 3) (nth (permP p k x 8) 4) (nth (permP p k x 8) 5) (nth (permP p k x 8) 6) (nth (permP p k x 8) 7) (by omega) HX.out
      refine bodyPost_ret (results_cell_row rfl _ _ (w.heap.size + 1) 104 _ _ _ rfl hb Tryz.underlying104 rfl (by kernel_rfl)) rfl ?_
      exact .mk _ rfl hx rfl
end
end Go.Proofs.YtcpnidomdkaefaaGreatDoor
end
section
namespace Go.Att
open Go.RowKit
/-- All are elements. -/
def Els (p : Int) (x : List Int) : Prop := ∀ i, i < x.length → 0 ≤ nth x i ∧ nth x i < p
theorem dot_bd {p : Int} (hp : 2 ≤ p) (f : Nat → Int) (j : Nat) : 0 ≤ dotP p f j ∧ dotP p f j < p := by
  cases j with
  | zero => simp [dotP]; omega
  | succ j => exact fadd_bd hp _ _
theorem els_mix {p : Int} (hp : 2 ≤ p) (x : List Int) : Els p (mixT p x) := fun i hi => by
  rw [mixT_length] at hi
  rw [mixT_nth p x hi]; exact dot_bd hp _ _
theorem els_perm {p : Int} (hp : 2 ≤ p) (k : Nat) {x : List Int} (h : Els p x) (r : Nat) : Els p (permP p k x r) := by
  cases r with
  | zero => exact h
  | succ r => exact els_mix hp _
theorem els_map {p : Int} (hp : 2 ≤ p) (x : List Int) : Els p (x.map (fof p)) := fun i hi => by
  rw [nth_eq hi, List.getElem_map]; exact fof_bd hp _
theorem els_fof {p : Int} {x : List Int} (h : Els p x) : x.map (fof p) = x := by
  apply List.ext_getElem (by simp)
  intro i h1 h2
  have := h i h2
  rw [nth_eq h2] at this
  rw [List.getElem_map]
  exact Int.emod_eq_of_lt this.1 this.2
theorem take_map_snoc (l : List Int) (i : Nat) (h : i < l.length) : (l.take (i + 1)).map (Value.int .i64) = (l.take i).map (Value.int .i64) ++ [.int .i64 (nth l i)] := by
  rw [List.take_succ_eq_append_getElem h, List.map_append, ← nth_eq]; rfl
theorem set_map (l : List Int) (i : Nat) (h : i < l.length) (x : Int) : (l.map (Value.int .i64)).take (i * 1) ++ (Value.cells (.int .i64 x)).toList ++ (l.map (Value.int .i64)).drop (i * 1 + 1) = (l.set i x).map (Value.int .i64) := by
  rw [set_mid h]
end Go.Att
namespace Go.Proofs.YtcpnidomdkaefaaGreatDoor
open Go.RowKit Go.Att
set_option maxHeartbeats 1000000 in
theorem rallO_any (p : Int) (v : Value) (l : List Int) (w : World) (hv : Ints w v l) (hp : 2 ≤ p) (hp2 : p ≤ 2147483647) (hs : l.length ≤ 4294967295) :
    Calls Tryz.prog 133 #[.int .i64 p, v] w (Gives w fun v' w' => w'.ownsRow w.heap.size 3 1 v' l.length ((l.map (fof p)).map (Value.int .i64))) := by
  have hl := hv.run_len (P := Tryz.prog) slInts
  have HV := Lib.hid hv; clear hv
  go_enter Tryz.func133, Tryz.ntmps133
  go_wp2
  go_loopw [5, 6] (fun x5 x6 wr => ∃ i : Nat, x6 = .int .i64 i ∧ i ≤ l.length ∧ wr.ownsRow w.heap.size 3 1 x5 i (((l.take i).map (fof p)).map (Value.int .i64)) ∧ Ext w wr) (fun _ x6 _ => l.length - (intOf x6).toNat)
  case atStart => exact ⟨0, rfl, Nat.zero_le _, World.ownsRow_nil _ _ _ _, Ext.refl _⟩
  case round =>
    obtain ⟨i, rfl, hi1, HO, HX⟩ := hrel
    by_cases hlt : i < l.length
    · have hix := HV.out.run_index (P := Tryz.prog) slInts i hlt
      have hcell := (HV.out.ext HX).cell i hlt
      go_wp2_with (first | (go_at_call 47; refine (rof_any _ _ _ hp hp2).mono ?_; rintro e w' ⟨rfl, rfl⟩) | (at_builtin; refine wpList_app1 rfl _ _ 22 rfl slInts rfl HX HO rfl _ rfl rfl (by omega) (by omega) ?_; intro v' w1 HO' HX' _))
      go_roundw
      case rel => exact ⟨i + 1, by go_num, by omega, by rw [take_snoc_map _ hlt]; simpa using HO', HX'⟩
      case measure => simp [intOf]; omega
    · obtain rfl : i = l.length := by omega
      go_wp2_with fail
      go_ret
      exact .mk _ rfl HX (by rw [List.take_length] at HO; exact HO)
set_option maxRecDepth 100000 in
set_option maxHeartbeats 4000000 in
theorem rmix_any (p : Int) (v : Value) (x : List Int) (w : World) (hp : 2 ≤ p) (hp2 : p ≤ 2147483647) (hv : Ints w v x) (hl : x.length = 8) :
    Calls Tryz.prog 176 #[.int .i64 p, v] w (Gives w fun u w' => w'.ownsRow w.heap.size 3 1 u 8 ((mixT p x).map (Value.int .i64))) := by
  have HV := Lib.hid hv; have HL := Lib.hid hl
  clear hv hl
  go_enter Tryz.func176, Tryz.ntmps176
  go_wp2_with fail
  go_loopw [5, 6, 7, 8, 9] (fun x5 x6 _ _ _ wr => ∃ i : Nat, i ≤ 8 ∧ x6 = .int .i64 i ∧ wr.ownsRow w.heap.size 3 1 x5 i (((mixT p x).take i).map (Value.int .i64)) ∧ Ext w wr) (fun _ x6 _ _ _ _ => 8 - (intOf x6).toNat)
  case atStart => exact ⟨0, by omega, rfl, World.ownsRow_nil _ _ _ _, Ext.refl _⟩
  case round =>
    obtain ⟨i, hi, rfl, HO, HX⟩ := hrel
    by_cases hi8 : i < 8
    · have HOH := Lib.hid HO; have HXH := Lib.hid HX
      have ST := Lib.hid (mixT_snoc p x i hi8)
      have hi88 : (i : Int) < 8 := by omega
      clear HO HX
      go_wp2_with fail
      generalize wr = w9 at *
      go_loopw [7, 8, 9] (fun x7 x8 _ wq => ∃ j : Nat, j ≤ 8 ∧ x8 = .int .i64 j ∧ x7 = .int .i64 (dotP p (fun j => fmul p (finv p ((i : Int) + j + 8)) (nth x j)) j) ∧ wq = w9) (fun _ x8 _ _ => 8 - (intOf x8).toNat)
      case atStart => exact ⟨0, by omega, rfl, rfl, rfl⟩
      case round =>
        obtain ⟨j, hj, rfl, rfl, rfl⟩ := hrel
        by_cases hj8 : j < 8
        · have hix := HV.out.run_index (P := Tryz.prog) slInts j (by rw [HL.out]; exact hj8)
          have hc := (HV.out.ext HXH.out).cell j (by rw [HL.out]; exact hj8)
          have hj88 : (j : Int) < 8 := by omega
          have hb := dot_bd hp (fun j => fmul p (finv p ((i : Int) + j + 8)) (nth x j)) j
          have HS := Lib.hid (show dotP p (fun j => fmul p (finv p ((i : Int) + j + 8)) (nth x j)) (j + 1) = fadd p (dotP p (fun j => fmul p (finv p ((i : Int) + j + 8)) (nth x j)) j) (fmul p (finv p ((i : Int) + j + 8)) (nth x j)) from rfl)
          generalize dotP p (fun j => fmul p (finv p ((i : Int) + j + 8)) (nth x j)) j = S at *
          generalize nth x j = xj at *
          have HD := Lib.hid (dot_step p S 0 xj ((i : Int) + j + 8) hb)
          have hY := fdiv_bd hp xj ((i : Int) + j + 8)
          have hw1 : IntKind.i64.wrap (S + fdiv p xj ((i : Int) + j + 8)) = S + fdiv p xj ((i : Int) + j + 8) := IntWalk.i64_in _ (by omega)
          have hq : (S + fdiv p xj ((i : Int) + j + 8)).tmod p = (S + fdiv p xj ((i : Int) + j + 8)) % p := Int.tmod_eq_emod_of_nonneg (by omega)
          go_wp2_with (go_at_call 189; refine (rdiv_any _ _ _ _ hp hp2).mono ?_; rintro e w' ⟨rfl, rfl⟩)
          go_roundw
          case rel => exact ⟨j + 1, by omega, by go_num, by rw [HS.out, ← HD.out], trivial⟩
          case measure => simp [intOf]; omega
        · obtain rfl : j = 8 := by omega
          generalize dotP p (fun j => fmul p (finv p ((i : Int) + j + 8)) (nth x j)) 8 = S at *
          have HXo := HXH.out
          have HOo := HOH.out
          go_wp2_with (at_builtin; refine wpList_app1 rfl _ _ 22 rfl slInts rfl HXo HOo rfl _ rfl rfl (by omega) (by omega) ?_; intro v' w2 HO2 HX2 _)
          go_roundw
          case rel => exact ⟨i + 1, by omega, by go_num, by rw [ST.out]; exact HO2, HX2⟩
          case measure => simp [intOf]; omega
    · obtain rfl : i = 8 := by omega
      go_wp2_with fail
      go_ret
      exact .mk _ rfl HX (by rw [List.take_of_length_le (by rw [mixT_length]; exact Nat.le_refl _)] at HO; exact HO)
end Go.Proofs.YtcpnidomdkaefaaGreatDoor
end
