/- WholeBatches: ONE WORD OF ANY WORDS: the law's walk: for every input it returns true and leaves all that was there as it was. -/
import Derived.Test.YthjemncbphdomaaDoorH6
import Derived.Test.YthjemncbphdomaaDoorF7
namespace Go.Att
open Go.RowKit
def batBadUp (n : Int) (l1 : List Int) (L : List (List Int)) (j : Nat) : Bool := decide (n < 8) || ((l1.length : Int) != n) || !fitB n (L.take j)
theorem batBadUp_zero (n : Int) (l1 : List Int) (L : List (List Int)) : batBadUp n l1 L 0 = (decide (n < 8) || ((l1.length : Int) != n)) := by simp [batBadUp, fitB]
theorem batBadUp_succ (n : Int) (l1 : List Int) {L : List (List Int)} {j : Nat} (h : j < L.length) : batBadUp n l1 L (j + 1) = (batBadUp n l1 L j || (((nthL L j).length : Int) != n)) := by
  unfold batBadUp fitB
  rw [List.take_succ_eq_append_getElem h, ← nthL_eq h, List.all_append]
  simp only [List.all_cons, List.all_nil, Bool.and_true, Bool.not_and, Bool.or_assoc]
  rfl
/-- The document's word at a place is the program's. -/
theorem batchAt_eq (p n sh r g : Int) (first : List Int) (L : List (List Int)) (i : Nat) (h2 : twoB n = true) (h8 : 8 ≤ n) : batched p (nth first i) g (ptAt p sh r i ^ (3 * (n / 8)).toNat) (col L i) = batchAt p n sh r g first L i := by
  unfold batchAt
  simp only [twoB, twoUp, List.any_eq_true, List.mem_range, beq_iff_eq] at h2
  obtain ⟨k, hk, rfl⟩ := h2
  have h3 : 3 ≤ k := by
    apply Classical.byContradiction
    intro hc
    have : k = 0 ∨ k = 1 ∨ k = 2 := by omega
    rcases this with rfl | rfl | rfl <;> simp at h8
  obtain ⟨m, rfl⟩ : ∃ m, k = m + 3 := ⟨k - 3, by omega⟩
  rw [Int.pow_add]
  have : (2 : Int) ^ 3 = 8 := by decide
  rw [this]
  congr 3
  omega
end Go.Att
namespace Go.Proofs.YthjemncbphdomaaDoor
open Go.RowKit Go.Att

set_option maxRecDepth 100000 in
set_option maxHeartbeats 4000000 in
theorem wholeBatches_bad (p : Int) (n sh g : Int) (v1 v2 : Value) (w : World) (h : ¬ okP p) (hg : Hnd w) :
    Calls Tryd.prog 5 #[.int .i64 p, .int .i64 n, .int .i64 sh, v1, v2, .int .i64 g] w fun e w' => e = .returned (.bool true) ∧ Ext w w' := by
  have H := Lib.hid h; have HG := Lib.hid hg; clear h hg
  go_enter Tryd.func5, Tryd.ntmps5
  go_wp2_with (go_at_call 13; refine (sfield_bad _ _ H.out HG.out).mono ?_; rintro e w' ⟨v, rfl, hx, rfl⟩)
  go_ret
  exact ⟨rfl, hx⟩

set_option maxRecDepth 100000 in
set_option maxHeartbeats 4000000 in
theorem wholeBatches_fault (p : Int) (n sh g : Int) (v1 v2 : Value) (w : World) (h : okP p) (hE : domErr p n sh ≠ 0) (hg : Hnd w) :
    Calls Tryd.prog 5 #[.int .i64 p, .int .i64 n, .int .i64 sh, v1, v2, .int .i64 g] w fun e w' => e = .returned (.bool true) ∧ Ext w w' := by
  have H := Lib.hid h; have HG := Lib.hid hg; have HE := Lib.hid hE; clear hg
  obtain ⟨hp, lo, hi⟩ := h
  clear hp
  have hb : (domErr p n sh != 0) = true := by rw [bne_iff_ne]; exact hE
  have hev := errv_pos hE
  clear hE
  go_enter Tryd.func5, Tryd.ntmps5
  go_wp2_with (first | (go_at_call 13; refine (sfield_ok _ _ H.out HG.out).mono ?_; rintro e w1 ⟨v, rfl, hx, f, g0, rfl, hf⟩; obtain ⟨bf, rfl⟩ := hf.ptr; obtain ⟨fs, hfs⟩ := hf.fld) | (go_at_call 25; refine (dnew_bad hfs _ _ HE.out).mono ?_; rw [hev]; rintro e w2 hrd; obtain ⟨rfl, hx2⟩ := hrd.ext; clear hrd) | (go_at_call 26; refine (rfault_any _ _ _ _ lo hi).mono ?_; rintro e w3 ⟨rfl, rfl⟩))
  go_ret
  exact ⟨rfl, hx.trans hx2⟩

set_option maxRecDepth 100000 in
set_option maxHeartbeats 4000000 in
theorem wholeBatches_ok (p : Int) (n sh g : Int) (v1 v2 : Value) (l1 : List Int) (L : List (List Int)) (w : World) (h : okP p) (hE : domErr p n sh = 0) (hg : Hnd w) (h1 : Ints w v1 l1) (h2 : Rws w v2 L) (hL : L.length ≤ 1048576) :
    Calls Tryd.prog 5 #[.int .i64 p, .int .i64 n, .int .i64 sh, v1, v2, .int .i64 g] w fun e w' => e = .returned (.bool true) ∧ Ext w w' := by
  obtain ⟨R, h2⟩ := h2
  have H := Lib.hid h; have HG := Lib.hid hg; have HE := Lib.hid hE
  obtain ⟨htwo, hdv, hsh0⟩ := domErr_ok hE
  have hbd := twoB_bd htwo
  have HT := Lib.hid htwo
  obtain ⟨hp, lo, hi⟩ := h
  have hp2 : 2 ≤ p := by omega
  have HP := Lib.hid hp
  have hshb := fof_bd hp2 sh
  have hb : (domErr p n sh != 0) = false := by rw [bne_eq_false_iff_eq]; exact hE
  have hl1 := h1.run_len (P := Tryd.prog) slInts
  have hl2 := h2.run_len (P := Tryd.prog) slRows
  have H1 := Lib.hid h1; have H2 := Lib.hid h2
  clear hE hg htwo hdv hsh0 hp h1 h2
  by_cases hbad : batBad n l1 L = true
  · have HB := Lib.hid hbad; clear hbad
    by_cases hn8 : n < 8
    · go_enter Tryd.func5, Tryd.ntmps5
      go_wp2_with (first | (go_at_call 13; refine (sfield_ok _ _ H.out HG.out).mono ?_; rintro e w1 ⟨v, rfl, hx, f, g0, rfl, hf⟩; obtain ⟨bf, rfl⟩ := hf.ptr; obtain ⟨fs, hfs⟩ := hf.fld; have HF := Lib.hid hf; have HFS := Lib.hid hfs; clear hf hfs) | (go_at_call 25; refine (dnew_ok HF.out _ _ HE.out).mono ?_; rintro e w2 ⟨v, rfl, hx2, d, rfl, hd⟩; obtain ⟨bd, rfl⟩ := hd.ptr; have HD := Lib.hid hd; clear hd) | (go_at_call 26; refine (rfault_any _ _ _ _ lo hi).mono ?_; rintro e w3 ⟨rfl, rfl⟩) | (go_at_call 27; refine (r2new_any _ g0 _ _ _ HP.out lo hi HF.out.gen HF.out.least HF.out.lo HF.out.hi HE.out).mono ?_; rintro e w4 ⟨v, rfl, hx4, rfl⟩) | (go_at_call 28; have hx5 := (hx.trans hx2).trans (hx4.trans (Ext.alloc w4 (Obj.cells #[.int .i64 p, .int .i64 n, .int .i64 (fof p sh), .int .i64 (froot p g0 n)] 59))); refine (batch_bad (HD.out.ext (hx4.trans (Ext.alloc _ _))) v1 v2 l1 L R (H1.out.ext hx5) (H2.out.ext hx5) HB.out).mono ?_; rintro e w6 ⟨rfl, hx6⟩; replace hx6 := hx5.trans hx6; clear hx hx2 hx4 hx5))
      go_loop [20, 21] (fun x20 x21 => ∃ j : Nat, j ≤ L.length ∧ x21 = .int .i64 j ∧ x20 = .bool (batBadUp n l1 L j)) (fun _ x21 => L.length - (intOf x21).toNat)
      case atStart => exact ⟨0, Nat.zero_le _, rfl, by simp [batBadUp_zero, hn8]⟩
      case round =>
        obtain ⟨j, hj, rfl, rfl⟩ := hrel
        by_cases hjl : j < L.length
        · have hix := H2.out.run_index (P := Tryd.prog) slRows j hjl
          have hc := (H2.out.ext hx6).cell j hjl
          have hrow := (H2.out.ext hx6).row j hjl
          have hll := hrow.run_len (P := Tryd.prog) slInts
          have hs := Lib.hid (batBadUp_succ n l1 hjl)
          clear hrow
          generalize batBadUp n l1 L j = B at *
          cases B
          · go_wp2_with fail
            go_round
            case rel => exact ⟨j + 1, by omega, by go_num, by rw [hs.out, Bool.false_or]⟩
            case measure => simp [intOf]; omega
          · go_wp2_with fail
            go_round
            case rel => exact ⟨j + 1, by omega, by go_num, by rw [hs.out, Bool.true_or]⟩
            case measure => simp [intOf]; omega
        · obtain rfl : j = L.length := by omega
          have hfin : batBadUp n l1 L L.length = true := by have := HB.out; unfold batBad at this; unfold batBadUp; rw [List.take_length]; exact this
          rw [hfin]
          go_wp2_with (go_at_call 24; refine (error_any 2 2 _ (HG.out.ext hx6)).mono ?_; rintro e w7 ⟨rfl, hx7⟩)
          go_ret
          exact ⟨rfl, hx6.trans hx7⟩
    · go_enter Tryd.func5, Tryd.ntmps5
      go_wp2_with (first | (go_at_call 13; refine (sfield_ok _ _ H.out HG.out).mono ?_; rintro e w1 ⟨v, rfl, hx, f, g0, rfl, hf⟩; obtain ⟨bf, rfl⟩ := hf.ptr; obtain ⟨fs, hfs⟩ := hf.fld; have HF := Lib.hid hf; have HFS := Lib.hid hfs; clear hf hfs) | (go_at_call 25; refine (dnew_ok HF.out _ _ HE.out).mono ?_; rintro e w2 ⟨v, rfl, hx2, d, rfl, hd⟩; obtain ⟨bd, rfl⟩ := hd.ptr; have HD := Lib.hid hd; clear hd) | (go_at_call 26; refine (rfault_any _ _ _ _ lo hi).mono ?_; rintro e w3 ⟨rfl, rfl⟩) | (go_at_call 27; refine (r2new_any _ g0 _ _ _ HP.out lo hi HF.out.gen HF.out.least HF.out.lo HF.out.hi HE.out).mono ?_; rintro e w4 ⟨v, rfl, hx4, rfl⟩) | (go_at_call 28; have hx5 := (hx.trans hx2).trans (hx4.trans (Ext.alloc w4 (Obj.cells #[.int .i64 p, .int .i64 n, .int .i64 (fof p sh), .int .i64 (froot p g0 n)] 59))); refine (batch_bad (HD.out.ext (hx4.trans (Ext.alloc _ _))) v1 v2 l1 L R (H1.out.ext hx5) (H2.out.ext hx5) HB.out).mono ?_; rintro e w6 ⟨rfl, hx6⟩; replace hx6 := hx5.trans hx6; clear hx hx2 hx4 hx5))
      go_loop [20, 21] (fun x20 x21 => ∃ j : Nat, j ≤ L.length ∧ x21 = .int .i64 j ∧ x20 = .bool (batBadUp n l1 L j)) (fun _ x21 => L.length - (intOf x21).toNat)
      case atStart => exact ⟨0, Nat.zero_le _, rfl, by simp [batBadUp_zero, hn8]⟩
      case round =>
        obtain ⟨j, hj, rfl, rfl⟩ := hrel
        by_cases hjl : j < L.length
        · have hix := H2.out.run_index (P := Tryd.prog) slRows j hjl
          have hc := (H2.out.ext hx6).cell j hjl
          have hrow := (H2.out.ext hx6).row j hjl
          have hll := hrow.run_len (P := Tryd.prog) slInts
          have hs := Lib.hid (batBadUp_succ n l1 hjl)
          clear hrow
          generalize batBadUp n l1 L j = B at *
          cases B
          · go_wp2_with fail
            go_round
            case rel => exact ⟨j + 1, by omega, by go_num, by rw [hs.out, Bool.false_or]⟩
            case measure => simp [intOf]; omega
          · go_wp2_with fail
            go_round
            case rel => exact ⟨j + 1, by omega, by go_num, by rw [hs.out, Bool.true_or]⟩
            case measure => simp [intOf]; omega
        · obtain rfl : j = L.length := by omega
          have hfin : batBadUp n l1 L L.length = true := by have := HB.out; unfold batBad at this; unfold batBadUp; rw [List.take_length]; exact this
          rw [hfin]
          go_wp2_with (go_at_call 24; refine (error_any 2 2 _ (HG.out.ext hx6)).mono ?_; rintro e w7 ⟨rfl, hx7⟩)
          go_ret
          exact ⟨rfl, hx6.trans hx7⟩
  · have hbad2 : batBad n l1 L = false := by simpa using hbad
    have HB := Lib.hid hbad2; clear hbad
    have hn8 : ¬ n < 8 := by unfold batBad at hbad2; simp only [Bool.or_eq_false_iff, decide_eq_false_iff_not] at hbad2; exact hbad2.1.1
    have hl1n : ((l1.length : Int) != n) = false := by unfold batBad at hbad2; simp only [Bool.or_eq_false_iff] at hbad2; exact hbad2.1.2
    clear hbad2
    obtain ⟨n', rfl⟩ := Int.eq_ofNat_of_zero_le (show 0 ≤ n by omega)
    go_enter Tryd.func5, Tryd.ntmps5
    go_wp2_with (first | (go_at_call 13; refine (sfield_ok _ _ H.out HG.out).mono ?_; rintro e w1 ⟨v, rfl, hx, f, g0, rfl, hf⟩; obtain ⟨bf, rfl⟩ := hf.ptr; obtain ⟨fs, hfs⟩ := hf.fld; have HF := Lib.hid hf; have HFS := Lib.hid hfs; clear hf hfs) | (go_at_call 25; refine (dnew_ok HF.out _ _ HE.out).mono ?_; rintro e w2 ⟨v, rfl, hx2, d, rfl, hd⟩; obtain ⟨bd, rfl⟩ := hd.ptr; have HD := Lib.hid hd; clear hd) | (go_at_call 26; refine (rfault_any _ _ _ _ lo hi).mono ?_; rintro e w3 ⟨rfl, rfl⟩) | (go_at_call 27; refine (r2new_any _ g0 _ _ _ HP.out lo hi HF.out.gen HF.out.least HF.out.lo HF.out.hi HE.out).mono ?_; rintro e w4 ⟨v, rfl, hx4, rfl⟩) | (go_at_call 28; have hx5 := (hx.trans hx2).trans (hx4.trans (Ext.alloc w4 (Obj.cells #[.int .i64 p, .int .i64 n', .int .i64 (fof p sh), .int .i64 (froot p g0 n')] 59))); have e0 := cell_new w4 #[.int .i64 p, .int .i64 n', .int .i64 (fof p sh), .int .i64 (froot p g0 n')] 59 0; have e1 := cell_new w4 #[.int .i64 p, .int .i64 n', .int .i64 (fof p sh), .int .i64 (froot p g0 n')] 59 1; have e2 := cell_new w4 #[.int .i64 p, .int .i64 n', .int .i64 (fof p sh), .int .i64 (froot p g0 n')] 59 2; have e3 := cell_new w4 #[.int .i64 p, .int .i64 n', .int .i64 (fof p sh), .int .i64 (froot p g0 n')] 59 3; refine (batch_ok (HD.out.ext (hx4.trans (Ext.alloc _ _))) (HFS.out.ext (hx2.trans (hx4.trans (Ext.alloc _ _)))) v1 v2 l1 L R (H1.out.ext hx5) (H2.out.ext hx5) HB.out hbd.2 hshb hL).mono ?_; rintro e w6 ⟨vv, rfl, hx6, u, rfl, hu⟩; have E0 := Lib.hid (hx6.cell e0); have E1 := Lib.hid (hx6.cell e1); have E2 := Lib.hid (hx6.cell e2); have E3 := Lib.hid (hx6.cell e3); clear e0 e1 e2 e3; replace hx6 := hx5.trans hx6; clear hx hx2 hx4 hx5; rw [Int.toNat_natCast] at hu; have HU := Lib.hid hu; have hlu := hu.run_len (P := Tryd.prog) slInts; rw [batchL_length] at hlu; clear hu))
    go_loop [20, 21] (fun x20 x21 => ∃ j : Nat, j ≤ L.length ∧ x21 = .int .i64 j ∧ x20 = .bool (batBadUp n' l1 L j)) (fun _ x21 => L.length - (intOf x21).toNat)
    case atStart => exact ⟨0, Nat.zero_le _, rfl, by simp only [batBadUp_zero, hl1n]; simp [hn8]⟩
    case round =>
      obtain ⟨j, hj, rfl, rfl⟩ := hrel
      by_cases hjl : j < L.length
      · have hix := H2.out.run_index (P := Tryd.prog) slRows j hjl
        have hc := (H2.out.ext hx6).cell j hjl
        have hrow := (H2.out.ext hx6).row j hjl
        have hll := hrow.run_len (P := Tryd.prog) slInts
        have hs := Lib.hid (batBadUp_succ n' l1 hjl)
        clear hrow
        generalize batBadUp n' l1 L j = B at *
        cases B
        · go_wp2_with fail
          go_round
          case rel => exact ⟨j + 1, by omega, by go_num, by rw [hs.out, Bool.false_or]⟩
          case measure => simp [intOf]; omega
        · go_wp2_with fail
          go_round
          case rel => exact ⟨j + 1, by omega, by go_num, by rw [hs.out, Bool.true_or]⟩
          case measure => simp [intOf]; omega
      · obtain rfl : j = L.length := by omega
        have hfin : batBadUp n' l1 L L.length = false := by have := HB.out; unfold batBad at this; unfold batBadUp; rw [List.take_length]; exact this
        rw [hfin]
        clear hfin hl1n
        have hlen1 : l1.length = n' := by have := HB.out; unfold batBad at this; simp only [Bool.or_eq_false_iff, bne_eq_false_iff_eq] at this; omega
        have hfit : fitB n' L = true := by have := HB.out; unfold batBad at this; simp only [Bool.or_eq_false_iff, Bool.not_eq_false'] at this; exact this.2
        have HL1 := Lib.hid hlen1; clear hlen1
        go_wp2_with fail
        go_loopw [23, 24, 25, 26, 27] (fun x23 _ _ _ _ wr => ∃ i : Nat, i ≤ n' ∧ x23 = .int .i64 i ∧ Ext w6 wr) (fun x23 _ _ _ _ _ => n' - (intOf x23).toNat)
        case atStart => exact ⟨0, Nat.zero_le _, rfl, Ext.refl _⟩
        case round =>
          obtain ⟨i, hi1, rfl, HX⟩ := hrel
          by_cases hin : i < n'
          · go_wp2_with fail
            go_loopw [24, 25] (fun x24 x25 ws => ∃ j : Nat, j ≤ L.length ∧ x25 = .int .i64 j ∧ ws.ownsRow wr.heap.size 3 1 x24 j ((col (L.take j) i).map (Value.int .i64)) ∧ Ext wr ws) (fun _ x25 _ => L.length - (intOf x25).toNat)
            case atStart => exact ⟨0, Nat.zero_le _, rfl, World.ownsRow_nil _ _ _ _, Ext.refl _⟩
            case round =>
              obtain ⟨j, hj2, rfl, HO2, HX2⟩ := hrel
              by_cases hjl2 : j < L.length
              · have hix2 := H2.out.run_index (P := Tryd.prog) slRows j hjl2
                have hc2 := (H2.out.ext ((hx6.trans HX).trans HX2)).cell j hjl2
                have hrow := (H2.out.ext ((hx6.trans HX).trans HX2)).row j hjl2
                have hil : i < (nthL L j).length := by have := fitB_nth hfit hjl2; omega
                have hix3 := hrow.run_index (P := Tryd.prog) slInts i hil
                have hc3 := hrow.cell i hil
                clear hil hrow
                go_wp2_with (at_builtin; refine wpList_app1 rfl _ _ 23 rfl slInts rfl HX2 HO2 rfl _ rfl rfl (by omega) (by omega) ?_; intro v' w7 HO3 HX3 _)
                go_roundw
                case rel => exact ⟨j + 1, by omega, by go_num, by rw [col_step i hjl2]; exact HO3, HX3⟩
                case measure => simp [intOf]; omega
              · obtain rfl : j = L.length := by omega
                rw [List.take_length] at HO2
                have hcol := Lib.hid (Ints.of_own HO2)
                have hcl : (col L i).length ≤ 1048576 := by rw [col_length]; exact hL
                have hx8 := (hx6.trans HX).trans HX2
                have hx9 := HX.trans HX2
                have d0 : wr.cell? ⟨w4.heap.size, 0, none⟩ = some (.int .i64 p) := hx9.cell E0.out
                have d1 : wr.cell? ⟨w4.heap.size, 1, none⟩ = some (.int .i64 n') := hx9.cell E1.out
                have d2 : wr.cell? ⟨w4.heap.size, 2, none⟩ = some (.int .i64 (fof p sh)) := hx9.cell E2.out
                have d3 : wr.cell? ⟨w4.heap.size, 3, none⟩ = some (.int .i64 (froot p g0 n')) := hx9.cell E3.out
                clear hx9
                have hi1 : i < l1.length := by rw [HL1.out]; exact hin
                have hix4 := H1.out.run_index (P := Tryd.prog) slInts i hi1
                have hc4 := (H1.out.ext hx8).cell i hi1
                have hiu : i < (batchL p n' (fof p sh) (froot p g0 n') g l1 L n').length := by rw [batchL_length]; exact hin
                have hix5 := HU.out.run_index (P := Tryd.prog) slInts i hiu
                have hc5 := (HU.out.ext (HX.trans HX2)).cell i hiu
                rw [batchL_nth _ _ _ _ _ _ _ hin] at hc5
                have EQ := Lib.hid (batchAt_eq p n' (fof p sh) (froot p g0 n') g l1 L i HT.out (by omega))
                clear hi1 hiu HO2
                go_wp2_with (first | (go_at_call 29; refine (rpoint_any _ _ _ _ i _ hp2 hi (by omega)).mono ?_; rintro e w9 ⟨rfl, hx9⟩; replace hc4 := hx9.cell hc4; replace hc5 := hx9.cell hc5) | (go_at_call 30; refine (rbatched_any _ _ _ _ _ _ (col L i) _ hp2 hi (hcol.out.ext hx9) hcl (by omega) (by omega)).mono ?_; rw [EQ.out]; rintro e w9' ⟨rfl, rfl⟩))
                go_roundw
                case rel => exact ⟨i + 1, by omega, by go_num, (HX.trans HX2).trans hx9⟩
                case measure => simp [intOf]; omega
          · obtain rfl : i = n' := by omega
            go_wp2_with fail
            go_ret
            exact ⟨rfl, hx6.trans HX⟩
end Go.Proofs.YthjemncbphdomaaDoor
