/- PledgeKeeps: WORDS THAT ARE NO CODEWORDS SHOW: the law's walk: for every input it returns true and leaves all that was there as it was. -/
import Derived.Test.YthlnjfnlhgnblaaDoorV3
import Derived.Test.YthlnjfnlhgnblaaDoorV5
import Derived.Test.YthlnjfnlhgnblaaDoorU7
import Derived.Test.YthlnjfnlhgnblaaDoorP7
namespace Go.Att
open Go.RowKit
def allB (F : Nat → Bool) (i : Nat) : Bool := (List.range i).all F
theorem allB_zero (F : Nat → Bool) : allB F 0 = true := rfl
theorem allB_succ (F : Nat → Bool) (i : Nat) : allB F (i + 1) = (allB F i && F i) := by unfold allB; rw [List.range_succ, List.all_append]; simp
theorem allB_true {F : Nat → Bool} {i : Nat} (h : allB F i = true) (j : Nat) (hj : j < i) : F j = true := by unfold allB at h; exact List.all_eq_true.1 h j (List.mem_range.2 hj)
theorem allB_false {F : Nat → Bool} {i : Nat} (h : allB F i = false) : ∃ j, j < i ∧ F j = false := by
  apply Classical.byContradiction
  intro hc
  have : allB F i = true := by
    unfold allB
    rw [List.all_eq_true]
    intro j hj
    cases hF : F j with
    | true => rfl
    | false => exact absurd ⟨j, List.mem_range.1 hj, hF⟩ hc
  rw [this] at h; cases h
theorem cntK_t {P : Nat → Bool} {n : Nat} (h : P n = true) : cntN P (n + 1) = cntN P n + 1 := by simp only [cntN]; rw [if_pos h]
theorem cntK_f {P : Nat → Bool} {n : Nat} (h : P n = false) : cntN P (n + 1) = cntN P n := by simp only [cntN]; rw [if_neg (by rw [h]; decide)]; rfl
/-- The rows {{1}, {1}}, built in place. -/
def litR (W : World) : Nat → Value := fun i => if i = 0 then .slice (some ⟨W.heap.size, 0, none⟩) 1 1 else .slice (some ⟨W.heap.size + 1, 0, none⟩) 1 1
theorem rws_lit11 (W : World) (ti tr : TypeId) : RwsAt (((W.alloc (Obj.cells #[.int .i64 1] ti)).alloc (Obj.cells #[.int .i64 1] ti)).alloc (Obj.cells #[.slice (some ⟨W.heap.size, 0, none⟩) 1 1, .slice (some ⟨W.heap.size + 1, 0, none⟩) 1 1] tr)) (.slice (some ⟨W.heap.size + 1 + 1, 0, none⟩) 2 2) [[1], [1]] (litR W) := by
  have s1 : (W.alloc (Obj.cells #[.int .i64 1] ti)).heap.size = W.heap.size + 1 := by simp
  have s2 : ((W.alloc (Obj.cells #[.int .i64 1] ti)).alloc (Obj.cells #[.int .i64 1] ti)).heap.size = W.heap.size + 1 + 1 := by simp
  have i0 := (ints_lit W 1 ti).ext ((Ext.alloc _ (Obj.cells #[.int .i64 1] ti)).trans (Ext.alloc _ (Obj.cells #[.slice (some ⟨W.heap.size, 0, none⟩) 1 1, .slice (some ⟨W.heap.size + 1, 0, none⟩) 1 1] tr)))
  have i1 := (ints_lit (W.alloc (Obj.cells #[.int .i64 1] ti)) 1 ti).ext (Ext.alloc _ (Obj.cells #[.slice (some ⟨W.heap.size, 0, none⟩) 1 1, .slice (some ⟨W.heap.size + 1, 0, none⟩) 1 1] tr))
  rw [s1] at i1
  refine ⟨⟨_, _, rfl, rfl, Nat.le_refl _, by unfold maxLen; omega, fun i hi => ⟨_, _, rfl, ?_⟩⟩, fun i hi => ?_⟩
  · have c := cell_new ((W.alloc (Obj.cells #[.int .i64 1] ti)).alloc (Obj.cells #[.int .i64 1] ti)) #[.slice (some ⟨W.heap.size, 0, none⟩) 1 1, .slice (some ⟨W.heap.size + 1, 0, none⟩) 1 1] tr i
    rw [s2] at c
    have h0 : i = 0 ∨ i = 1 := by simp at hi; omega
    rcases h0 with rfl | rfl
    · exact c
    · rw [show 0 + 1 = 1 from rfl]; exact c
  · have h0 : i = 0 ∨ i = 1 := by simp at hi; omega
    rcases h0 with rfl | rfl
    · exact i0
    · exact i1
theorem mix_lit {p : Int} (h : 23 ≤ p) : mixL p 2 [[1], [1]] = [3] := by
  have e1 : fpow p 2 0 = 1 := by unfold fpow; rw [Int.pow_zero]; exact Int.emod_eq_of_lt (by omega) (by omega)
  have e2 : fpow p 2 1 = 2 := by unfold fpow; rw [Int.pow_succ, Int.pow_zero]; exact Int.emod_eq_of_lt (by omega) (by omega)
  have e3 : fmul p 1 1 = 1 := by unfold fmul; exact Int.emod_eq_of_lt (by omega) (by omega)
  have e4 : fmul p 2 1 = 2 := by unfold fmul; exact Int.emod_eq_of_lt (by omega) (by omega)
  have e5 : fadd p 0 1 = 1 := by unfold fadd; exact Int.emod_eq_of_lt (by omega) (by omega)
  have e6 : fadd p 1 2 = 3 := by unfold fadd; exact Int.emod_eq_of_lt (by omega) (by omega)
  show [mixS p 2 [[1], [1]] 2 0] = [3]
  simp only [mixS, nthL, nth, List.getD, List.getElem?_cons_zero, List.getElem?_cons_succ, Option.getD_some]
  simp [e1, e2, e3, e4, e5, e6]
theorem one_facts {P : Program} {w : World} {u : Value} {x : Int} {t e bytes : Nat} {z : Value} (ht : SlT P t e 1 bytes z) (hu : Ints w u [x]) : (∀ ty w', (Builtin.len_ #[t] ty #[u]).run P w' = .ok (.int .i64 1) w') ∧ (∀ w', (Instr.indexAt t u (.int .i64 0)).run P w' = .ok (.pointer (some (elt u 0 1))) w') ∧ w.cell? (elt u 0 1) = some (.int .i64 x) :=
  ⟨fun ty w' => hu.run_len ht ty w', fun w' => hu.run_index ht 0 (by simp) w', hu.cell 0 (by simp)⟩
theorem mixBad_of {L : List (List Int)} {h : Nat} (h0 : L.length ≠ 0) (hl : ∀ j, j < L.length → (nthL L j).length = h) : mixBad L = false := by
  unfold mixBad fitB
  rw [Bool.or_eq_false_iff]
  refine ⟨by simpa using h0, ?_⟩
  rw [Bool.not_eq_false', List.all_eq_true]
  intro l hm
  obtain ⟨i, hi, rfl⟩ := List.getElem_of_mem hm
  rw [← nthL_eq hi, hl i hi, hl 0 (by omega)]
  simp
theorem mixL_length (p r : Int) (L : List (List Int)) : (mixL p r L).length = (nthL L 0).length := by simp [mixL]
end Go.Att
namespace Go.Proofs.YthlnjfnlhgnblaaDoor
open Go.RowKit Go.Att

set_option maxRecDepth 100000 in
set_option maxHeartbeats 4000000 in
theorem pledgeKeeps_bad (p n sh k : Int) (v1 : Value) (w : World) (h : ¬ okT p n sh) (hg : Hnd w) :
    Calls Tryd.prog 5 #[.int .i64 p, .int .i64 n, .int .i64 sh, .int .i64 k, v1] w fun e w' => e = .returned (.bool true) ∧ Ext w w' := by
  have H := Lib.hid h; have HG := Lib.hid hg; clear h hg
  go_enter Tryd.func5, Tryd.ntmps5
  go_wp2_with (go_at_call 18; refine (things_bad _ _ _ _ H.out HG.out).mono ?_; rintro e w' ⟨v, rfl, hx, rfl⟩)
  go_ret
  exact ⟨rfl, hx⟩

/-- No question is put. -/
def offK (p n k : Int) (m : Nat) : Prop := k < 1 ∨ n < k ∨ m = 0 ∨ 200 < p
set_option maxRecDepth 100000 in
set_option maxHeartbeats 4000000 in
theorem pledgeKeeps_off (p n sh k : Int) (v1 : Value) (L : List (List Int)) (w : World) (h : okT p n sh) (hg : Hnd w) (h1 : Rws w v1 L) (ho : offK p n k L.length) :
    Calls Tryd.prog 5 #[.int .i64 p, .int .i64 n, .int .i64 sh, .int .i64 k, v1] w fun e w' => e = .returned (.bool true) ∧ Ext w w' := by
  obtain ⟨R, h1⟩ := h1
  have hl1 := h1.run_len (P := Tryd.prog) slRows
  have H := Lib.hid h; have HG := Lib.hid hg; have h23 := h.2.1
  have h3 : ¬ p = 0 := by omega
  clear hg h h1
  unfold offK at ho
  by_cases k1 : k < 1
  · clear ho
    go_enter Tryd.func5, Tryd.ntmps5
    go_wp2_with (first | (go_at_call 18; refine (things_ok _ _ _ _ H.out HG.out).mono ?_; rintro e w1 ⟨v, rfl, hx, s, f, g, d, rfl, hs, hf, hd⟩; obtain ⟨bs, rfl, hc⟩ := hs.ptr; obtain ⟨bd, rfl⟩ := hd.ptr; obtain ⟨bf, rfl⟩ := hf.ptr; obtain ⟨fs, hfs⟩ := hf.fld; have HF := Lib.hid hfs; have HD := Lib.hid hd; clear hs hf hd hfs) | (go_at_call 20; refine (sfieldof_any hc).mono ?_; rintro e w' ⟨rfl, rfl⟩) | (go_at_call 19; have hxa := ((Ext.alloc w1 (Obj.cells #[.int .i64 1] 3)).trans (Ext.alloc _ (Obj.cells #[.int .i64 1] 3))).trans (Ext.alloc _ (Obj.cells #[.slice (some ⟨w1.heap.size, 0, none⟩) 1 1, .slice (some ⟨w1.heap.size + 1, 0, none⟩) 1 1] 22)); refine (Mix_ok (HF.out.ext hxa) (rws_lit11 w1 3 22) 2 (by decide) (by decide) (by decide)).mono ?_; rw [mix_lit h23]; rintro e w2 ⟨_, rfl, hx2, u, rfl, hu⟩; obtain ⟨hlu, hxu, hcu⟩ := one_facts (P := Tryd.prog) slInts hu; replace hxa := hxa.trans hx2; replace hc := hxa.cell hc; replace HF := Lib.hid (HF.out.ext hxa); replace HD := Lib.hid (HD.out.ext hxa); replace hxa := hx.trans hxa; clear hu hx2 hx))
    go_ret
    exact ⟨rfl, hxa⟩
  · by_cases k2 : n < k
    · clear ho
      go_enter Tryd.func5, Tryd.ntmps5
      go_wp2_with (first | (go_at_call 18; refine (things_ok _ _ _ _ H.out HG.out).mono ?_; rintro e w1 ⟨v, rfl, hx, s, f, g, d, rfl, hs, hf, hd⟩; obtain ⟨bs, rfl, hc⟩ := hs.ptr; obtain ⟨bd, rfl⟩ := hd.ptr; obtain ⟨bf, rfl⟩ := hf.ptr; obtain ⟨fs, hfs⟩ := hf.fld; have HF := Lib.hid hfs; have HD := Lib.hid hd; clear hs hf hd hfs) | (go_at_call 20; refine (sfieldof_any hc).mono ?_; rintro e w' ⟨rfl, rfl⟩) | (go_at_call 19; have hxa := ((Ext.alloc w1 (Obj.cells #[.int .i64 1] 3)).trans (Ext.alloc _ (Obj.cells #[.int .i64 1] 3))).trans (Ext.alloc _ (Obj.cells #[.slice (some ⟨w1.heap.size, 0, none⟩) 1 1, .slice (some ⟨w1.heap.size + 1, 0, none⟩) 1 1] 22)); refine (Mix_ok (HF.out.ext hxa) (rws_lit11 w1 3 22) 2 (by decide) (by decide) (by decide)).mono ?_; rw [mix_lit h23]; rintro e w2 ⟨_, rfl, hx2, u, rfl, hu⟩; obtain ⟨hlu, hxu, hcu⟩ := one_facts (P := Tryd.prog) slInts hu; replace hxa := hxa.trans hx2; replace hc := hxa.cell hc; replace HF := Lib.hid (HF.out.ext hxa); replace HD := Lib.hid (HD.out.ext hxa); replace hxa := hx.trans hxa; clear hu hx2 hx))
      go_ret
      exact ⟨rfl, hxa⟩
    · by_cases k3 : L.length = 0
      · have k3' : ((L.length : Nat) : Int) = 0 := by omega
        rw [k3'] at hl1
        clear ho k3 k3'
        go_enter Tryd.func5, Tryd.ntmps5
        go_wp2_with (first | (go_at_call 18; refine (things_ok _ _ _ _ H.out HG.out).mono ?_; rintro e w1 ⟨v, rfl, hx, s, f, g, d, rfl, hs, hf, hd⟩; obtain ⟨bs, rfl, hc⟩ := hs.ptr; obtain ⟨bd, rfl⟩ := hd.ptr; obtain ⟨bf, rfl⟩ := hf.ptr; obtain ⟨fs, hfs⟩ := hf.fld; have HF := Lib.hid hfs; have HD := Lib.hid hd; clear hs hf hd hfs) | (go_at_call 20; refine (sfieldof_any hc).mono ?_; rintro e w' ⟨rfl, rfl⟩) | (go_at_call 19; have hxa := ((Ext.alloc w1 (Obj.cells #[.int .i64 1] 3)).trans (Ext.alloc _ (Obj.cells #[.int .i64 1] 3))).trans (Ext.alloc _ (Obj.cells #[.slice (some ⟨w1.heap.size, 0, none⟩) 1 1, .slice (some ⟨w1.heap.size + 1, 0, none⟩) 1 1] 22)); refine (Mix_ok (HF.out.ext hxa) (rws_lit11 w1 3 22) 2 (by decide) (by decide) (by decide)).mono ?_; rw [mix_lit h23]; rintro e w2 ⟨_, rfl, hx2, u, rfl, hu⟩; obtain ⟨hlu, hxu, hcu⟩ := one_facts (P := Tryd.prog) slInts hu; replace hxa := hxa.trans hx2; replace hc := hxa.cell hc; replace HF := Lib.hid (HF.out.ext hxa); replace HD := Lib.hid (HD.out.ext hxa); replace hxa := hx.trans hxa; clear hu hx2 hx))
        go_ret
        exact ⟨rfl, hxa⟩
      · have k4 : 200 < p := by omega
        have k3' : (((L.length : Nat) : Int) == 0) = false := by rw [beq_eq_false_iff_ne]; omega
        clear ho k3
        go_enter Tryd.func5, Tryd.ntmps5
        go_wp2_with (first | (go_at_call 18; refine (things_ok _ _ _ _ H.out HG.out).mono ?_; rintro e w1 ⟨v, rfl, hx, s, f, g, d, rfl, hs, hf, hd⟩; obtain ⟨bs, rfl, hc⟩ := hs.ptr; obtain ⟨bd, rfl⟩ := hd.ptr; obtain ⟨bf, rfl⟩ := hf.ptr; obtain ⟨fs, hfs⟩ := hf.fld; have HF := Lib.hid hfs; have HD := Lib.hid hd; clear hs hf hd hfs) | (go_at_call 20; refine (sfieldof_any hc).mono ?_; rintro e w' ⟨rfl, rfl⟩) | (go_at_call 19; have hxa := ((Ext.alloc w1 (Obj.cells #[.int .i64 1] 3)).trans (Ext.alloc _ (Obj.cells #[.int .i64 1] 3))).trans (Ext.alloc _ (Obj.cells #[.slice (some ⟨w1.heap.size, 0, none⟩) 1 1, .slice (some ⟨w1.heap.size + 1, 0, none⟩) 1 1] 22)); refine (Mix_ok (HF.out.ext hxa) (rws_lit11 w1 3 22) 2 (by decide) (by decide) (by decide)).mono ?_; rw [mix_lit h23]; rintro e w2 ⟨_, rfl, hx2, u, rfl, hu⟩; obtain ⟨hlu, hxu, hcu⟩ := one_facts (P := Tryd.prog) slInts hu; replace hxa := hxa.trans hx2; replace hc := hxa.cell hc; replace HF := Lib.hid (HF.out.ext hxa); replace HD := Lib.hid (HD.out.ext hxa); replace hxa := hx.trans hxa; clear hu hx2 hx))
        go_ret
        exact ⟨rfl, hxa⟩

set_option maxRecDepth 100000 in
set_option maxHeartbeats 4000000 in
theorem pledgeKeeps_ok (p n sh : Int) (k : Nat) (v1 : Value) (L : List (List Int)) (w : World) (h : okT p n sh) (hg : Hnd w) (h1 : Rws w v1 L) (hL : L.length ≤ 1048576) (k1 : 1 ≤ k) (k2 : (k : Int) ≤ n) (k3 : L.length ≠ 0) (k4 : p ≤ 200) :
    Calls Tryd.prog 5 #[.int .i64 p, .int .i64 n, .int .i64 sh, .int .i64 k, v1] w fun e w' => e = .returned (.bool true) ∧ Ext w w' := by
  obtain ⟨R, h1⟩ := h1
  have hl1 := h1.run_len (P := Tryd.prog) slRows
  have H := Lib.hid h; have HG := Lib.hid hg; have h23 := h.2.1; have HPR := Lib.hid h.1.1
  obtain ⟨htwo, _, _⟩ := domErr_ok h.2.2
  obtain ⟨K, hK, hnK⟩ : ∃ K : Nat, K ≤ 16 ∧ n = (2 : Int) ^ K := by
    simp only [twoB, twoUp, List.any_eq_true, List.mem_range, beq_iff_eq] at htwo
    obtain ⟨K, hK, e⟩ := htwo
    exact ⟨K, by omega, e.symm⟩
  have hK64 : 2 ^ K ≤ 65536 := by
    have e1 : 2 ^ K ≤ 2 ^ 16 := Nat.pow_le_pow_right (by decide) hK
    have e2 : (2 : Nat) ^ 16 = 65536 := by decide
    omega
  have hnn : n = ((2 ^ K : Nat) : Int) := by rw [hnK]; norm_cast
  obtain ⟨m, hm⟩ : ∃ m, 2 ^ K = m := ⟨_, rfl⟩
  rw [hm] at hnn hK64
  have HK := Lib.hid hK; have HNK := Lib.hid hnK; have HM := Lib.hid hm
  have H1 := Lib.hid h1
  have k1' : ¬ (k : Int) < 1 := by omega
  have k2' : ¬ n < (k : Int) := by omega
  have k3' : (((L.length : Nat) : Int) == 0) = false := by rw [beq_eq_false_iff_ne]; omega
  have k4' : ¬ 200 < p := by omega
  have HNN := Lib.hid hnn
  clear hg h h1 htwo hK hnK hm hnn
  go_enter Tryd.func5, Tryd.ntmps5
  go_wp2_with (first | (go_at_call 18; refine (things_ok _ _ _ _ H.out HG.out).mono ?_; rintro e w1 ⟨v, rfl, hx, s, f, g, d, rfl, hs, hf, hd⟩; obtain ⟨bs, rfl, hc⟩ := hs.ptr; obtain ⟨bd, rfl⟩ := hd.ptr; obtain ⟨bf, rfl⟩ := hf.ptr; obtain ⟨fs, hfs⟩ := hf.fld; have HF := Lib.hid hfs; have HD := Lib.hid hd; clear hs hf hd hfs) | (go_at_call 20; refine (sfieldof_any hc).mono ?_; rintro e w' ⟨rfl, rfl⟩) | (go_at_call 19; have hxa := ((Ext.alloc w1 (Obj.cells #[.int .i64 1] 3)).trans (Ext.alloc _ (Obj.cells #[.int .i64 1] 3))).trans (Ext.alloc _ (Obj.cells #[.slice (some ⟨w1.heap.size, 0, none⟩) 1 1, .slice (some ⟨w1.heap.size + 1, 0, none⟩) 1 1] 22)); refine (Mix_ok (HF.out.ext hxa) (rws_lit11 w1 3 22) 2 (by decide) (by decide) (by decide)).mono ?_; rw [mix_lit h23]; rintro e w2 ⟨_, rfl, hx2, u, rfl, hu⟩; obtain ⟨hlu, hxu, hcu⟩ := one_facts (P := Tryd.prog) slInts hu; replace hxa := hxa.trans hx2; replace hc := hxa.cell hc; replace HF := Lib.hid (HF.out.ext hxa); replace HD := Lib.hid (HD.out.ext hxa); replace hxa := hx.trans hxa; clear hu hx2 hx))
  clear hlu hxu hcu
  have HXA := Lib.hid hxa
  have HC := Lib.hid hc
  clear hxa hc k1' k2' k3' k4'
  go_loopw [16, 17, 18] (fun x16 x17 _ wr => ∃ i : Nat, i ≤ L.length ∧ x17 = .int .i64 i ∧ x16 = .bool (allB (fun j => cwB p K k (finv p (froot p g n)) (ptAt p (finv p n) (finv p (fof p sh))) (nthL L j)) i) ∧ Hid (∀ j, j < i → (nthL L j).length = m) ∧ Ext w2 wr) (fun _ x17 _ _ => L.length - (intOf x17).toNat)
  case atStart => exact ⟨0, Nat.zero_le _, rfl, rfl, Lib.hid (fun j h => by omega), Ext.refl _⟩
  case round =>
    obtain ⟨i, hi, rfl, rfl, HLS, HX⟩ := hrel
    by_cases hil : i < L.length
    · have hw2 := HXA.out.trans HX
      have hix := H1.out.run_index (P := Tryd.prog) slRows i hil
      have hc := (H1.out.ext hw2).cell i hil
      have hrow := (H1.out.ext hw2).row i hil
      have hll := hrow.run_len (P := Tryd.prog) slInts
      by_cases hlen : (nthL L i).length = m
      · rw [hlen] at hll
        have hb : ((m : Int) != n) = false := by rw [bne_eq_false_iff_eq]; exact HNN.out.symm
        have HROW := Lib.hid hrow; have HLEN := Lib.hid hlen
        have HLS2 := Lib.hid (show ∀ j, j < i + 1 → (nthL L j).length = m from fun j hj => by
          by_cases e : j = i
          · rw [e]; exact hlen
          · exact HLS.out j (by omega))
        clear hrow hlen
        by_cases hcw : cwB p K k (finv p (froot p g n)) (ptAt p (finv p n) (finv p (fof p sh))) (nthL L i) = true
        · have HB := Lib.hid hcw
          have ST := Lib.hid (show allB (fun j => cwB p K k (finv p (froot p g n)) (ptAt p (finv p n) (finv p (fof p sh))) (nthL L j)) (i + 1) = allB (fun j => cwB p K k (finv p (froot p g n)) (ptAt p (finv p n) (finv p (fof p sh))) (nthL L j)) i by rw [allB_succ]; simp only [hcw, Bool.and_true])
          clear hcw
          go_wp2_with (go_at_call 21; refine (is_any (HD.out.ext HX) (HF.out.ext HX) K HK.out HNK.out k k1 k2 HROW.out (by rw [HLEN.out, HM.out])).mono ?_; rw [HB.out]; rintro e w3 ⟨rfl, hx3⟩)
          go_roundw
          case rel => exact ⟨i + 1, by omega, by go_num, by rw [ST.out], HLS2, HX.trans hx3⟩
          case measure => simp [intOf]; omega
        · have hcw' : cwB p K k (finv p (froot p g n)) (ptAt p (finv p n) (finv p (fof p sh))) (nthL L i) = false := by simpa using hcw
          have HB := Lib.hid hcw'
          have ST := Lib.hid (show allB (fun j => cwB p K k (finv p (froot p g n)) (ptAt p (finv p n) (finv p (fof p sh))) (nthL L j)) (i + 1) = false by rw [allB_succ]; simp only [hcw', Bool.and_false])
          clear hcw hcw'
          go_wp2_with (go_at_call 21; refine (is_any (HD.out.ext HX) (HF.out.ext HX) K HK.out HNK.out k k1 k2 HROW.out (by rw [HLEN.out, HM.out])).mono ?_; rw [HB.out]; rintro e w3 ⟨rfl, hx3⟩)
          go_roundw
          case rel => exact ⟨i + 1, by omega, by go_num, by rw [ST.out], HLS2, HX.trans hx3⟩
          case measure => simp [intOf]; omega
      · have hb : (((nthL L i).length : Int) != n) = true := by rw [bne_iff_ne, HNN.out]; omega
        clear hrow hlen
        go_wp2_with fail
        go_ret
        exact ⟨rfl, hw2⟩
    · obtain rfl : i = L.length := by omega
      go_wp2_with fail
      clear hil hi
      have HMB := Lib.hid (mixBad_of k3 HLS.out)
      have HL0 := Lib.hid (HLS.out 0 (by omega))
      have HXW := Lib.hid HX
      clear HX
      go_loopw [19, 20, 21, 22, 23, 104] (fun x19 x20 _ _ _ _ ws => ∃ r : Nat, (r : Int) ≤ p ∧ x20 = .int .i64 r ∧ x19 = .int .i64 (cntN (fun r : Nat => cwB p K k (finv p (froot p g n)) (ptAt p (finv p n) (finv p (fof p sh))) (mixL p (r : Int) L)) r) ∧ Ext w2 ws) (fun _ x20 _ _ _ _ _ => p.toNat - (intOf x20).toNat)
      case atStart => exact ⟨0, by omega, rfl, rfl, HXW.out⟩
      case round =>
        clear HXW
        obtain ⟨r, hr, rfl, rfl, HX⟩ := hrel
        have hcn := cntN_le (fun r : Nat => cwB p K k (finv p (froot p g n)) (ptAt p (finv p n) (finv p (fof p sh))) (mixL p (r : Int) L)) r
        by_cases hrp : (r : Int) < p
        · have HXW := Lib.hid HX
          clear HX
          by_cases hcw : cwB p K k (finv p (froot p g n)) (ptAt p (finv p n) (finv p (fof p sh))) (mixL p (r : Int) L) = true
          · have HB := Lib.hid hcw
            have ST := Lib.hid (show cntN (fun r : Nat => cwB p K k (finv p (froot p g n)) (ptAt p (finv p n) (finv p (fof p sh))) (mixL p (r : Int) L)) (r + 1) = cntN (fun r : Nat => cwB p K k (finv p (froot p g n)) (ptAt p (finv p n) (finv p (fof p sh))) (mixL p (r : Int) L)) r + 1 from cntK_t hcw)
            clear hcw
            generalize cntN (fun r : Nat => cwB p K k (finv p (froot p g n)) (ptAt p (finv p n) (finv p (fof p sh))) (mixL p (r : Int) L)) r = cn at *
            go_wp2_with (first | (go_at_call 20; refine (sfieldof_any (HXW.out.cell HC.out)).mono ?_; rintro e w' ⟨rfl, rfl⟩) | (go_at_call 19; refine (Mix_ok (HF.out.ext HXW.out) (H1.out.ext (HXA.out.trans HXW.out)) r HMB.out (by rw [HL0.out]; omega) hL).mono ?_; rintro e w3 ⟨_, rfl, hx3, u3, rfl, hu3⟩) | (go_at_call 21; refine (is_any (HD.out.ext (HXW.out.trans hx3)) (HF.out.ext (HXW.out.trans hx3)) K HK.out HNK.out k k1 k2 hu3 (by rw [mixL_length, HL0.out, HM.out])).mono ?_; rw [HB.out]; rintro e w4 ⟨rfl, hx4⟩))
            go_roundw
            case rel => exact ⟨r + 1, by omega, by go_num, by rw [ST.out]; go_num, (HXW.out.trans hx3).trans hx4⟩
            case measure => simp [intOf]; omega
          · have hcw' : cwB p K k (finv p (froot p g n)) (ptAt p (finv p n) (finv p (fof p sh))) (mixL p (r : Int) L) = false := by simpa using hcw
            have HB := Lib.hid hcw'
            have ST := Lib.hid (show cntN (fun r : Nat => cwB p K k (finv p (froot p g n)) (ptAt p (finv p n) (finv p (fof p sh))) (mixL p (r : Int) L)) (r + 1) = cntN (fun r : Nat => cwB p K k (finv p (froot p g n)) (ptAt p (finv p n) (finv p (fof p sh))) (mixL p (r : Int) L)) r from cntK_f hcw')
            clear hcw hcw'
            generalize cntN (fun r : Nat => cwB p K k (finv p (froot p g n)) (ptAt p (finv p n) (finv p (fof p sh))) (mixL p (r : Int) L)) r = cn at *
            go_wp2_with (first | (go_at_call 20; refine (sfieldof_any (HXW.out.cell HC.out)).mono ?_; rintro e w' ⟨rfl, rfl⟩) | (go_at_call 19; refine (Mix_ok (HF.out.ext HXW.out) (H1.out.ext (HXA.out.trans HXW.out)) r HMB.out (by rw [HL0.out]; omega) hL).mono ?_; rintro e w3 ⟨_, rfl, hx3, u3, rfl, hu3⟩) | (go_at_call 21; refine (is_any (HD.out.ext (HXW.out.trans hx3)) (HF.out.ext (HXW.out.trans hx3)) K HK.out HNK.out k k1 k2 hu3 (by rw [mixL_length, HL0.out, HM.out])).mono ?_; rw [HB.out]; rintro e w4 ⟨rfl, hx4⟩))
            go_roundw
            case rel => exact ⟨r + 1, by omega, by go_num, by rw [ST.out], (HXW.out.trans hx3).trans hx4⟩
            case measure => simp [intOf]; omega
        · have hrp' : r = p.toNat := by omega
          by_cases hall : allB (fun j => cwB p K k (finv p (froot p g n)) (ptAt p (finv p n) (finv p (fof p sh))) (nthL L j)) L.length = true
          · have hq : ((cntN (fun r : Nat => cwB p K k (finv p (froot p g n)) (ptAt p (finv p n) (finv p (fof p sh))) (mixL p (r : Int) L)) r : Nat) : Int) = p := by
              have e1 : cntN (fun r : Nat => cwB p K k (finv p (froot p g n)) (ptAt p (finv p n) (finv p (fof p sh))) (mixL p (r : Int) L)) r = r := cntN_all fun x hx => cwB_iff.2 (keeps_all p x L K k _ _ (by rw [HL0.out, HM.out]) fun j hj => cwB_iff.1 (allB_true hall j hj))
              rw [e1]; omega
            have hq2 : (((cntN (fun r : Nat => cwB p K k (finv p (froot p g n)) (ptAt p (finv p n) (finv p (fof p sh))) (mixL p (r : Int) L)) r : Nat) : Int) == p) = true := by rw [beq_iff_eq]; exact hq
            rw [hall]
            clear hrp' hq hcn hall
            generalize cntN (fun r : Nat => cwB p K k (finv p (froot p g n)) (ptAt p (finv p n) (finv p (fof p sh))) (mixL p (r : Int) L)) r = cn at *
            go_wp2_with fail
            go_ret
            exact ⟨rfl, HXA.out.trans HX⟩
          · have hall' : allB (fun j => cwB p K k (finv p (froot p g n)) (ptAt p (finv p n) (finv p (fof p sh))) (nthL L j)) L.length = false := by simpa using hall
            have hq : (cntN (fun r : Nat => cwB p K k (finv p (froot p g n)) (ptAt p (finv p n) (finv p (fof p sh))) (mixL p (r : Int) L)) r : Nat) < L.length := by
              obtain ⟨j, hj, hF⟩ := allB_false hall'
              rw [hrp']
              exact keeps_some HPR.out L K k _ _ (by rw [HL0.out, HM.out]) hj (fun hc => by rw [cwB_iff.2 hc] at hF; cases hF) (fun r : Nat => cwB p K k (finv p (froot p g n)) (ptAt p (finv p n) (finv p (fof p sh))) (mixL p (r : Int) L)) fun x hx => cwB_iff.1 hx
            have hq2 : ((cntN (fun r : Nat => cwB p K k (finv p (froot p g n)) (ptAt p (finv p n) (finv p (fof p sh))) (mixL p (r : Int) L)) r : Nat) : Int) ≤ (L.length : Int) - 1 := by omega
            rw [hall']
            clear hrp' hq hcn hall hall'
            generalize cntN (fun r : Nat => cwB p K k (finv p (froot p g n)) (ptAt p (finv p n) (finv p (fof p sh))) (mixL p (r : Int) L)) r = cn at *
            go_wp2_with fail
            go_ret
            exact ⟨rfl, HXA.out.trans HX⟩
end Go.Proofs.YthlnjfnlhgnblaaDoor
