/- One word of several, the program's side: contract. -/
import Derived.Test.YthjemncbphdomaaDoorHb
/-! One word of several, the program's side: contract. -/
namespace Go.Att
open Go.RowKit
/-- Does no word differ in length from n? -/
def fitB (n : Int) (L : List (List Int)) : Bool := L.all fun l => (l.length : Int) == n
theorem fitB_nth {n : Int} {L : List (List Int)} (h : fitB n L = true) {i : Nat} (hi : i < L.length) : ((nthL L i).length : Int) = n := by
  rw [nthL_eq hi]
  have := List.all_eq_true.1 h L[i] (List.getElem_mem hi)
  simpa using this
theorem fitB_not {n : Int} {L : List (List Int)} {i : Nat} (hi : i < L.length) (h : ((nthL L i).length : Int) ≠ n) : fitB n L = false := by
  rw [Bool.eq_false_iff]
  intro hc
  exact h (fitB_nth hc hi)
theorem fitB_of {n : Int} {L : List (List Int)} (h : ∀ i, i < L.length → ((nthL L i).length : Int) = n) : fitB n L = true := by
  refine List.all_eq_true.2 fun l hl => ?_
  obtain ⟨i, hi, rfl⟩ := List.getElem_of_mem hl
  have := h i hi
  rw [nthL_eq hi] at this
  simpa using this
/-- The numbers at a place of all words. -/
def col (L : List (List Int)) (i : Nat) : List Int := L.map fun l => nth l i
theorem col_length (L : List (List Int)) (i : Nat) : (col L i).length = L.length := by simp [col]
theorem col_step {L : List (List Int)} {j : Nat} (i : Nat) (h : j < L.length) : (col (L.take (j + 1)) i).map (Value.int .i64) = (col (L.take j) i).map (Value.int .i64) ++ [.int .i64 (nth (nthL L j) i)] := by
  rw [List.take_succ_eq_append_getElem h, ← nthL_eq h]; simp [col]
def batchAt (p n sh r g : Int) (first : List Int) (L : List (List Int)) (i : Nat) : Int := batched p (nth first i) g (ptAt p sh r i ^ (3 * n / 8).toNat) (col L i)
def batchL (p n sh r g : Int) (first : List Int) (L : List (List Int)) (m : Nat) : List Int := (List.range m).map (batchAt p n sh r g first L)
theorem batchL_length (p n sh r g : Int) (first : List Int) (L : List (List Int)) (m : Nat) : (batchL p n sh r g first L m).length = m := by simp [batchL]
theorem batchL_nth (p n sh r g : Int) (first : List Int) (L : List (List Int)) {m i : Nat} (h : i < m) : nth (batchL p n sh r g first L m) i = batchAt p n sh r g first L i := by rw [nth_eq (by rw [batchL_length]; exact h)]; simp [batchL]
theorem batchL_succ (p n sh r g : Int) (first : List Int) (L : List (List Int)) (m : Nat) : (batchL p n sh r g first L (m + 1)).map (Value.int .i64) = (batchL p n sh r g first L m).map (Value.int .i64) ++ [.int .i64 (batchAt p n sh r g first L m)] := by simp [batchL, List.range_succ]
end Go.Att
namespace Go.Proofs.YthjemncbphdomaaDoor
open Go.RowKit Go.Att

theorem slRows : SlT Tryd.prog 35 23 1 24 (.slice none 0 0) := .mk' Tryd.underlying35 (by kernel_rfl) (by decide)

theorem batch1_any {w : World} {v : Value} {l : List Int} {n : Int} {c : Nat} (hv : Ints w v l) (hc : w.cell? ⟨c, 0, none⟩ = some (.int .i64 n)) :
    Calls Tryd.prog 97 #[v, .pointer (some ⟨c, 0, none⟩)] w (Rd w (.bool ((l.length : Int) != n))) := by
  have hl := hv.run_len (P := Tryd.prog) slInts
  clear hv
  go_enter Tryd.func97, Tryd.ntmps97
  go_wp2
  go_ret
  exact .same rfl

set_option maxRecDepth 100000 in
set_option maxHeartbeats 1000000 in
theorem index_any {w : World} {v : Value} {L : List (List Int)} {R : Nat → Value} {n : Int} {c : Nat} (hv : RwsAt w v L R) (hc : w.cell? ⟨c, 0, none⟩ = some (.int .i64 n)) :
    Calls Tryd.prog 144 #[v, .func (Fn.func 97) #[] #[.pointer (some ⟨c, 0, none⟩)]] w (RdI w fun r => decide (0 ≤ r) = !fitB n L) := by
  have hl := hv.run_len (P := Tryd.prog) slRows
  have hlen := hv.len
  have HV := Lib.hid hv; clear hv
  have HC := Lib.hid hc; clear hc
  go_enter Tryd.func144, Tryd.ntmps144
  go_wp2
  go_loopw [5, 8] (fun _ x8 wr => ∃ i m : Nat, i ≤ L.length ∧ x8 = .int .i64 i ∧ Hid (∀ j, j < i → ((nthL L j).length : Int) = n) ∧ wr = w.drewN m) (fun _ x8 _ => L.length - (intOf x8).toNat)
  case atStart => exact ⟨0, 0, Nat.zero_le _, rfl, Lib.hid (fun j hj => by omega), rfl⟩
  case round =>
    obtain ⟨i, m, hi, rfl, H, rfl⟩ := hrel
    by_cases hlt : i < L.length
    · have hix := HV.out.run_index (P := Tryd.prog) slRows i hlt
      have hcell := HV.out.cell i hlt
      by_cases he : ((nthL L i).length : Int) = n
      · have hb : (((nthL L i).length : Int) != n) = false := by rw [bne_eq_false_iff_eq]; exact he
        have HE := Lib.hid he; clear he
        go_wp2_with (go_at_call 97; refine (batch1_any (n := n) (c := c) ((HV.out.row i hlt).drewN m) ((Ext.drewN w m).cell HC.out)).mono ?_; rintro e w' ⟨rfl, m2, rfl⟩)
        go_roundw
        case rel => exact ⟨i + 1, _, by omega, by go_num, Lib.hid (fun j hj => by
            rcases Nat.lt_or_eq_of_le (show j ≤ i by omega) with h | rfl
            · exact H.out j h
            · exact HE.out), rfl⟩
        case measure => simp [intOf]; omega
      · have hb : (((nthL L i).length : Int) != n) = true := by rw [bne_iff_ne]; exact he
        have HE := Lib.hid he; clear he
        go_wp2_with (go_at_call 97; refine (batch1_any (n := n) (c := c) ((HV.out.row i hlt).drewN m) ((Ext.drewN w m).cell HC.out)).mono ?_; rintro e w' ⟨rfl, m2, rfl⟩)
        go_ret
        exact ⟨i, by rw [fitB_not hlt HE.out]; simp, rfl, _, rfl⟩
    · obtain rfl : i = L.length := by omega
      go_wp2_with fail
      go_ret
      exact ⟨-1, by rw [fitB_of H.out]; rfl, rfl, _, rfl⟩

set_option maxRecDepth 100000 in
theorem contains_any {w : World} {v : Value} {L : List (List Int)} {R : Nat → Value} {n : Int} {c : Nat} (hv : RwsAt w v L R) (hc : w.cell? ⟨c, 0, none⟩ = some (.int .i64 n)) :
    Calls Tryd.prog 96 #[v, .func (Fn.func 97) #[] #[.pointer (some ⟨c, 0, none⟩)]] w (Rd w (.bool (!fitB n L))) := by
  have HV := Lib.hid hv; clear hv
  have HC := Lib.hid hc; clear hc
  go_enter Tryd.func96, Tryd.ntmps96
  go_wp2_with (go_at_call 144; refine (index_any (n := n) (c := c) HV.out HC.out).mono ?_; rintro e w' ⟨r, hr, rfl, m, rfl⟩; have HR := Lib.hid hr; clear hr)
  go_ret
  exact .more _ (ret_bool HR.out)

/-- Is a batch refused? -/
def batBad (n : Int) (l1 : List Int) (L : List (List Int)) : Bool := decide (n < 8) || ((l1.length : Int) != n) || !fitB n L

set_option maxRecDepth 100000 in
set_option maxHeartbeats 1000000 in
theorem batch_bad {w : World} {d : Value} {b : Nat} {n sh r g : Int} (h : DomOf w d (.pointer (some ⟨b, 0, none⟩)) n sh r) (v1 v2 : Value) (l1 : List Int) (L : List (List Int)) (R : Nat → Value) (h1 : Ints w v1 l1) (h2 : RwsAt w v2 L R)
    (hbad : batBad n l1 L = true) :
    Calls Tryd.prog 28 #[d, v1, v2, .int .i64 g] w fun e w' => e = .returned (.tuple #[.slice none 0 0, errv 2]) ∧ Ext w w' := by
  have hl1 := h1.run_len (P := Tryd.prog) slInts
  have H := Lib.hid h; have H1 := Lib.hid h1; have H2 := Lib.hid h2; clear h h1 h2
  rw [errv_pos (by decide)]
  by_cases hn : n < 8
  · clear hbad
    go_enter Tryd.func28, Tryd.ntmps28
    go_wp2_with (go_at_call 95; refine (size_any H.out).mono ?_; rintro e w2 hrd; obtain ⟨rfl, hx2⟩ := hrd.ext; clear hrd)
    go_ret2
    exact ⟨rfl, hx2.trans (Ext.alloc _ _)⟩
  · by_cases hl : (l1.length : Int) = n
    · have hb : ((l1.length : Int) != n) = false := by rw [bne_eq_false_iff_eq]; exact hl
      have hf : fitB n L = false := by
        unfold batBad at hbad
        rw [hb] at hbad
        simpa [hn] using hbad
      clear hbad
      have HL := Lib.hid hl; clear hl
      go_enter Tryd.func28, Tryd.ntmps28
      go_wp2_with (first | (go_at_call 95; refine (size_any H.out).mono ?_; rintro e w2 hrd; obtain ⟨rfl, hx2⟩ := hrd.ext; clear hrd) | (go_at_call 96; refine (contains_any (n := n) (c := w2.heap.size) (H2.out.ext (hx2.trans (Ext.alloc _ _))) (cell_new _ _ _ _)).mono ?_; rw [hf]; rintro e w3 hrd; obtain ⟨rfl, hx3⟩ := hrd.ext; clear hrd))
      go_ret2
      exact ⟨rfl, (hx2.trans (Ext.alloc _ _)).trans hx3⟩
    · have hb : ((l1.length : Int) != n) = true := by rw [bne_iff_ne]; exact hl
      clear hbad hl
      go_enter Tryd.func28, Tryd.ntmps28
      go_wp2_with (go_at_call 95; refine (size_any H.out).mono ?_; rintro e w2 hrd; obtain ⟨rfl, hx2⟩ := hrd.ext; clear hrd)
      go_ret2
      exact ⟨rfl, hx2.trans (Ext.alloc _ _)⟩
end Go.Proofs.YthjemncbphdomaaDoor
/-! One word of several, the program's side: the words that fit. -/
namespace Go.Proofs.YthjemncbphdomaaDoor
open Go.RowKit Go.Att

set_option maxRecDepth 100000 in
set_option maxHeartbeats 4000000 in
theorem batch_ok {w : World} {d : Value} {b : Nat} {p g0 n sh r g : Int} {fs : List Int} (h : DomOf w d (.pointer (some ⟨b, 0, none⟩)) n sh r) (hf : Fld w (.pointer (some ⟨b, 0, none⟩)) p g0 fs) (v1 v2 : Value) (l1 : List Int) (L : List (List Int)) (R : Nat → Value) (h1 : Ints w v1 l1) (h2 : RwsAt w v2 L R)
    (hbad : batBad n l1 L = false) (hn2 : n ≤ 65536) (hsh : 0 ≤ sh ∧ sh < p) (hL : L.length ≤ 1048576) :
    Calls Tryd.prog 28 #[d, v1, v2, .int .i64 g] w (Gives w fun v w' => ∃ u, v = .tuple #[u, .nilIface] ∧ Ints w' u (batchL p n sh r g l1 L n.toNat)) := by
  obtain ⟨n', rfl⟩ := Int.eq_ofNat_of_zero_le (show 0 ≤ n by
    unfold batBad at hbad
    simp only [Bool.or_eq_false_iff, decide_eq_false_iff_not] at hbad
    omega)
  rw [Int.toNat_natCast]
  have hl1 := h1.run_len (P := Tryd.prog) slInts
  have hl2 := h2.run_len (P := Tryd.prog) slRows
  obtain ⟨hn, hl, hfit⟩ : 8 ≤ (n' : Int) ∧ (l1.length : Int) = n' ∧ fitB n' L = true := by
    unfold batBad at hbad
    simp only [Bool.or_eq_false_iff, decide_eq_false_iff_not, bne_eq_false_iff_eq, Bool.not_eq_false'] at hbad
    exact ⟨by omega, hbad.1.2, hbad.2⟩
  have H := Lib.hid h; have H1 := Lib.hid h1; have H2 := Lib.hid h2; have C := Lib.hid hf; clear h h1 h2 hbad hf
  have hb : ((l1.length : Int) != n') = false := by rw [bne_eq_false_iff_eq]; exact hl
  have HL := Lib.hid hl; clear hl
  go_enter Tryd.func28, Tryd.ntmps28
  go_wp2_with (first | (go_at_call 95; refine (size_any H.out).mono ?_; rintro e w2 hrd; obtain ⟨rfl, hx2⟩ := hrd.ext; clear hrd) | (go_at_call 96; refine (contains_any (n := n') (c := w2.heap.size) (H2.out.ext (hx2.trans (Ext.alloc _ _))) (cell_new _ _ _ _)).mono ?_; rw [hfit]; rintro e w3 hrd; obtain ⟨rfl, hx3⟩ := hrd.ext; clear hrd; have hn3 := hx3.cell (cell_new w2 #[.int .i64 n'] 3 0); replace hx3 := (hx2.trans (Ext.alloc _ _)).trans hx3; clear hx2) | (refine wpList_mk0 rfl _ _ 23 rfl slInts (Ext.refl w3) rfl rfl (by omega) (by omega) (by omega) ?_; intro v4 w4 HO HX HG; clear HG) | (go_at_call 98; refine (points_any (H.out.ext (hx3.trans HX)) (C.out.ext (hx3.trans HX)) (by omega) hn2 hsh).mono ?_; rintro e w5 ⟨vp, rfl, hx5, hvp, hnew⟩; have hne := new_ne HO hnew; replace HO := own_ext HO hx5; replace HX := HX.trans hx5; rw [Int.toNat_natCast] at hvp; have hlp := hvp.run_len (P := Tryd.prog) slInts; rw [points_length] at hlp; have HVP := Lib.hid hvp; have HNE := Lib.hid hne; clear hvp hne hnew hx5))
  replace hn3 : w3.cell? ⟨w2.heap.size, 0, none⟩ = some (.int .i64 n') := hn3
  have HN3 := Lib.hid hn3; have HX3 := Lib.hid hx3; clear hn3 hx3
  go_loopw [11, 12, 13, 14, 16, 38] (fun x11 _ _ _ _ x38 wr => ∃ i : Nat, i ≤ n' ∧ x38 = .int .i64 i ∧ wr.ownsRow w3.heap.size 3 1 x11 i ((batchL p n' sh r g l1 L i).map (Value.int .i64)) ∧ Ext w3 wr ∧ Hid (w5.grownBy wr v4.ownBlock ∧ Moved w5 v4 x11)) (fun _ _ _ _ _ x38 _ => n' - (intOf x38).toNat)
  case atStart => exact ⟨0, Nat.zero_le _, rfl, HO, HX, Lib.hid ⟨World.grownBy.refl _ _, Moved.refl _ _⟩⟩
  case round =>
    obtain ⟨i, hi, rfl, HO1, HX1, HM⟩ := hrel
    by_cases hlt : i < n'
    · have hix := HVP.out.run_index (P := Tryd.prog) slInts i (by rw [points_length]; exact hlt)
      have hcell := (HVP.out.grown HM.out.1 HNE.out).cell i (by rw [points_length]; exact hlt)
      rw [points_nth _ _ _ hlt] at hcell
      go_wp2_with fail
      clear hcell
      go_loopw [14, 16, 45] (fun x14 _ x45 ws => ∃ j : Nat, j ≤ L.length ∧ x45 = .int .i64 j ∧ ws.ownsRow wr.heap.size 3 1 x14 j ((col (L.take j) i).map (Value.int .i64)) ∧ Ext wr ws) (fun _ _ x45 _ => L.length - (intOf x45).toNat)
      case atStart => exact ⟨0, Nat.zero_le _, rfl, World.ownsRow_nil _ _ _ _, Ext.refl _⟩
      case round =>
        obtain ⟨j, hj, rfl, HO2, HX2⟩ := hrel
        by_cases hjl : j < L.length
        · have hix2 := H2.out.run_index (P := Tryd.prog) slRows j hjl
          have hc2 := (H2.out.ext ((HX3.out.trans HX1).trans HX2)).cell j hjl
          have hrow := (H2.out.ext ((HX3.out.trans HX1).trans HX2)).row j hjl
          have hil : i < (nthL L j).length := by have := fitB_nth hfit hjl; omega
          have hix3 := hrow.run_index (P := Tryd.prog) slInts i hil
          have hc3 := hrow.cell i hil
          clear hil hrow
          go_wp2_with (at_builtin; refine wpList_app1 rfl _ _ 23 rfl slInts rfl HX2 HO2 rfl _ rfl rfl (by omega) (by omega) ?_; intro v' w6 HO3 HX3 _)
          go_roundw
          case rel => exact ⟨j + 1, by omega, by go_num, by rw [col_step i hjl]; exact HO3, HX3⟩
          case measure => simp [intOf]; omega
        · obtain rfl : j = L.length := by omega
          rw [List.take_length] at HO2
          have hcol := Lib.hid (Ints.of_own HO2)
          have hcl := col_length L i
          have HX15 := Lib.hid ((HX3.out.trans HX1).trans HX2)
          have hi1 : i < l1.length := by have := HL.out; omega
          have hix4 := H1.out.run_index (P := Tryd.prog) slInts i hi1
          have hc4 := (H1.out.ext HX15.out).cell i hi1
          have hnn := (HX1.trans HX2).cell HN3.out
          obtain ⟨bb, hbb, d1, d2, d3, d4⟩ := (H.out.ext HX15.out)
          have HDD := Lib.hid (H.out.ext HX15.out)
          have HFF := Lib.hid (C.out.ext HX15.out)
          subst hbb
          go_wp2_with fail
          have hq : IntKind.i64.wrap (3 * (n' : Int)) = 3 * (n' : Int) := IntWalk.i64_in _ (by omega)
          have hsz : (col L i).length ≤ 9223372036854775806 := by omega
          clear hix hcl hl1 hl2 hlp
          refine wp_region_move_quiet_tail 19 _ (by kernel_rfl) rfl rfl (by kernel_rfl) ?_
          simp only [List.take_succ_cons, List.take_zero, List.drop_succ_cons, List.drop_zero]
          repeat (go_big_quiet_step (first | (go_at_call 100; exact dfield_q HDD.out _) | (go_at_call 101; exact pow_q HFF.out _ _ (by omega) (by omega) _) | (go_at_call 99; exact Calls.quiet_of (mixed_any (HFF.out.drewN _) _ g _ _ _ (hcol.out.drewN _) hsz))))
          refine wpQuiet_nil ?_
          rintro _ ⟨nq, rfl⟩
          have HO4 := own_ext HO1 (HX2.trans (Ext.drewN wr nq))
          have HX4 := HX1.trans (HX2.trans (Ext.drewN wr nq))
          have HM4 := Lib.hid (show w5.grownBy (wr.drewN nq) v4.ownBlock from grown_ext HM.out.1 (HX2.trans (Ext.drewN wr nq)))
          clear hix4 hc4 hnn d1 d2 d3 d4
          go_wp2_with (at_builtin; refine wpList_appNw rfl _ _ 23 rfl slInts rfl HX4.size HO4 rfl _ rfl (by intro u hu; simp at hu; subst hu; rfl) rfl (by omega) (by omega) ?_; intro v' w7 HO7 HG7 HW7)
          refine NoPan.normal ?_
          go_wp2_with fail
          go_roundw
          case rel => exact ⟨i + 1, by omega, by go_num, by rw [batchL_succ]; exact HO7, Ext.own_grown HX4 HO4 HG7, Lib.hid ⟨grown_trans HM4.out HM.out.2 HG7, HM.out.2.trans HW7 HM4.out.size⟩⟩
          case measure => simp [intOf]; omega
    · obtain rfl : i = n' := by omega
      go_wp2_with fail
      go_ret2
      exact .mk _ rfl (HX3.out.trans HX1) ⟨_, rfl, Ints.of_own HO1⟩
end Go.Proofs.YthjemncbphdomaaDoor
