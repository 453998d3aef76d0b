/- Vouchers: a column at the points of the wide circle, all columns, all rows: the program's side: contracts. -/
import Derived.Test.YtnmjaddhbecopaaGreatDoorWo
namespace Go.Proofs.YtnmjaddhbecopaaGreatDoor
open Go.RowKit Go.Att
section
variable {w : World} {pl : Value} {bf : Nat} {p g sz n : Int} {cd : List In4} {lv dr dw : Value} {K l : Nat}
set_option maxRecDepth 100000 in
set_option maxHeartbeats 4000000 in
theorem pcolumn_any (h : PlcAt w pl bf p g sz n cd lv dr dw) (hB : FitOk p n l K) {v : Value} {c : List Int} (hv : Ints w v c) (hc : c.length = 2 ^ K) :
    Calls Tryz.prog 76 #[pl, v] w (Gives w fun u w' => Ints w' u (wideL p g n K c) ∧ NewIn w u) := by
  have hbd := hB.bd
  have h1 := h.rows; have h2 := h.wide
  have HW := Lib.hid h.wide
  obtain ⟨fs, hf⟩ := h.fld.fld
  have hp3 : 3 ≤ p := by have := hB.lt; omega
  have hpr := hf.pr
  have hgen := h.fld.gen
  obtain ⟨b, rfl, c0, c1, c2, c3, c4, c5⟩ := h.cells
  have HN := Lib.hid (show ∀ m, K = m + 1 → finv p (froot p g n) ^ (2 ^ m) % p = (-1) % p from fun m hm => by
    have hr := root_neg hpr hp3 hgen (n := n) (m := m) (by rw [hB.two, hm]) hB.div1
    exact inv_neg hpr (root_unit hp3 hr) hr)
  have HM := Lib.hid (show ∀ m, K + 3 = m + 1 → froot p g (8 * n) ^ (2 ^ m) % p = (-1) % p from fun m hm => root_neg hpr hp3 hgen (n := 8 * n) (m := m) (by rw [hB.eight, hm]) hB.div)
  have HC := Lib.hid (coef_any h1 hf K (by have := hB.hi; omega) hB.two hv hc)
  have HV := Lib.hid (fun (w' : World) (hx : Ext w w') (u : Value) (hu : Ints w' u (trimL p (cofL p (froot p g n) K n 1 c))) => values_any (h2.ext hx) (hf.ext hx) (K + 3) (by omega) (by have := hB.hi; omega) hB.eight hu (by
    have t1 := trimL_length p (cofL p (froot p g n) K n 1 c)
    rw [cofL_length] at t1
    have : 2 ^ K ≤ 2 ^ (K + 3) := Nat.pow_le_pow_right (by decide) (by omega)
    omega) HM.out)
  clear h1 h2 h hf hgen hpr hv hc hB
  go_enter Tryz.func76, Tryz.ntmps76
  go_wp2_with (first | (go_at_call 143; refine HC.out.mono ?_; rintro e w1 ⟨v1, rfl, hx1, u1, M, rfl, hu1, hM, hcz⟩; rw [cofs_same HN.out hM hcz] at hu1; have HU := Lib.hid hu1; have HX := Lib.hid hx1; replace c5 := hx1.cell c5; clear hu1 hM hcz hx1 c0 c1 c2 c3 c4) | (go_at_call 133; refine (HV.out _ HX.out _ HU.out).mono ?_; rintro e w2 ⟨v2, rfl, hx2, hi2, hn2⟩; have HI := Lib.hid hi2; have HN2 := Lib.hid hn2; have HX2 := Lib.hid hx2; clear hi2 hn2 hx2))
  go_ret
  exact .mk _ rfl (HX.out.trans HX2.out) ⟨HI.out, HN2.out.mono HX.out.size⟩
set_option maxRecDepth 100000 in
set_option maxHeartbeats 8000000 in
theorem pcolumns_any (h : PlcAt w pl bf p g sz n cd lv dr dw) (hB : FitOk p n l K) {v : Value} {L : List (List Int)} (hv : Rws w v L) (hL : L.length = 2 ^ K) {W : Nat} (hr : ∀ i, i < L.length → (nthL L i).length = W) (hW : W ≤ 1048576) :
    Calls Tryz.prog 75 #[pl, v] w (Gives w fun u w' => ∃ R, Grid w.heap.size w' 23 u ((List.range W).map fun j => wideL p g n K (colL L j)) R) := by
  obtain ⟨R, hv⟩ := hv
  have hbd := hB.bd
  have hLn : 4 ≤ L.length ∧ L.length ≤ 512 := by have := hB.nat; omega
  have hll := hv.run_len (P := Tryz.prog) slRowsK
  have hix0 : ∀ w' : World, (Instr.indexAt 22 v (.int .i64 0)).run Tryz.prog w' = .ok (.pointer (some (elt v 0 1))) w' := hv.run_index (P := Tryz.prog) slRowsK 0 (by omega)
  have hc0 := hv.cell 0 (by omega)
  have hrl := (hv.row 0 (by omega)).run_len (P := Tryz.prog) slInts
  rw [hr 0 (by omega)] at hrl
  obtain ⟨b, hb, -⟩ := h.cells
  subst hb
  have HV := Lib.hid hv; have HR := Lib.hid hr; have HP := Lib.hid h; have HB := Lib.hid hB; have HLK := Lib.hid hL
  clear hv hr h hB hL hbd
  go_enter Tryz.func75, Tryz.ntmps75
  go_wp2_with fail
  go_loopw [5, 6, 7, 9, 14] (fun x5 _ _ _ x14 wr => ∃ (k : Nat) (R' : Nat → Value), k ≤ W ∧ x14 = .int .i64 k ∧ Hid (Grid w.heap.size wr 23 x5 ((List.range k).map fun j => wideL p g n K (colL L j)) R') ∧ Hid (Ext w wr)) (fun _ _ _ _ x14 _ => W - (intOf x14).toNat)
  case atStart => exact ⟨0, fun _ => .slice none 0 0, by omega, rfl, Lib.hid (Grid.nil _ _ _ _), Lib.hid (Ext.refl _)⟩
  case round =>
    clear hix0 hc0 hrl
    obtain ⟨k, R', hk, rfl, HG, HX⟩ := hrel
    by_cases hkw : k < W
    · go_wp2_with fail
      generalize wr = w9 at *
      go_loopw [7, 9, 19] (fun x7 _ x19 wq => ∃ i : Nat, i ≤ L.length ∧ x19 = .int .i64 i ∧ wq.ownsRow w9.heap.size 3 1 x7 i (((colL L k).take i).map (Value.int .i64)) ∧ Ext w9 wq) (fun _ _ x19 _ => L.length - (intOf x19).toNat)
      case atStart => exact ⟨0, by omega, rfl, World.ownsRow_nil _ _ _ _, Ext.refl _⟩
      case round =>
        obtain ⟨i, hi, rfl, HO, HXQ⟩ := hrel
        by_cases hil : i < L.length
        · have hix := HV.out.run_index (P := Tryz.prog) slRowsK i hil
          have hci := (HV.out.ext (HX.out.trans HXQ)).cell i hil
          have hiy := (HV.out.row i hil).run_index (P := Tryz.prog) slInts k (by rw [HR.out i hil]; exact hkw)
          have hcy := ((HV.out.row i hil).ext (HX.out.trans HXQ)).cell k (by rw [HR.out i hil]; exact hkw)
          have ST := Lib.hid (colL_snoc (k := k) hil)
          go_wp2_with (at_builtin; refine wpList_app1 rfl _ _ 23 rfl slInts rfl HXQ HO rfl _ rfl rfl (by omega) (by omega) ?_; intro v2 w2 HO2 HX2 _)
          go_roundw
          case rel => exact ⟨i + 1, by omega, by go_num, by rw [ST.out]; exact HO2, HX2⟩
          case measure => simp [intOf]; omega
        · obtain rfl : i = L.length := by omega
          rw [List.take_of_length_le (by rw [colL_length]; exact Nat.le_refl _)] at HO
          have HI := Lib.hid (Ints.of_own HO)
          have HGQ := Lib.hid (HG.out.ext HXQ)
          have HXA := Lib.hid (HX.out.trans HXQ)
          have hlk : ((List.range k).map fun j => wideL p g n K (colL L j)).length = k := by simp
          have HLEN := Lib.hid hlk
          have HST := Lib.hid (show (List.range (k + 1)).map (fun j => wideL p g n K (colL L j)) = (List.range k).map (fun j => wideL p g n K (colL L j)) ++ [wideL p g n K (colL L k)] by simp [List.range_succ])
          have HCL := Lib.hid (colL_length L k)
          have HWL := Lib.hid (wideL_length p g n K (colL L k))
          generalize (List.range k).map (fun j => wideL p g n K (colL L j)) = G at *
          generalize colL L k = ck at *
          obtain ⟨wd, hwd⟩ : ∃ wd, wideL p g n K ck = wd := ⟨_, rfl⟩
          rw [hwd] at HST HWL
          have HWD := Lib.hid hwd
          clear hwd HO HXQ hlk HG HX
          have hpos : 1 ≤ 2 ^ (K + 3) := Nat.one_le_two_pow
          have hlt2 : 2 ^ (K + 3) ≤ 4096 := by
            have e1 : 2 ^ (K + 3) ≤ 2 ^ 12 := Nat.pow_le_pow_right (by decide) (by have := HB.out.hi; omega)
            omega
          go_wp2_with (first | (go_at_call 76; refine (pcolumn_any (HP.out.ext HXA.out) HB.out HI.out (by rw [HCL.out]; exact HLK.out)).mono ?_; rintro e w3 ⟨u3, rfl, hx3, hI3, hN3⟩; rw [HWD.out] at hI3; obtain ⟨au, cu, rfl⟩ := hI3.shape; have HX3 := Lib.hid hx3; have HI3 := Lib.hid hI3; have HN3 := Lib.hid hN3; have HO := (HGQ.out.ext hx3).own; rw [HLEN.out] at HO; have hsz : w.heap.size ≤ w3.heap.size := (HXA.out.trans hx3).size; clear hx3 hI3 hN3) | (at_builtin; refine wpList_appNw rfl _ _ 22 rfl slRowsK rfl hsz HO rfl #[.slice au wd.length cu] rfl (by intro u hu; simp at hu; subst hu; rfl) rfl (by omega) (by omega) ?_; intro v4 w4 HO4 HG4 HM4))
          go_roundw
          case rel =>
            refine ⟨k + 1, _, by omega, by go_num, Lib.hid (by rw [HST.out]; exact (HGQ.out.ext HX3.out).push HI3.out (fun q hq => ⟨Nat.le_trans HXA.out.size (HN3.out q hq), ints_lt HI3.out (by rw [HWL.out]; omega) q hq, later_ne HGQ.out.own HN3.out q hq⟩) (by rw [HLEN.out]; exact HO4) HG4 HM4), Lib.hid (Ext.own_grown (HXA.out.trans HX3.out) HO HG4)⟩
          case measure => simp [intOf]; omega
    · obtain rfl : k = W := by omega
      go_wp2_with fail
      go_ret
      exact .mk _ rfl HX.out ⟨R', HG.out⟩
end
set_option maxRecDepth 100000 in
set_option maxHeartbeats 8000000 in
theorem turned_any {w : World} {v : Value} {C : List (List Int)} (hv : Rws w v C) (h0 : 0 < C.length) {N : Nat} (hr : ∀ i, i < C.length → (nthL C i).length = N) (hN : N ≤ 65536) (hC : C.length ≤ 1048576) :
    Calls Tryz.prog 74 #[v] w (Gives w fun u w' => Rws w' u ((List.range N).map fun i => (List.range C.length).map fun j => nth (nthL C j) i)) := by
  obtain ⟨R, hv⟩ := hv
  have hll := hv.run_len (P := Tryz.prog) slRowsK
  have hix0 : ∀ w' : World, (Instr.indexAt 22 v (.int .i64 0)).run Tryz.prog w' = .ok (.pointer (some (elt v 0 1))) w' := hv.run_index (P := Tryz.prog) slRowsK 0 h0
  have hc0 := hv.cell 0 h0
  have hrl := (hv.row 0 h0).run_len (P := Tryz.prog) slInts
  rw [hr 0 h0] at hrl
  have HV := Lib.hid hv; have HR := Lib.hid hr
  obtain ⟨full, hfull⟩ : ∃ full : Nat → List Int, full = fun i => (List.range C.length).map fun j => nth (nthL C j) i := ⟨_, rfl⟩
  have HF1 := Lib.hid (show ∀ i, (full i).length = C.length from fun i => by rw [hfull]; simp)
  have HF2 := Lib.hid (show ∀ i j, j < C.length → (full i).take (j + 1) = (full i).take j ++ [nth (nthL C j) i] from fun i j hj => by
    rw [List.take_succ_eq_append_getElem (by rw [HF1.out]; exact hj)]
    subst hfull; simp)
  rw [← hfull]
  clear hv hr hfull
  go_enter Tryz.func74, Tryz.ntmps74
  go_wp2_with (refine wpList_mkn rfl _ _ 22 rfl slRowsK (Ext.refl w) rfl rfl (by omega) (by omega) (by omega) ?_; intro v1 w1 HO1 HX1 _; rw [Int.toNat_natCast] at HO1; obtain ⟨a1, c1, rfl⟩ := own_shape HO1; have hl1 := (Sl.of_own HO1 (by omega)).run_len (P := Tryz.prog) slRowsK)
  have HG0 := Lib.hid (GrowAt.made (e := 3) HO1 (by decide))
  have HX0 := Lib.hid HX1
  clear HO1 HX1 hix0 hc0 hrl
  go_loopw [4, 6, 14, 19] (fun _ _ x14 _ wr => ∃ (i : Nat) (Q : Nat → Value), i ≤ N ∧ x14 = .int .i64 i ∧ Hid (GrowAt w.heap.size wr 23 3 (.slice a1 N c1) N Q (fun r => if r < i then full r else [])) ∧ Hid (Ext w wr)) (fun _ _ x14 _ _ => N - (intOf x14).toNat)
  case atStart => exact ⟨0, _, by omega, rfl, Lib.hid (HG0.out.congr (fun r _ => by rw [if_neg (by omega)])), HX0⟩
  case round =>
    clear HG0 HX0
    obtain ⟨i, Q, hi, rfl, HG, HX⟩ := hrel
    by_cases hin : i < N
    · go_wp2_with fail
      generalize wr = w9 at *
      go_loopw [6, 19] (fun _ x19 wq => ∃ (j : Nat) (Q : Nat → Value), j ≤ C.length ∧ x19 = .int .i64 j ∧ Hid (GrowAt w.heap.size wq 23 3 (.slice a1 N c1) N Q (updN (fun r => if r < i then full r else []) i ((full i).take j))) ∧ Hid (Ext w wq)) (fun _ x19 _ => C.length - (intOf x19).toNat)
      case atStart => exact ⟨0, Q, by omega, rfl, Lib.hid (HG.out.congr (fun r _ => by by_cases h : r = i; subst h; rw [updN_same, if_neg (by omega)]; rfl; rw [updN_other _ _ h])), HX⟩
      case round =>
        clear HG HX
        obtain ⟨j, Q, hj, rfl, HG, HX⟩ := hrel
        by_cases hjc : j < C.length
        · have hix := HV.out.run_index (P := Tryz.prog) slRowsK j hjc
          have hci := (HV.out.ext HX.out).cell j hjc
          have hiy := (HV.out.row j hjc).run_index (P := Tryz.prog) slInts i (by rw [HR.out j hjc]; exact hin)
          have hcy := ((HV.out.row j hjc).ext HX.out).cell i (by rw [HR.out j hjc]; exact hin)
          have hio := fun w' => (Sl.of_own HG.out.own (by omega)).run_index (P := Tryz.prog) slRowsK (i : Int) (by omega) (by omega) w'
          simp only [Int.toNat_natCast] at hio
          have hco := HG.out.cell hin
          have hRW := HG.out.row i hin
          rw [updN_same] at hRW
          have HL2 := Lib.hid (HF2.out i j hjc)
          have hlen : ((full i).take j).length = j := by rw [List.length_take, HF1.out]; omega
          obtain ⟨tk, htk⟩ : ∃ tk, (full i).take j = tk := ⟨_, rfl⟩
          rw [htk] at hRW HG HL2 hlen
          have hb1 : tk.length + 1 ≤ 4294967296 := by omega
          have hbase : w.heap.size ≤ wr.drew.heap.size := HX.out.size
          obtain ⟨x, hx⟩ : ∃ x, nth (nthL C j) i = x := ⟨_, rfl⟩
          rw [hx] at hcy HL2
          have hco2 := (Ext.alloc wr (Obj.cells #[.int .i64 x] 3)).cell hco
          have HGD := Lib.hid (HG.out.ext (Ext.drew wr))
          have HRD := Lib.hid (own_ext hRW (Ext.drew wr))
          have HNX := Lib.hid (show ∀ r, r < N → updN (updN (fun r => if r < i then full r else []) i tk) i (updN (fun r => if r < i then full r else []) i tk i ++ [x]) r = updN (fun r => if r < i then full r else []) i ((full i).take (j + 1)) r from fun r _ => by
            by_cases h : r = i
            · subst h; rw [updN_same, updN_same, updN_same, HL2.out]
            · rw [updN_other _ _ h, updN_other _ _ h, updN_other _ _ h])
          have HUS := Lib.hid (updN_same (fun r => if r < i then full r else []) i tk)
          generalize updN (fun r => if r < i then full r else []) i tk = U at *
          clear hlen hRW htk hx HL2
          go_wp2_with fail
          refine wp_region_calm ?_
          go_region_law ((refine step_appGw (W := wr.drew) rfl _ _ 23 rfl slInts rfl hbase HRD.out rfl #[.int .i64 x] rfl (by simp [Value.oneCell']) rfl hb1 (by omega) ?_; intro v8 w8 HO8 HG8 HM8; obtain ⟨a8, c8, rfl⟩ := own_shape HO8; have HO8H := Lib.hid HO8; have HG8H := Lib.hid HG8; have HM8H := Lib.hid HM8; have hm8 := HGD.out.mid hin HG8; have hc8 : w8.cell? (elt (.slice a1 N c1) i 1) = some (Q i) := by { have := Sl.cell (Sl.of_own hm8 (by omega)) i 0 hin (by omega); simp only [Addr.add, if_true, Nat.add_zero, Nat.mul_one] at this; rw [this]; simp [hin] }; have hf8 := (own_setCell hm8 hin (.slice a8 (tk.length + 1) c8)).1; have HS8 := Lib.hid (own_setCell hm8 hin (.slice a8 (tk.length + 1) c8)).2; clear HO8 HG8 HM8 hm8))
          all_goals
            refine Calm.normal ?_
            have HG9 := Lib.hid ((HGD.out.put hin (x := x) (by rw [HUS.out]; exact HO8H.out) HG8H.out HM8H.out HS8.out.1 HS8.out.2).congr HNX.out)
            have HX9 := Lib.hid (HGD.out.outer (HX.out.trans (Ext.drew wr)) hin HG8H.out HS8.out.2)
            clear hc8 hf8 HS8 HO8H HG8H HM8H hix hci hiy hcy hio hco hco2 HG HX HGD HRD HNX
            revert HG9 HX9
            generalize World.setCell _ (elt (.slice a1 N c1) i 1) _ = W9
            intro HG9 HX9
            go_wp2_with fail
            go_roundw
            case rel => exact ⟨j + 1, _, by omega, by go_num, HG9, HX9⟩
            case measure => simp [intOf]; omega
        · obtain rfl : j = C.length := by omega
          go_wp2_with fail
          go_roundw
          case rel => exact ⟨i + 1, Q, by omega, by go_num, Lib.hid (HG.out.congr (fun r _ => by
            by_cases h2 : r = i
            · subst h2; rw [updN_same, if_pos (by omega), List.take_of_length_le (by rw [HF1.out]; exact Nat.le_refl _)]
            · rw [updN_other _ _ h2]
              by_cases h1 : r < i
              · rw [if_pos h1, if_pos (by omega)]
              · rw [if_neg h1, if_neg (by omega)])), HX⟩
          case measure => simp [intOf]; omega
    · obtain rfl : i = N := by omega
      go_wp2_with fail
      go_ret
      exact .mk _ rfl HX.out (by
        have h := HG.out.rws
        rw [show (List.range i).map (fun r => if r < i then full r else []) = (List.range i).map full from List.map_congr_left fun r hr => by rw [if_pos (List.mem_range.1 hr)]] at h
        exact ⟨_, h⟩)
end Go.Proofs.YtnmjaddhbecopaaGreatDoor
