/- Vouchers, the document's side: all columns at all points; the word of all rules: contracts. -/
import Derived.Test.YtnmjaddhbecopaaGreatDoorXa
namespace Go.Proofs.YtnmjaddhbecopaaGreatDoor
open Go.RowKit Go.Att
theorem wideR_take (p g n : Int) (K W : Nat) (L : List (List Int)) (i j : Nat) (hj : j < W) : (wideR p g n K W L i).take (j + 1) = (wideR p g n K W L i).take j ++ [nth (wideL p g n K (colL L j)) i] := by
  rw [List.take_succ_eq_append_getElem (by rw [wideR_length]; exact hj)]
  simp [wideR]
/-- The word of all rules. -/
def compF (p sz out : Int) (cd : List In4) (x y a g n : Int) (N : Nat) (R : Nat → List Int) (zs : List Int) (i : Nat) : Int :=
  atC p sz out cd x y a (ptAt p g (froot p g (8 * n)) i) (ptAt p 1 (froot p g n) (n.toNat - 1)) n.toNat (R i) (R ((i + 8) % N)) (nth zs i) (nth zs ((i + 8) % N))
section
variable {w : World} {b : Nat} {p sz out n g : Int} {cd : List In4} {lv : Value} {x y a gg : Int} {K : Nat}
set_option maxRecDepth 100000 in
set_option maxHeartbeats 8000000 in
theorem dwide_any (h : TAt w b p sz out n g cd lv x y a gg) (hB : FitOk p n cd.length K) (hp2 : p ≤ 2147483647) (hg1 : 1 ≤ g) (hg2 : g < p) {v : Value} {L : List (List Int)} (hv : Rws w v L) (hL : L.length = 2 ^ K) {W : Nat} (hr : ∀ i, i < L.length → (nthL L i).length = W) (hW : W ≤ 1048576) :
    Calls Tryz.prog 26 #[.pointer (some ⟨b, 0, none⟩), v] w (Gives w fun u w' => Rws w' u ((List.range (2 ^ (K + 3))).map (wideR p g n K W L))) := by
  have hbd := hB.bd
  have hLn : 4 ≤ L.length ∧ L.length ≤ 512 := by have := hB.nat; omega
  have HRW := Lib.hid hv
  obtain ⟨R, hv⟩ := hv
  have hll := hv.run_len (P := Tryz.prog) slRowsK
  have hix0 : ∀ w' : World, (Instr.indexAt 22 v (.int .i64 0)).run Tryz.prog w' = .ok (.pointer (some (elt v 0 1))) w' := hv.run_index (P := Tryz.prog) slRowsK 0 (by omega)
  have hrl := (hv.row 0 (by omega)).run_len (P := Tryz.prog) slInts
  rw [hr 0 (by omega)] at hrl
  have HV := Lib.hid hv; have HR := Lib.hid hr; have H := Lib.hid h; have HB := Lib.hid hB; have HLK := Lib.hid hL
  obtain ⟨N, hN⟩ : ∃ N, 2 ^ (K + 3) = N := ⟨_, rfl⟩
  have h8 : 8 * n = (N : Int) := by have := hB.nat; rw [← hN, Nat.pow_add]; omega
  have hN2 : 32 ≤ N ∧ N ≤ 4096 := by omega
  have c4 := h.c4
  have H8 := Lib.hid h8; have HNN := Lib.hid hN
  rw [hN]
  clear hv hr h hB hL hN h8
  go_enter Tryz.func26, Tryz.ntmps26
  go_wp2_with (refine wpList_mkn rfl _ _ 22 rfl slRowsK (Ext.refl w) rfl rfl (by omega) (by omega) (by omega) ?_; intro v1 w1 HO1 HX1 _; rw [show (8 * n).toNat = N by (have := H8.out; omega)] at HO1; obtain ⟨a1, c1, rfl⟩ := own_shape HO1)
  have HG0 := Lib.hid (GrowAt.made (e := 3) HO1 (by decide))
  have HX0 := Lib.hid HX1
  clear HO1 HX1 c4
  go_loopw [6, 7, 8] (fun x6 _ _ wr => ∃ (j : Nat) (Q : Nat → Value), j ≤ W ∧ x6 = .int .i64 j ∧ Hid (GrowAt w.heap.size wr 23 3 (.slice a1 N c1) N Q (fun r => (wideR p g n K W L r).take j)) ∧ Hid (Ext w wr)) (fun x6 _ _ _ => W - (intOf x6).toNat)
  case atStart => exact ⟨0, _, by omega, rfl, HG0, HX0⟩
  case round =>
    clear HG0 HX0
    obtain ⟨j, Q, hj, rfl, HG, HX⟩ := hrel
    have hc0 := (HV.out.ext HX.out).cell 0 (by omega)
    by_cases hjw : j < W
    · go_wp2_with fail
      refine (dcolumn_any (H.out.ext HX.out) HB.out hp2 hg1 hg2 (HRW.out.ext HX.out) HLK.out j (fun i hi => by rw [HR.out i hi]; exact hjw) (by omega)).mono ?_
      rintro e w4 ⟨u4, rfl, hx4, hI4, hN4⟩
      have HTK := Lib.hid (fun i => wideR_take p g n K W L i j hjw)
      have hll4 := hI4.run_len (P := Tryz.prog) slInts
      have hwl : (wideL p g n K (colL L j)).length = N := by rw [wideL_length]; exact HNN.out
      rw [hwl] at hll4
      have HWL := Lib.hid hwl
      have HG4 := Lib.hid (HG.out.ext hx4)
      have HX4 := Lib.hid (HX.out.trans hx4)
      have HI4 := Lib.hid hI4; have HN4 := Lib.hid (show NewIn wr u4 from hN4)
      have HNV := Lib.hid (show ∀ k, u4.ownBlock = some k → some k ≠ (Value.slice a1 N c1).ownBlock from fun k hk hc => by
        have h1 := hN4 k hk
        have h2 := (HG.out.own.lt k hc.symm).2
        omega)
      have HQ0 := Lib.hid (show ∀ r, r < N → ∀ k, (Q r).ownBlock = some k → u4.ownBlock ≠ some k from fun r hr k hk hc => by
        have h1 := hN4 k hc
        have h2 := ((HG.out.row r hr).lt k hk).2
        omega)
      clear hx4 hI4 hN4 hwl hc0 HG HX HN4
      go_wp2_with fail
      go_loopw [8] (fun x8 wq => ∃ (i : Nat) (Q : Nat → Value), i ≤ N ∧ x8 = .int .i64 i ∧ Hid (GrowAt w.heap.size wq 23 3 (.slice a1 N c1) N Q (fun r => if r < i then (wideR p g n K W L r).take (j + 1) else (wideR p g n K W L r).take j)) ∧ Hid (Ext w wq) ∧ Hid (Ints wq u4 (wideL p g n K (colL L j))) ∧ Hid (∀ r, r < N → ∀ k, (Q r).ownBlock = some k → u4.ownBlock ≠ some k)) (fun x8 _ => N - (intOf x8).toNat)
      case atStart => exact ⟨0, Q, by omega, rfl, Lib.hid (HG4.out.congr (fun r _ => by rw [if_neg (by omega)])), HX4, HI4, HQ0⟩
      case round =>
        clear HG4 HX4 HI4 HQ0
        obtain ⟨i, Q, hi, rfl, HG, HX, HI, HQ⟩ := hrel
        by_cases hin : i < N
        · have hiy := HI.out.run_index (P := Tryz.prog) slInts i (by rw [HWL.out]; exact hin)
          have hcy := HI.out.cell i (by rw [HWL.out]; exact hin)
          have HLW := Lib.hid (ints_lt HI.out (by rw [HWL.out]; omega))
          have hio := fun w' => (Sl.of_own HG.out.own (by omega)).run_index (P := Tryz.prog) slRowsK (i : Int) (by omega) (by omega) w'
          simp only [Int.toNat_natCast] at hio
          have hco := HG.out.cell hin
          have hRW := HG.out.row i hin
          rw [if_neg (by omega)] at hRW
          have HL2 := Lib.hid (HTK.out i)
          have hlen : ((wideR p g n K W L i).take j).length = j := by rw [List.length_take, wideR_length]; omega
          obtain ⟨tk, htk⟩ : ∃ tk, (wideR p g n K W L i).take j = tk := ⟨_, rfl⟩
          rw [htk] at hRW HL2 hlen
          have hb1 : tk.length + 1 ≤ 4294967296 := by omega
          have hbase : w.heap.size ≤ wr.drew.heap.size := HX.out.size
          obtain ⟨xx, hx⟩ : ∃ xx, nth (wideL p g n K (colL L j)) i = xx := ⟨_, rfl⟩
          rw [hx] at hcy HL2
          have hco2 := (Ext.alloc wr (Obj.cells #[.int .i64 xx] 3)).cell hco
          have hcy2 := (Ext.alloc wr (Obj.cells #[.int .i64 xx] 3)).cell hcy
          obtain ⟨U, hU⟩ : ∃ U : Nat → List Int, (fun r => if r < i then (wideR p g n K W L r).take (j + 1) else (wideR p g n K W L r).take j) = U := ⟨_, rfl⟩
          have HUS := Lib.hid (show U i = tk from by rw [← hU]; simp only [Nat.lt_irrefl, if_false]; exact htk)
          have HNX := Lib.hid (show ∀ r, r < N → updN U i (U i ++ [xx]) r = (fun r => if r < i + 1 then (wideR p g n K W L r).take (j + 1) else (wideR p g n K W L r).take j) r from fun r _ => by
            by_cases h : r = i
            · subst h; rw [updN_same, HUS.out, ← HL2.out]; simp
            · rw [updN_other _ _ h, ← hU]
              by_cases h2 : r < i
              · simp [h2, show r < i + 1 by omega]
              · simp [h2, show ¬ r < i + 1 by omega])
          rw [hU] at HG
          have HGD := Lib.hid (HG.out.ext (Ext.drew wr))
          have HRD := Lib.hid (own_ext hRW (Ext.drew wr))
          have HID := Lib.hid (HI.out.ext (Ext.drew wr))
          clear hlen hRW htk hx HL2 hU HG HI
          go_wp2_with fail
          refine wp_region_calm ?_
          go_region_law ((refine step_appGw (W := wr.drew) rfl _ _ 23 rfl slInts rfl hbase HRD.out rfl #[.int .i64 xx] rfl (by simp [Value.oneCell']) rfl hb1 (by omega) ?_; intro v8 w8 HO8 HG8 HM8; obtain ⟨a8, c8, rfl⟩ := own_shape HO8; have HO8H := Lib.hid HO8; have HG8H := Lib.hid HG8; have HM8H := Lib.hid HM8; have hm8 := HGD.out.mid hin HG8; have hc8 : w8.cell? (elt (.slice a1 N c1) i 1) = some (Q i) := by { have := Sl.cell (Sl.of_own hm8 (by omega)) i 0 hin (by omega); simp only [Addr.add, if_true, Nat.add_zero, Nat.mul_one] at this; rw [this]; simp [hin] }; have hf8 := (own_setCell hm8 hin (.slice a8 (tk.length + 1) c8)).1; have HS8 := Lib.hid (own_setCell hm8 hin (.slice a8 (tk.length + 1) c8)).2; clear HO8 HG8 HM8 hm8))
          all_goals
            refine Calm.normal ?_
            have HG9 := Lib.hid ((HGD.out.put hin (x := xx) (by rw [HUS.out]; exact HO8H.out) HG8H.out HM8H.out HS8.out.1 HS8.out.2).congr HNX.out)
            have HX9 := Lib.hid (HGD.out.outer (HX.out.trans (Ext.drew wr)) hin HG8H.out HS8.out.2)
            have HI9 := Lib.hid ((HID.out.grown HG8H.out (fun k hk hc => HQ.out i hin k hc.symm hk)).grown HS8.out.2 HNV.out)
            have HQ9 := Lib.hid (show ∀ r, r < N → ∀ k, (updN Q i (.slice a8 (tk.length + 1) c8) r).ownBlock = some k → u4.ownBlock ≠ some k from fun r hr k hk hc => by
              by_cases h : r = i
              · subst h
                rw [updN_same] at hk
                rcases HM8H.out with hm | hm
                · exact HQ.out r hr k (by rw [← hm]; exact hk) hc
                · have h1 := hm k hk
                  have h2 := HLW.out k hc
                  have h3 : wr.drew.heap.size = wr.heap.size := rfl
                  omega
              · rw [updN_other _ _ h] at hk
                exact HQ.out r hr k hk hc)
            clear hc8 hf8 HS8 HO8H HG8H HM8H hiy hcy hcy2 hio hco hco2 HX HGD HRD HNX HID HQ
            revert HG9 HX9 HI9
            generalize World.setCell _ (elt (.slice a1 N c1) i 1) _ = W9
            intro HG9 HX9 HI9
            go_wp2_with fail
            go_roundw
            case rel => exact ⟨i + 1, _, by omega, by go_num, HG9, HX9, HI9, HQ9⟩
            case measure => simp [intOf]; omega
        · obtain rfl : i = N := by omega
          go_wp2_with fail
          go_roundw
          case rel => exact ⟨j + 1, Q, by omega, by go_num, Lib.hid (HG.out.congr (fun r hr => by rw [if_pos hr])), HX⟩
          case measure => simp [intOf]; omega
    · obtain rfl : j = W := by omega
      go_wp2_with fail
      go_ret
      exact .mk _ rfl HX.out (by
        have h := HG.out.rws
        rw [show (List.range N).map (fun r => (wideR p g n K j L r).take j) = (List.range N).map (wideR p g n K j L) from List.map_congr_left fun r _ => List.take_of_length_le (by rw [wideR_length]; exact Nat.le_refl _)] at h
        exact ⟨_, h⟩)
end
end Go.Proofs.YtnmjaddhbecopaaGreatDoor
