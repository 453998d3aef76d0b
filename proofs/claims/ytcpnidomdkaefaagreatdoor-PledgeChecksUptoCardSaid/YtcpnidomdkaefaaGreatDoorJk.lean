/- A table's columns, the program's side: contract. -/
import Derived.Test.YtcpnidomdkaefaaGreatDoorJi
import Derived.Test.YtcpnidomdkaefaaGreatDoorJg
import Derived.Test.YtcpnidomdkaefaaGreatDoorGr
import Derived.Test.YtcpnidomdkaefaaGreatDoorWv
namespace Go.Proofs.YtcpnidomdkaefaaGreatDoor
open Go.RowKit Go.Att
section
variable {w : World}
set_option maxRecDepth 100000 in
set_option maxHeartbeats 8000000 in
theorem pcols_any {s d : Value} {bf : Nat} {p g0 n sh rt : Int} {fs : List Int} {a b : Nat} (hs : ShpOf w s (.pointer (some ⟨bf, 0, none⟩)) d a b) (hd : DomOf w d (.pointer (some ⟨bf, 0, none⟩)) n sh rt) (hf : Fld w (.pointer (some ⟨bf, 0, none⟩)) p g0 fs) (K : Nat) (hK1 : 1 ≤ K) (hK : K ≤ 16) (hn : n = (2 : Int) ^ K) (hrt : ∀ m, K = m + 1 → rt ^ (2 ^ m) % p = (-1) % p)
    {vr : Value} {L : List (List Int)} {R : Nat → Value} (hr : RwsAt w vr L R) (hL : L.length ≤ 4096) (hrl : ∀ i, i < L.length → (nthL L i).length ≤ 2 ^ K) :
    Calls Tryz.prog 69 #[s, vr] w (Gives w fun u w' => Rws w' u (colsL p sh rt (2 ^ K) L)) := by
  have hll := hr.run_len (P := Tryz.prog) slRows
  have HV := Lib.hid hr; have HD := Lib.hid hd; have HF := Lib.hid hf; have HRL := Lib.hid hrl; have HRT := Lib.hid hrt
  obtain ⟨sb, rfl, s0, s1, -, -⟩ := hs
  have HS1 := Lib.hid s1
  obtain ⟨N, hN⟩ : ∃ N, 2 ^ K = N := ⟨_, rfl⟩
  have hnN : n = (N : Int) := by rw [hn, ← hN]; simp
  have hN2 : 1 ≤ N ∧ N ≤ 65536 := by
    rw [← hN]
    exact ⟨Nat.one_le_two_pow, Nat.le_trans (Nat.pow_le_pow_right (by decide) hK) (by decide)⟩
  have CV := Lib.hid (fun (W : World) (hx : Ext w W) (i : Nat) (hi : i < L.length) => by
    have := values_any (hd.ext hx) (hf.ext hx) K hK1 hK hn ((hr.row i hi).ext hx) (hrl i hi) hrt
    rw [hN] at this; exact this)
  have CZ := Lib.hid (by have := size_any hd; rw [hnN] at this; exact this)
  rw [hN]
  clear hr hd hf hrl hrt hn hnN hN s0
  go_enter Tryz.func69, Tryz.ntmps69
  go_wp2_with (first | (go_at_call 35; refine CZ.out.mono ?_; rintro e w' ⟨rfl, m, rfl⟩) | (refine wpList_mkn rfl _ _ 23 rfl slRows (Ext.drewN w m) rfl rfl (by omega) (by omega) (by omega) ?_; intro v1 w1 HO1 HX1 _; rw [Int.toNat_natCast] at HO1; obtain ⟨a1, c1, rfl⟩ := own_shape HO1))
  have HG0 := Lib.hid (GrowAt.made (e := 3) HO1 (by decide))
  have HX0 := Lib.hid HX1
  clear HO1 HX1 s1
  go_loopw [7, 8, 9, 18, 29] (fun _ _ _ x18 _ wr => ∃ (j : Nat) (Q : Nat → Value), j ≤ L.length ∧ x18 = .int .i64 j ∧ Hid (GrowAt w.heap.size wr 22 3 (.slice a1 N c1) N Q (fun r => (colOf p sh rt L r).take j)) ∧ Hid (Ext w wr)) (fun _ _ _ x18 _ _ => L.length - (intOf x18).toNat)
  case atStart => exact ⟨0, _, by omega, rfl, HG0, HX0⟩
  case round =>
    clear HG0 HX0
    obtain ⟨j, Q, hj, rfl, HG, HX⟩ := hrel
    by_cases hjw : j < L.length
    · have hix := HV.out.run_index (P := Tryz.prog) slRows j hjw
      have hcx := HX.out.cell (HV.out.cell j hjw)
      have hs1 := HX.out.cell HS1.out
      go_wp2_with fail
      refine (CV.out _ HX.out j hjw).mono ?_
      rintro e w4 ⟨u4, rfl, hx4, hI4, hN4⟩
      have HTK := Lib.hid (fun i => colOf_snoc p sh rt L i hjw)
      have hll4 := hI4.run_len (P := Tryz.prog) slInts
      have hwl := valsL_length p sh rt N (nthL L j)
      rw [hwl] at hll4
      have HWL := Lib.hid hwl
      have HVN := Lib.hid (fun i (h : i < N) => valsL_nth p sh rt N (nthL L j) h)
      have HG4 := Lib.hid (HG.out.ext hx4)
      have HX4 := Lib.hid (HX.out.trans hx4)
      have HI4 := Lib.hid hI4
      have HNV := Lib.hid (show ∀ k, u4.ownBlock = some k → some k ≠ (Value.slice a1 N c1).ownBlock from fun k hk hc => by
        have h1 := hN4 k hk
        have h2 := (HG.out.own.lt k hc.symm).2
        omega)
      have HQ0 := Lib.hid (show ∀ r, r < N → ∀ k, (Q r).ownBlock = some k → u4.ownBlock ≠ some k from fun r hr k hk hc => by
        have h1 := hN4 k hc
        have h2 := ((HG.out.row r hr).lt k hk).2
        omega)
      clear hx4 hI4 hN4 hwl hcx hs1 hix HG HX
      go_wp2_with fail
      go_loopw [8, 9, 29] (fun _ _ x29 wq => ∃ (i : Nat) (Q : Nat → Value), i ≤ N ∧ x29 = .int .i64 i ∧ Hid (GrowAt w.heap.size wq 22 3 (.slice a1 N c1) N Q (fun r => if r < i then (colOf p sh rt L r).take (j + 1) else (colOf p sh rt L r).take j)) ∧ Hid (Ext w wq) ∧ Hid (Ints wq u4 (valsL p sh rt N (nthL L j))) ∧ Hid (∀ r, r < N → ∀ k, (Q r).ownBlock = some k → u4.ownBlock ≠ some k)) (fun _ _ x29 _ => N - (intOf x29).toNat)
      case atStart => exact ⟨0, Q, by omega, rfl, Lib.hid (HG4.out.congr (fun r _ => by rw [if_neg (by omega)])), HX4, HI4, HQ0⟩
      case round =>
        clear HG4 HX4 HI4 HQ0
        obtain ⟨i, Q, hi, rfl, HG, HX, HI, HQ⟩ := hrel
        by_cases hin : i < N
        · have hiy := HI.out.run_index (P := Tryz.prog) slInts i (by rw [HWL.out]; exact hin)
          have hcy := HI.out.cell i (by rw [HWL.out]; exact hin)
          have HLW := Lib.hid (ints_lt9 HI.out (by rw [HWL.out]; omega))
          have hio := fun w' => (Sl.of_own HG.out.own (by omega)).run_index (P := Tryz.prog) slRows (i : Int) (by omega) (by omega) w'
          simp only [Int.toNat_natCast] at hio
          have hco := HG.out.cell hin
          have hRW := HG.out.row i hin
          rw [if_neg (by omega)] at hRW
          have HL2 := Lib.hid (HTK.out i)
          have hlen : ((colOf p sh rt L i).take j).length = j := by rw [List.length_take, colOf_length]; omega
          obtain ⟨tk, htk⟩ : ∃ tk, (colOf p sh rt L i).take j = tk := ⟨_, rfl⟩
          rw [htk] at hRW HL2 hlen
          have hb1 : tk.length + 1 ≤ 4294967296 := by omega
          have hbase : w.heap.size ≤ wr.heap.size := HX.out.size
          rw [HVN.out i hin] at hcy
          obtain ⟨xx, hx⟩ : ∃ xx, ev (nthL L j) (ptAt p sh rt i) % p = xx := ⟨_, rfl⟩
          rw [hx] at hcy HL2
          have hco2 := (Ext.alloc wr (Obj.cells #[.int .i64 xx] 3)).cell hco
          obtain ⟨U, hU⟩ : ∃ U : Nat → List Int, (fun r => if r < i then (colOf p sh rt L r).take (j + 1) else (colOf p sh rt L r).take j) = U := ⟨_, rfl⟩
          have HUS := Lib.hid (show U i = tk from by rw [← hU]; simp only [Nat.lt_irrefl, if_false]; exact htk)
          have HNX := Lib.hid (show ∀ r, r < N → updN U i (U i ++ [xx]) r = (fun r => if r < i + 1 then (colOf p sh rt L r).take (j + 1) else (colOf p sh rt L r).take j) r from fun r _ => by
            by_cases h : r = i
            · subst h; rw [updN_same, HUS.out, ← HL2.out]; simp
            · rw [updN_other _ _ h, ← hU]
              by_cases h2 : r < i
              · simp [h2, show r < i + 1 by omega]
              · simp [h2, show ¬ r < i + 1 by omega])
          rw [hU] at HG
          have HRD := Lib.hid hRW
          clear hlen hRW htk hx HL2 hU
          go_wp2_with (at_builtin; refine wpList_appNw rfl _ _ 22 rfl slInts rfl hbase HRD.out rfl #[.int .i64 xx] rfl (by simp [Value.oneCell']) rfl hb1 (by omega) ?_; intro v8 w8 HO8 HG8 HM8; obtain ⟨a8, c8, rfl⟩ := own_shape HO8; have HO8H := Lib.hid HO8; have HG8H := Lib.hid HG8; have HM8H := Lib.hid HM8; have hm8 := HG.out.mid hin HG8; have hc8 : w8.cell? (elt (.slice a1 N c1) i 1) = some (Q i) := by { have := Sl.cell (Sl.of_own hm8 (by omega)) i 0 hin (by omega); simp only [Addr.add, if_true, Nat.add_zero, Nat.mul_one] at this; rw [this]; simp [hin] }; have hf8 := (own_setCell hm8 hin (.slice a8 (tk.length + 1) c8)).1; have HS8 := Lib.hid (own_setCell hm8 hin (.slice a8 (tk.length + 1) c8)).2; clear HO8 HG8 HM8 hm8)
          have HG9 := Lib.hid ((HG.out.put hin (x := xx) (by rw [HUS.out]; exact HO8H.out) HG8H.out HM8H.out HS8.out.1 HS8.out.2).congr HNX.out)
          have HX9 := Lib.hid (HG.out.outer HX.out hin HG8H.out HS8.out.2)
          have HI9 := Lib.hid ((HI.out.grown HG8H.out (fun k hk hc => HQ.out i hin k hc.symm hk)).grown HS8.out.2 HNV.out)
          have HQ9 := Lib.hid (show ∀ r, r < N → ∀ k, (updN Q i (.slice a8 (tk.length + 1) c8) r).ownBlock = some k → u4.ownBlock ≠ some k from fun r hr k hk hc => by
            by_cases h : r = i
            · subst h
              rw [updN_same] at hk
              rcases HM8H.out with hm | hm
              · exact HQ.out r hr k (by rw [← hm]; exact hk) hc
              · have h1 := hm k hk
                have h2 := HLW.out k hc
                omega
            · rw [updN_other _ _ h] at hk
              exact HQ.out r hr k hk hc)
          clear hc8 hf8 HS8 HO8H HG8H HM8H hiy hcy hio hco hco2 HX HG HRD HNX HI HQ
          revert HG9 HX9 HI9
          generalize World.setCell _ (elt (.slice a1 N c1) i 1) _ = W9
          intro HG9 HX9 HI9
          go_roundw
          case rel => exact ⟨i + 1, _, by omega, by go_num, HG9, HX9, HI9, HQ9⟩
          case measure => simp [intOf]; omega
        · obtain rfl : i = N := by omega
          go_wp2_with fail
          go_roundw
          case rel => exact ⟨j + 1, Q, by omega, by go_num, Lib.hid (HG.out.congr (fun r hr => by rw [if_pos hr])), HX⟩
          case measure => simp [intOf]; omega
    · obtain rfl : j = L.length := by omega
      go_wp2_with fail
      go_ret
      exact .mk _ rfl HX.out (by
        have h := (HG.out.congr (L' := colOf p sh rt L) (fun r _ => by rw [List.take_of_length_le (by rw [colOf_length]; exact Nat.le_refl _)])).rws
        exact ⟨_, h⟩)
end
end Go.Proofs.YtcpnidomdkaefaaGreatDoor
