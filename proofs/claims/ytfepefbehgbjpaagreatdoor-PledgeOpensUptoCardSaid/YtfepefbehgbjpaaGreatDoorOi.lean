/- Rows and columns of a table, the root of a tree, and where they lie, the program's side: contracts. Printed by wip/mkoi.py. -/
import Derived.Test.YtfepefbehgbjpaaGreatDoorZx16
import Derived.Test.YtfepefbehgbjpaaGreatDoorZx12
import Derived.Test.YtfepefbehgbjpaaGreatDoorJg
import Derived.Test.YtfepefbehgbjpaaGreatDoorJh
import Derived.Test.YtfepefbehgbjpaaGreatDoorJi
import Derived.Test.YtfepefbehgbjpaaGreatDoorSx
import Derived.Test.YtfepefbehgbjpaaGreatDoorZx10
namespace Go.Att
open Go.RowKit
def RwsN (B : Nat) (W : World) (u : Value) (L : List (List Int)) : Prop := ∃ T, RwsAt W u L T ∧ (∀ q, u.ownBlock = some q → B ≤ q) ∧ ∀ i, i < L.length → ∀ q, (T i).ownBlock = some q → B ≤ q
theorem RwsN.ext {B : Nat} {W W' : World} {u : Value} {L : List (List Int)} (h : RwsN B W u L) (hx : Ext W W') : RwsN B W' u L := let ⟨T, h1, h2⟩ := h; ⟨T, h1.ext hx, h2⟩
theorem RwsN.rws {B : Nat} {W : World} {u : Value} {L : List (List Int)} (h : RwsN B W u L) : Rws W u L := let ⟨T, h1, _⟩ := h; ⟨T, h1⟩
theorem RwsN.grown {B b : Nat} {W W' : World} {u : Value} {L : List (List Int)} (h : RwsN B W u L) (hg : W.grownBy W' (some b)) (hb : b < B) : RwsN B W' u L := by
  obtain ⟨T, h1, h2, h3⟩ := h
  exact ⟨T, ⟨h1.sl.grown hg (fun q hq e => by have := h2 q hq; have := Option.some.inj e; omega), fun i hi => (h1.row i hi).grown hg (fun q hq e => by have := h3 i hi q hq; have := Option.some.inj e; omega)⟩, h2, h3⟩
theorem RwsN.base {B B' : Nat} {W : World} {u : Value} {L : List (List Int)} (h : RwsN B' W u L) (hB : B ≤ B') : RwsN B W u L := let ⟨T, h1, h2, h3⟩ := h; ⟨T, h1, fun q hq => Nat.le_trans hB (h2 q hq), fun i hi q hq => Nat.le_trans hB (h3 i hi q hq)⟩
theorem Grid.rwsN {B : Nat} {w : World} {e : TypeId} {v : Value} {L : List (List Int)} {T : Nat → Value} (h : Grid B w e v L T) : RwsN B w v L := ⟨T, h.rws, fun q hq => (h.own.lt q hq).1, fun i hi q hq => (h.lt i hi q hq).1⟩
end Go.Att
namespace Go.Att
open Go.RowKit
theorem GrowAt.rwsN {B n : Nat} {w : World} {eR e : TypeId} {v : Value} {T : Nat → Value} {L : Nat → List Int} (h : GrowAt B w eR e v n T L) : RwsN B w v ((List.range n).map L) := by
  refine ⟨T, h.rws, fun q hq => (h.own.lt q hq).1, fun i hi q hq => ?_⟩
  rw [List.length_map, List.length_range] at hi
  exact ((h.row i hi).lt q hq).1
end Go.Att
namespace Go.Proofs.YtfepefbehgbjpaaGreatDoor
open Go.RowKit Go.Att
section
variable {w : World}
set_option maxRecDepth 100000 in
set_option maxHeartbeats 8000000 in
theorem pcolsN_any {s d : Value} {bf : Nat} {p g0 n sh rt : Int} {fs : List Int} {a b : Nat} (hs : ShpOf w s (.pointer (some ⟨bf, 0, none⟩)) d a b) (hd : DomOf w d (.pointer (some ⟨bf, 0, none⟩)) n sh rt) (hf : Fld w (.pointer (some ⟨bf, 0, none⟩)) p g0 fs) (K : Nat) (hK1 : 1 ≤ K) (hK : K ≤ 16) (hn : n = (2 : Int) ^ K) (hrt : ∀ m, K = m + 1 → rt ^ (2 ^ m) % p = (-1) % p)
    {vr : Value} {L : List (List Int)} {R : Nat → Value} (hr : RwsAt w vr L R) (hL : L.length ≤ 4096) (hrl : ∀ i, i < L.length → (nthL L i).length ≤ 2 ^ K) :
    Calls Tryz.prog 26 #[s, vr] w (Gives w fun u w' => RwsN w.heap.size w' u (colsL p sh rt (2 ^ K) L)) := by
  have hll := hr.run_len (P := Tryz.prog) slRows
  have HV := Lib.hid hr; have HD := Lib.hid hd; have HF := Lib.hid hf; have HRL := Lib.hid hrl; have HRT := Lib.hid hrt
  obtain ⟨sb, rfl, s0, s1, -, -⟩ := hs
  have HS1 := Lib.hid s1
  obtain ⟨N, hN⟩ : ∃ N, 2 ^ K = N := ⟨_, rfl⟩
  have hnN : n = (N : Int) := by rw [hn, ← hN]; simp
  have hN2 : 1 ≤ N ∧ N ≤ 65536 := by
    rw [← hN]
    exact ⟨Nat.one_le_two_pow, Nat.le_trans (Nat.pow_le_pow_right (by decide) hK) (by decide)⟩
  have CV := Lib.hid (fun (W : World) (hx : Ext w W) (i : Nat) (hi : i < L.length) => by
    have := values_any (hd.ext hx) (hf.ext hx) K hK1 hK hn ((hr.row i hi).ext hx) (hrl i hi) hrt
    rw [hN] at this; exact this)
  have CZ := Lib.hid (by have := size_any hd; rw [hnN] at this; exact this)
  rw [hN]
  clear hr hd hf hrl hrt hn hnN hN s0
  go_enter Tryz.func26, Tryz.ntmps26
  go_wp2_with (first | (go_at_call 37; refine CZ.out.mono ?_; rintro e w' ⟨rfl, m, rfl⟩) | (refine wpList_mkn rfl _ _ 29 rfl slRows (Ext.drewN w m) rfl rfl (by omega) (by omega) (by omega) ?_; intro v1 w1 HO1 HX1 _; rw [Int.toNat_natCast] at HO1; obtain ⟨a1, c1, rfl⟩ := own_shape HO1))
  have HG0 := Lib.hid (GrowAt.made (e := 3) HO1 (by decide))
  have HX0 := Lib.hid HX1
  clear HO1 HX1 s1
  go_loopw [7, 8, 9, 18, 29] (fun _ _ _ x18 _ wr => ∃ (j : Nat) (Q : Nat → Value), j ≤ L.length ∧ x18 = .int .i64 j ∧ Hid (GrowAt w.heap.size wr 22 3 (.slice a1 N c1) N Q (fun r => (colOf p sh rt L r).take j)) ∧ Hid (Ext w wr)) (fun _ _ _ x18 _ _ => L.length - (intOf x18).toNat)
  case atStart => exact ⟨0, _, by omega, rfl, HG0, HX0⟩
  case round =>
    clear HG0 HX0
    obtain ⟨j, Q, hj, rfl, HG, HX⟩ := hrel
    by_cases hjw : j < L.length
    · have hix := HV.out.run_index (P := Tryz.prog) slRows j hjw
      have hcx := HX.out.cell (HV.out.cell j hjw)
      have hs1 := HX.out.cell HS1.out
      go_wp2_with fail
      refine (CV.out _ HX.out j hjw).mono ?_
      rintro e w4 ⟨u4, rfl, hx4, hI4, hN4⟩
      have HTK := Lib.hid (fun i => colOf_snoc p sh rt L i hjw)
      have hll4 := hI4.run_len (P := Tryz.prog) slInts
      have hwl := valsL_length p sh rt N (nthL L j)
      rw [hwl] at hll4
      have HWL := Lib.hid hwl
      have HVN := Lib.hid (fun i (h : i < N) => valsL_nth p sh rt N (nthL L j) h)
      have HG4 := Lib.hid (HG.out.ext hx4)
      have HX4 := Lib.hid (HX.out.trans hx4)
      have HI4 := Lib.hid hI4
      have HNV := Lib.hid (show ∀ k, u4.ownBlock = some k → some k ≠ (Value.slice a1 N c1).ownBlock from fun k hk hc => by
        have h1 := hN4 k hk
        have h2 := (HG.out.own.lt k hc.symm).2
        omega)
      have HQ0 := Lib.hid (show ∀ r, r < N → ∀ k, (Q r).ownBlock = some k → u4.ownBlock ≠ some k from fun r hr k hk hc => by
        have h1 := hN4 k hc
        have h2 := ((HG.out.row r hr).lt k hk).2
        omega)
      clear hx4 hI4 hN4 hwl hcx hs1 hix HG HX
      go_wp2_with fail
      go_loopw [8, 9, 29] (fun _ _ x29 wq => ∃ (i : Nat) (Q : Nat → Value), i ≤ N ∧ x29 = .int .i64 i ∧ Hid (GrowAt w.heap.size wq 22 3 (.slice a1 N c1) N Q (fun r => if r < i then (colOf p sh rt L r).take (j + 1) else (colOf p sh rt L r).take j)) ∧ Hid (Ext w wq) ∧ Hid (Ints wq u4 (valsL p sh rt N (nthL L j))) ∧ Hid (∀ r, r < N → ∀ k, (Q r).ownBlock = some k → u4.ownBlock ≠ some k)) (fun _ _ x29 _ => N - (intOf x29).toNat)
      case atStart => exact ⟨0, Q, by omega, rfl, Lib.hid (HG4.out.congr (fun r _ => by rw [if_neg (by omega)])), HX4, HI4, HQ0⟩
      case round =>
        clear HG4 HX4 HI4 HQ0
        obtain ⟨i, Q, hi, rfl, HG, HX, HI, HQ⟩ := hrel
        by_cases hin : i < N
        · have hiy := HI.out.run_index (P := Tryz.prog) slInts i (by rw [HWL.out]; exact hin)
          have hcy := HI.out.cell i (by rw [HWL.out]; exact hin)
          have HLW := Lib.hid (ints_lt9 HI.out (by rw [HWL.out]; omega))
          have hio := fun w' => (Sl.of_own HG.out.own (by omega)).run_index (P := Tryz.prog) slRows (i : Int) (by omega) (by omega) w'
          simp only [Int.toNat_natCast] at hio
          have hco := HG.out.cell hin
          have hRW := HG.out.row i hin
          rw [if_neg (by omega)] at hRW
          have HL2 := Lib.hid (HTK.out i)
          have hlen : ((colOf p sh rt L i).take j).length = j := by rw [List.length_take, colOf_length]; omega
          obtain ⟨tk, htk⟩ : ∃ tk, (colOf p sh rt L i).take j = tk := ⟨_, rfl⟩
          rw [htk] at hRW HL2 hlen
          have hb1 : tk.length + 1 ≤ 4294967296 := by omega
          have hbase : w.heap.size ≤ wr.heap.size := HX.out.size
          rw [HVN.out i hin] at hcy
          obtain ⟨xx, hx⟩ : ∃ xx, ev (nthL L j) (ptAt p sh rt i) % p = xx := ⟨_, rfl⟩
          rw [hx] at hcy HL2
          have hco2 := (Ext.alloc wr (Obj.cells #[.int .i64 xx] 3)).cell hco
          obtain ⟨U, hU⟩ : ∃ U : Nat → List Int, (fun r => if r < i then (colOf p sh rt L r).take (j + 1) else (colOf p sh rt L r).take j) = U := ⟨_, rfl⟩
          have HUS := Lib.hid (show U i = tk from by rw [← hU]; simp only [Nat.lt_irrefl, if_false]; exact htk)
          have HNX := Lib.hid (show ∀ r, r < N → updN U i (U i ++ [xx]) r = (fun r => if r < i + 1 then (colOf p sh rt L r).take (j + 1) else (colOf p sh rt L r).take j) r from fun r _ => by
            by_cases h : r = i
            · subst h; rw [updN_same, HUS.out, ← HL2.out]; simp
            · rw [updN_other _ _ h, ← hU]
              by_cases h2 : r < i
              · simp [h2, show r < i + 1 by omega]
              · simp [h2, show ¬ r < i + 1 by omega])
          rw [hU] at HG
          have HRD := Lib.hid hRW
          clear hlen hRW htk hx HL2 hU
          go_wp2_with (at_builtin; refine wpList_appNw rfl _ _ 22 rfl slInts rfl hbase HRD.out rfl #[.int .i64 xx] rfl (by simp [Value.oneCell']) rfl hb1 (by omega) ?_; intro v8 w8 HO8 HG8 HM8; obtain ⟨a8, c8, rfl⟩ := own_shape HO8; have HO8H := Lib.hid HO8; have HG8H := Lib.hid HG8; have HM8H := Lib.hid HM8; have hm8 := HG.out.mid hin HG8; have hc8 : w8.cell? (elt (.slice a1 N c1) i 1) = some (Q i) := by { have := Sl.cell (Sl.of_own hm8 (by omega)) i 0 hin (by omega); simp only [Addr.add, if_true, Nat.add_zero, Nat.mul_one] at this; rw [this]; simp [hin] }; have hf8 := (own_setCell hm8 hin (.slice a8 (tk.length + 1) c8)).1; have HS8 := Lib.hid (own_setCell hm8 hin (.slice a8 (tk.length + 1) c8)).2; clear HO8 HG8 HM8 hm8)
          have HG9 := Lib.hid ((HG.out.put hin (x := xx) (by rw [HUS.out]; exact HO8H.out) HG8H.out HM8H.out HS8.out.1 HS8.out.2).congr HNX.out)
          have HX9 := Lib.hid (HG.out.outer HX.out hin HG8H.out HS8.out.2)
          have HI9 := Lib.hid ((HI.out.grown HG8H.out (fun k hk hc => HQ.out i hin k hc.symm hk)).grown HS8.out.2 HNV.out)
          have HQ9 := Lib.hid (show ∀ r, r < N → ∀ k, (updN Q i (.slice a8 (tk.length + 1) c8) r).ownBlock = some k → u4.ownBlock ≠ some k from fun r hr k hk hc => by
            by_cases h : r = i
            · subst h
              rw [updN_same] at hk
              rcases HM8H.out with hm | hm
              · exact HQ.out r hr k (by rw [← hm]; exact hk) hc
              · have h1 := hm k hk
                have h2 := HLW.out k hc
                omega
            · rw [updN_other _ _ h] at hk
              exact HQ.out r hr k hk hc)
          clear hc8 hf8 HS8 HO8H HG8H HM8H hiy hcy hio hco hco2 HX HG HRD HNX HI HQ
          revert HG9 HX9 HI9
          generalize World.setCell _ (elt (.slice a1 N c1) i 1) _ = W9
          intro HG9 HX9 HI9
          go_roundw
          case rel => exact ⟨i + 1, _, by omega, by go_num, HG9, HX9, HI9, HQ9⟩
          case measure => simp [intOf]; omega
        · obtain rfl : i = N := by omega
          go_wp2_with fail
          go_roundw
          case rel => exact ⟨j + 1, Q, by omega, by go_num, Lib.hid (HG.out.congr (fun r hr => by rw [if_pos hr])), HX⟩
          case measure => simp [intOf]; omega
    · obtain rfl : j = L.length := by omega
      go_wp2_with fail
      go_ret
      exact .mk _ rfl HX.out (by
        exact (HG.out.congr (L' := colOf p sh rt L) (fun r _ => by rw [List.take_of_length_le (by rw [colOf_length]; exact Nat.le_refl _)])).rwsN)
end
section
variable {w : World}
set_option maxRecDepth 100000 in
set_option maxHeartbeats 4000000 in
theorem tRootN_any {bs : Nat} {p : Int} {q : Nat} (hs : Spg w (.pointer (some ⟨bs, 0, none⟩)) p q) {vr : Value} {L : List (List Int)} {R : Nat → Value} (hr : RwsAt w vr L R) (h1 : 1 ≤ L.length) (h2 : L.length ≤ 65536) (hrl : ∀ i, i < L.length → (nthL L i).length ≤ 4294960000) :
    Calls Tryz.prog 27 #[.pointer (some ⟨bs, 0, none⟩), vr] w (Gives w fun u w' => ∃ v, u = .tuple #[v, .nilIface] ∧ Ints w' v (rootF p q L.length L) ∧ NewIn w v) := by
  have hll := hr.run_len (P := Tryz.prog) slRows
  have C := Lib.hid (by
    have := trootN_any hs hr h2 hrl L.length L.length 0 h1 (Nat.le_refl _) (by omega) w (Ext.refl w)
    rw [List.drop_zero, List.take_length, show ((0 : Nat) : Int) = 0 from rfl, Int.zero_add] at this
    exact this)
  have CR := Lib.hid (fun W => tright_any (w := W) L.length h1 h2)
  clear hs hr hrl
  go_enter Tryz.func27, Tryz.ntmps27
  go_wp2_with (first | (go_at_call 76; refine (CR.out _).mono ?_; rintro e w' ⟨rfl, rfl⟩) | (go_at_call 77; refine C.out.mono ?_; rintro e w2 ⟨v2, rfl, hx2, hi2, hn2⟩; have HI2 := Lib.hid hi2; have HN2 := Lib.hid hn2; clear hi2 hn2))
  go_ret2
  exact .mk _ rfl hx2 ⟨_, rfl, HI2.out, HN2.out⟩
end
end Go.Proofs.YtfepefbehgbjpaaGreatDoor
namespace Go.Proofs.YtfepefbehgbjpaaGreatDoor
open Go.RowKit Go.Att Go.Shelf
attribute [local go_sem] Oper.semAt_some
section
variable {w : World}
set_option maxRecDepth 100000 in
set_option maxHeartbeats 8000000 in
theorem prowsN_any {s d : Value} {bf : Nat} {p g0 : Int} {fs : List Int} {a c : Nat} (hs : ShpOf w s (.pointer (some ⟨bf, 0, none⟩)) d a c) (hf : Fld w (.pointer (some ⟨bf, 0, none⟩)) p g0 fs) (hc6 : c ≤ 6) {v : Value} {l : List Int} (hv : Ints w v l) (C : Nat) (hl : l.length = C * 2 ^ c) (hC : l.length ≤ 4096) :
    Calls Tryz.prog 25 #[s, v] w (Gives w fun u w' => RwsN w.heap.size w' u (rowsL (l.map (fof p)) (2 ^ c) C)) := by
  obtain ⟨sb, rfl, s0, -, -, s3⟩ := hs
  obtain ⟨N, hN⟩ : ∃ N, l.length = N := ⟨_, rfl⟩
  obtain ⟨a1, c1, hv1⟩ := hv.shape
  rw [hN] at hv1 hl hC
  subst hv1
  have hwr : wrap64 (2 ^ c) = ((2 ^ c : Nat) : Int) := by
    have hc7 : c = 0 ∨ c = 1 ∨ c = 2 ∨ c = 3 ∨ c = 4 ∨ c = 5 ∨ c = 6 := by omega
    rcases hc7 with rfl | rfl | rfl | rfl | rfl | rfl | rfl <;> first | decide | (simp [wrap64]; done) | kernel_rfl
  have hM1 : 1 ≤ 2 ^ c := Nat.one_le_two_pow
  obtain ⟨M, hM⟩ : ∃ M, 2 ^ c = M := ⟨_, rfl⟩
  rw [hM] at hwr hM1 hl
  rw [hM]
  clear hM
  have HV := Lib.hid hv; have HF := Lib.hid hf; have HS0 := Lib.hid s0; have HN := Lib.hid hN; have HLC := Lib.hid hl; have HM1 := Lib.hid hM1
  obtain ⟨W0, hW0⟩ : ∃ W0, W0 = (w.alloc (Obj.cells #[.pointer (some ⟨sb, 0, none⟩)] 68)).alloc (Obj.cells #[.slice none 0 0] 29) := ⟨_, rfl⟩
  have hX : Ext w W0 := by rw [hW0]; exact (Ext.alloc w _).trans (Ext.alloc _ _)
  have k0 : W0.cell? ⟨w.heap.size, 0, none⟩ = some (.pointer (some ⟨sb, 0, none⟩)) := by rw [hW0]; exact (Ext.alloc _ _).cell (cell_new w #[.pointer (some ⟨sb, 0, none⟩)] 68 0)
  have k1 : BlkOf W0 (w.heap.size + 1) [.slice none 0 0] 29 := by rw [hW0]; have := BlkOf.new (w.alloc (Obj.cells #[.pointer (some ⟨sb, 0, none⟩)] 68)) [.slice none 0 0] 29; rw [World.size_alloc] at this; exact this
  have hs0 : W0.heap.size = w.heap.size + 2 := by rw [hW0]; simp
  have HX0 := Lib.hid hX; have K0 := Lib.hid k0; have K1 := Lib.hid k1; have HSZ0 := Lib.hid hs0; have HW0 := Lib.hid hW0
  have k3 := hX.cell s3
  rw [hW0] at k3
  clear hX k0 k1 hv hf s0 hs0 hW0 hN hl hM1
  refine (callsIn_wide (n := 3)).1 ?_
  refine callsIn_of_wp_marks Tryz.func25 rfl trivial ?_ rfl
  simp only [Tryz.ntmps25, List.size_toArray, List.length_cons, List.length_nil, Nat.reduceAdd, Nat.reduceSub, Array.replicate_succ, Array.replicate_zero, List.push_toArray, List.append_toArray, List.nil_append, List.cons_append]
  gi_wp2_with (refine ⟨trivial, ?_⟩; gi_at_call 74; refine (callsIn_wide.2 (chunk_any a1 N c1 M HM1.out _)).mono ?_; rintro e w2 ⟨rfl, hw2⟩; have HW2 := Lib.hid hw2; clear hw2)
  have hw2 := HW2.out
  rw [← HW0.out] at hw2
  rw [show w.heap.size + 1 + 1 = W0.heap.size by have := HSZ0.out; omega]
  have hx2 : Ext W0 w2 := by rw [hw2]; exact (Ext.alloc _ _).trans (Ext.alloc _ _)
  have hB0 : w2.cell? ⟨W0.heap.size, 0, none⟩ = some (.slice a1 N c1) := by rw [hw2]; exact (Ext.alloc _ _).cell (cell_new W0 #[.slice a1 N c1] _ 0)
  have hB1 : w2.cell? ⟨W0.heap.size + 1, 0, none⟩ = some (.int .i64 M) := by rw [hw2]; have := cell_new (W0.alloc (.cells #[.slice a1 N c1] 22)) #[.int .i64 M] 3 0; rw [World.size_alloc] at this; exact this
  have hs2 : w2.heap.size = W0.heap.size + 2 := by rw [hw2]; simp
  have hs1 := HSZ0.out
  clear hw2 HW2 HW0 k3
  have HXX := Lib.hid (HX0.out.trans hx2)
  refine wpIn_rangeFunc_ownF rfl (by omega) (gf := 124) (lb := #[.pointer (some ⟨W0.heap.size, 0, none⟩), .pointer (some ⟨W0.heap.size + 1, 0, none⟩)]) rfl trivial (enters_of Tryz.func124 (by kernel_rfl) rfl)
    (chunk_stops W0.heap.size M C (.slice a1 N c1) l HM1.out (HN.out.trans HLC.out) (by rw [HN.out]; omega) hB0 hB1 (HV.out.ext HXX.out) (3 - 1) (by omega)) (fun h k => KpC.trans h k) (KpC.putObj (by omega)) (Below.refl _ _) (fun _ => rfl)
    (fun pre W => W.cell? ⟨w.heap.size, 0, none⟩ = some (.pointer (some ⟨sb, 0, none⟩)) ∧ (∃ vo R, BlkOf W (w.heap.size + 1) [vo] 29 ∧ Grid w2.heap.size W 22 vo (prL p l M pre) R) ∧ Ext w W ∧ w2.heap.size ≤ W.heap.size)
    (fun _ _ _ => False)
    ?own
    (fun _ _ _ _ _ hs _ _ => hs)
    ⟨hx2.cell K0.out, ⟨_, fun _ => .slice none 0 0, K1.out.ext hx2, Grid.nil _ _ _ _⟩, HXX.out, Nat.le_refl _⟩
    (fun x => { tmps := #[.pointer (some ⟨sb, 0, none⟩), .slice a1 N c1, .pointer (some ⟨w.heap.size, 0, none⟩), undef, .slice none 0 0, .pointer (some ⟨w.heap.size + 1, 0, none⟩), cutV (.slice a1 N c1) (x.1 * M) (x.1 * M + M), undef, undef, undef, .slice a1 N c1, .pointer (some ⟨sb, 0, none⟩), .pointer (some ⟨sb, 0, none⟩), .pointer (some ⟨sb, 3, none⟩), .int .i64 c, .int .i64 M, .func (.func 124) #[] #[.pointer (some ⟨W0.heap.size, 0, none⟩), .pointer (some ⟨W0.heap.size + 1, 0, none⟩)], cutV (.slice a1 N c1) (x.1 * M) (x.1 * M + M), undef, undef, undef, undef, undef, undef, undef, undef, undef, undef, undef, undef, undef, undef, undef, undef, undef, undef, undef, undef, undef], defers := [] }) ?assign ?body ?done ?stop
  case own =>
    rintro pre A B row ⟨h1, ⟨vo, R, h2, h3⟩, h5, h6⟩ hg hr
    have hnc : ∀ r, row = some r → ∃ o : Obj, A.heap[r]? = some o ∧ o.isCells = false := fun r e => (hr r e).2
    exact ⟨hg.cell h1 (nc_ne hnc h1), ⟨vo, R, h2.grown hg (nc_ne (v := vo) hnc (h2.cell 0)), h3.nc hg hnc⟩, Below.grown h5.below hg h5.size (fun q e => by have := (hr q e).1; omega), Nat.le_trans h6 hg.size⟩
  case assign =>
    clear hs1 hs2
    intro l x W K hK
    gi_wp2
    exact hK
  case body =>
    rintro l0 pre x W ⟨h1, ⟨vo, R, h2, h3⟩, h5, h6⟩ hlen
    have hx4 : x.1 * M + M ≤ l.length := by
      rw [HN.out, HLC.out, ← Nat.succ_mul]; exact Nat.mul_le_mul_right _ x.2
    have hm1 := HM1.out
    have hp := (HV.out.ext h5).cut (x.1 * M) (x.1 * M + M) (by omega) hx4
    rw [Nat.add_sub_cancel_left] at hp
    have hpl : ((l.drop (x.1 * M)).take M).length = M := by simp; omega
    have hsn := prL_snoc p l M pre x
    have hlp := prL_length p l M pre
    obtain ⟨pl, hpl0⟩ : ∃ pl, (l.drop (x.1 * M)).take M = pl := ⟨_, rfl⟩
    rw [hpl0] at hp hpl hsn
    have hrl := hp.run_len (P := Tryz.prog) slInts
    rw [hpl] at hrl
    have hMN : M ≤ 4096 := by have := HN.out; omega
    have hCN : pre.length ≤ 4294967000 := by
      have h7 := Nat.le_mul_of_pos_right C (show 0 < M by omega)
      have h8 := HLC.out; omega
    generalize prL p l M pre = PL at *
    generalize hpv : cutV (.slice a1 N c1) (x.1 * M) (x.1 * M + M) = pv at *
    have HP := Lib.hid hp; have HPL := Lib.hid hpl; have HSN := Lib.hid hsn; have HLP := Lib.hid hlp
    have H1 := Lib.hid h1; have H2 := Lib.hid h2; have H3 := Lib.hid h3; have H5 := Lib.hid h5; have H6 := Lib.hid h6
    have HHS := Lib.hid hs2
    clear hs1 hs2
    clear h1 h2 h3 h5 h6 hp hpl hsn hlp hx4 hpl0 hpv hlen
    gi_wp2
    gi_loopw [7, 9, 20] (fun x7 _ x20 wq => ∃ t : Nat, t ≤ M ∧ x20 = .int .i64 t ∧ Hid (wq.ownsRow W.heap.size 3 1 x7 t (((pl.take t).map (fof p)).map (Value.int .i64))) ∧ Hid (Ext W wq)) (fun _ _ x20 _ => M - (intOf x20).toNat)
    case atStart => exact ⟨0, Nat.zero_le _, rfl, Lib.hid (World.ownsRow_nil _ _ _ _), Lib.hid (Ext.refl _)⟩
    case round =>
      obtain ⟨t, ht, rfl, HO, HXQ⟩ := hrel
      have hcs := HXQ.out.cell H1.out
      by_cases htl : t < M
      · have hix := HP.out.run_index (P := Tryz.prog) slInts t (by rw [HPL.out]; exact htl)
        have hcx := HXQ.out.cell (HP.out.cell t (by rw [HPL.out]; exact htl))
        have hs00 := (H5.out.trans HXQ.out).cell HS0.out
        have HFW := Lib.hid (HF.out.ext (H5.out.trans HXQ.out))
        have HST := Lib.hid (pad_snoc p pl t (by rw [HPL.out]; exact htl))
        generalize nth pl t = y at *
        gi_wp2_with (first | (refine ⟨trivial, ?_⟩; gi_at_call 66; refine (Calls.inRound (of_any HFW.out y)).mono ?_; rintro e w' hrd; obtain ⟨rfl, hx4⟩ := hrd.ext; clear hrd; have HX4 := Lib.hid hx4; have HO4 := Lib.hid (own_ext HO.out hx4); have hsz4 : W.heap.size ≤ w'.heap.size := (HXQ.out.trans hx4).size; clear hx4) | (gi_at_builtin; refine wpListIn_appNw rfl _ _ 22 rfl slInts rfl hsz4 HO4.out rfl #[.int .i64 (fof p y)] rfl (by simp [Value.oneCell']) rfl (by omega) (by omega) ?_; intro v7 w7 HO7 HG7 _; have HO7H := Lib.hid HO7; have HX7 := Lib.hid (Ext.own_grown (HXQ.out.trans HX4.out) HO4.out HG7); clear HO7 HG7))
        go_roundw
        case rel => exact ⟨t + 1, by omega, by go_num, Lib.hid (by rw [HST.out]; exact HO7H.out), HX7⟩
        case measure => simp [intOf]; omega
      · obtain rfl : t = M := by omega
        have HO1 := Lib.hid (show wr.ownsRow W.heap.size 3 1 u7 (pl.map (fof p)).length ((pl.map (fof p)).map (Value.int .i64)) from by
          have h := HO.out
          rw [show pl.take t = pl from by rw [← HPL.out, List.take_length]] at h
          rw [List.length_map, HPL.out]; exact h)
        obtain ⟨au, cu, hsh7⟩ := own_shape HO1.out
        generalize u7 = v7 at *
        subst hsh7
        have hk1 := H2.out.ext HXQ.out
        have hk10 : wr.cell? ⟨w.heap.size + 1, 0, none⟩ = some vo := hk1.cell 0
        have hgr := H3.out.ext HXQ.out
        have HGR := Lib.hid hgr; have HK1 := Lib.hid hk1
        have hszw : w2.heap.size ≤ wr.heap.size := Nat.le_trans H6.out HXQ.out.size
        have hbo : PL.length + 1 ≤ 4294967296 := by rw [HLP.out]; omega
        have HNE := Lib.hid (show some (w.heap.size + 1) ≠ vo.ownBlock from fun e => by
          have h7 := (hgr.own.lt _ e.symm).1
          have := HSZ0.out; have := HHS.out; omega)
        have HNE0 := Lib.hid (show some w.heap.size ≠ vo.ownBlock from fun e => by
          have h7 := (hgr.own.lt _ e.symm).1
          have := HSZ0.out; have := HHS.out; omega)
        have HRI := Lib.hid (Ints.of_own HO1.out)
        have HLT := Lib.hid (fun k hk => HO1.out.lt k hk)
        generalize (pl.map (fof p)).length = np at *
        have HHX := Lib.hid (H5.out.trans HXQ.out)
        clear hgr hk1 HO HO1
        gi_wp2_with (gi_at_builtin; refine wpListIn_appNw rfl _ _ 29 rfl slRows rfl hszw HGR.out.own rfl #[.slice au np cu] rfl (by intro u hu; simp at hu; subst hu; rfl) rfl hbo (by omega) ?_; intro v8 w8 HO8 HG8 HM8; obtain ⟨a8, c8, rfl⟩ := own_shape HO8; have hk8 := (HK1.out.grown HG8 HNE.out).cell 0; have hf8 := (HK1.out.grown HG8 HNE.out).free 0; have HO8H := Lib.hid HO8; have HG8H := Lib.hid HG8; have HM8H := Lib.hid HM8; clear HO8 HG8 HM8; replace hk8 : w8.cell? ⟨w.heap.size + 1, 0, none⟩ = some vo := hk8)
        have hv2 := (HGR.out.own.lt · ·)
        have hgs := setCell_grown w8 (w.heap.size + 1) 0 (.slice a8 (PL.length + 1) c8)
        have hW0 := HSZ0.out; have hW2 := HHS.out
        have hne1 : some w.heap.size ≠ some (w.heap.size + 1) := fun e => by have := Option.some.inj e; omega
        have hpush := HGR.out.push HRI.out (fun k hk => ⟨Nat.le_trans H6.out (HLT.out k hk).1, (HLT.out k hk).2, fun e => by
          have h7 := (H3.out.own.lt _ e.symm).2
          have h8 := (HLT.out k hk).1; omega⟩) HO8H.out HG8H.out HM8H.out
        rw [← HSN.out] at hpush
        have hX8 : Ext w w8 := Below.grown HHX.out.below HG8H.out HHX.out.size (fun q e => by have := (HGR.out.own.lt q e).1; omega)
        refine ⟨(KeepsOthers.of_grownBy (HXQ.out.grownBy none) (fun j o e _ => by cases e)).trans ((KeepsOthers.of_grownBy HG8H.out (own_cells HGR.out.own)).trans (KeepsOthers.setCell _ _ _)), (KpC.of_ext HXQ.out).trans ((KpC.of_grown HG8H.out (fun k e => .inr (by have := (HGR.out.own.lt k e).1; omega))).trans (KpC.of_grown hgs (fun k e => .inl (by have := Option.some.inj e; omega)))), hgs.cell (HG8H.out.cell hcs HNE0.out) hne1, ⟨_, ((HK1.out.grown HG8H.out HNE.out).set 0 (.slice a8 (PL.length + 1) c8)), _, hpush.low hgs (by omega)⟩, Below.grown hX8.below hgs hX8.size (fun q e => by have := Option.some.inj e; omega), Nat.le_trans hszw (Nat.le_trans HG8H.out.size hgs.size)⟩
  case done =>
    rintro D xs W hD rfl ⟨h1, ⟨vo, R, h2, h3⟩, h5, h6⟩ hK
    have h20 : W.cell? ⟨w.heap.size + 1, 0, none⟩ = some vo := h2.cell 0
    gi_wp2
    refine ⟨by simp, .inl ⟨_, _, rfl, run_takeDeferred hK, ?_⟩⟩
    have hg := grownBy_putObj' W D (.deferred none)
    have hrw := (h3.nc hg (fun r e => by cases e; exact ⟨_, hK, rfl⟩)).rwsN
    rw [prL_upF, rowsL_map] at hrw
    refine ⟨_, results_tmp rfl _ _ _, ?_⟩
    exact .mk _ rfl (Below.grown h5.below hg h5.size (fun q e => by have := Option.some.inj e; omega)) (hrw.base (by have := HSZ0.out; have := hs2; omega))
  case stop =>
    rintro D c pre W _ _ h _
    exact h.elim
end
end Go.Proofs.YtfepefbehgbjpaaGreatDoor
