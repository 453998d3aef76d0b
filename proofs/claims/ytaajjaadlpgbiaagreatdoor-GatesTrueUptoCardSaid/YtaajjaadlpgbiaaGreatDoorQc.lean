/- The polynomial through points: poly.Fit: contract. -/
import Derived.Test.YtaajjaadlpgbiaaGreatDoorZx16
import Derived.Test.YtaajjaadlpgbiaaGreatDoorGq
import Derived.Test.YtaajjaadlpgbiaaGreatDoorZx7
import Derived.Test.YtaajjaadlpgbiaaGreatDoorZx10
import Derived.Test.YtaajjaadlpgbiaaGreatDoorGe
import Derived.Deep.RegionHeld3
import Derived.Deep.DrawnRows
namespace Go.Att
theorem mem_take_nth {l : List Int} {f : Int → Int} {i : Nat} (hd : ∀ a b : Nat, a < b → b < l.length → f (nth l a) ≠ f (nth l b)) (hi : i < l.length) : decide (f (nth l i) ∈ (l.take i).map f) = false := by
  rw [decide_eq_false_iff_not, List.mem_map]
  rintro ⟨y, hy, e⟩
  obtain ⟨a, ha, rfl⟩ := List.mem_iff_getElem.1 hy
  rw [List.length_take] at ha
  rw [List.getElem_take] at e
  refine hd a i (by omega) hi ?_
  rw [nth_eq (by omega)]
  exact e
theorem set_snocG (l : List Int) (f : Int → Int) (i : Nat) (hi : i < l.length) : (fun k => decide (k ∈ (l.take (i + 1)).map f)) = fun k => decide (k ∈ (l.take i).map f) || decide (k = f (nth l i)) := by
  funext k
  rw [List.take_succ_eq_append_getElem hi, List.map_append, nth_eq hi]
  by_cases h1 : k ∈ (l.take i).map f <;> by_cases h2 : k = f l[i] <;> simp [h2]
end Go.Att
namespace Go.Proofs.YtaajjaadlpgbiaaGreatDoor
open Go.RowKit Go.Att Go.Maps
theorem zeroBG (w : World) : (zeroValue 4).run Tryz.prog w = .ok (.bool false) w := by kernel_rfl
section
variable {w : World} {bf : Nat} {p g : Int} {fs : List Int}
set_option maxHeartbeats 1000000 in
theorem fdiv_any {f : Value} (hf : Fld w f p g fs) (a b : Int) : Calls Tryz.prog 153 #[f, .int .i64 a, .int .i64 b] w (Rd w (.int .i64 (fdiv p a b))) := by
  have C1 := inv_any hf b
  have HF := Lib.hid hf
  clear hf
  go_enter Tryz.func153, Tryz.ntmps153
  go_wp2_with fail
  refine C1.mono ?_
  rintro e w1 ⟨rfl, m, rfl⟩
  have C2 := mul_any (HF.out.drewN m) a (finv p b)
  clear C1
  go_wp2_with fail
  refine C2.mono ?_
  rintro e w2 ⟨rfl, m2, rfl⟩
  go_wp2_with fail
  go_ret
  exact ⟨ret_val rfl, m + m2, rfl⟩
set_option maxRecDepth 100000 in
set_option maxHeartbeats 8000000 in
theorem pfit_any {vx vy : Value} {xs ys : List Int} (hf : Fld w (.pointer (some ⟨bf, 0, none⟩)) p g fs) (hx : Ints w vx xs) (hy : Ints w vy ys) (hl : xs.length = ys.length) (hs : xs.length ≤ 60) (hd : ∀ a b : Nat, a < b → b < xs.length → fof p (nth xs a) ≠ fof p (nth xs b)) :
    Calls Tryz.prog 136 #[.pointer (some ⟨bf, 0, none⟩), vx, vy] w (Gives w fun u w' => ∃ a, u = .tuple #[a, .nilIface] ∧ Ints w' a (trimL p (fitQ p xs ys xs.length))) := by
  have hmm := @run_makeMap Tryz.prog
  have hlx := hx.run_len (P := Tryz.prog) slInts
  have hly := hy.run_len (P := Tryz.prog) slInts
  rw [← hl] at hly
  have hpp : 3 ≤ p ∧ p ≤ 2147483647 := ⟨hf.lo, hf.hi⟩
  have HF := Lib.hid hf; have HX := Lib.hid hx; have HY := Lib.hid hy; have HL := Lib.hid hl; have HD := Lib.hid hd; have HP3 := Lib.hid hpp
  have HT0 := Lib.hid (Tgs.made (P := Tryz.prog) (K := 3) (B := 4) w)
  have HX0 := Lib.hid (Ext.alloc w (.map #[] 0))
  have hnn : ((xs.length : Int) != (xs.length : Int)) = false := by simp
  clear hf hx hy hl hd hpp
  obtain ⟨n, hn⟩ : ∃ n, xs.length = n := ⟨_, rfl⟩
  have HN := Lib.hid hn
  rw [hn] at hlx hly hs hnn
  clear hn
  go_enter Tryz.func136, Tryz.ntmps136
  go_upto_region 4 with (fail)
  generalize w.alloc (.map #[] 0) = W0 at *
  generalize hmb : w.heap.size = mb at *
  have HMB := Lib.hid hmb
  clear hmb hmm
  go_wp2_with fail
  go_loopw [10, 30] (fun _ x30 wr => ∃ i : Nat, i ≤ n ∧ x30 = .int .i64 i ∧ Hid (Tgs Tryz.prog 3 4 wr mb i (fun k => decide (k ∈ (xs.take i).map (fof p)))) ∧ Hid (Ext w wr)) (fun _ x30 _ => n - (intOf x30).toNat)
  case atStart => exact ⟨0, Nat.zero_le _, rfl, Lib.hid (by simpa using HT0.out), HX0⟩
  case round =>
    clear HT0 HX0
    obtain ⟨i, hi, rfl, HT, HXW⟩ := hrel
    by_cases hin : i < n
    · have hix := HX.out.run_index (P := Tryz.prog) slInts i (by rw [HN.out]; exact hin)
      have hcx := (HX.out.ext HXW.out).cell i (by rw [HN.out]; exact hin)
      have HNI := Lib.hid (mem_take_nth (f := fof p) HD.out (by rw [HN.out]; exact hin))
      have HSN := Lib.hid (set_snocG xs (fof p) i (by rw [HN.out]; exact hin))
      have hfb := mod_bd (show 2 ≤ p by have := HP3.out; omega) (nth xs i)
      have hfb2 : 0 ≤ fof p (nth xs i) ∧ fof p (nth xs i) ≤ 2147483647 := ⟨hfb.1, by have := HP3.out; have := hfb.2; unfold fof; omega⟩
      have HFB := Lib.hid hfb2
      clear hfb hfb2
      generalize nth xs i = x at *
      obtain ⟨fx, hfx⟩ : ∃ fx, fof p x = fx := ⟨_, rfl⟩
      rw [hfx] at HNI HSN HFB
      have HFX := Lib.hid hfx
      clear hfx
      go_upto_region 9 with (go_at_call 66; refine (of_any (HF.out.ext HXW.out) _).mono ?_; rw [HFX.out]; rintro e w2 ⟨rfl, n2, rfl⟩; have hlk := (HT.out.ext (Ext.drewN wr n2)).look Tryz.underlying3 Tryz.underlying4 Tryz.underlying211 zeroBG HFB.out.1 HFB.out.2; rw [HNI.out] at hlk)
      go_wp2_with (go_at_call 66; refine (of_any (HF.out.ext (HXW.out.trans (Ext.drewN wr n2))) _).mono ?_; rw [HFX.out]; rintro e w3 ⟨rfl, n3, rfl⟩; obtain ⟨w4, hr4, hT4, hg4⟩ := (HT.out.ext (Ext.drewN wr (n2 + n3))).add Tryz.underlying3 Tryz.underlying4 Tryz.underlying211 (by omega) HFB.out.1 HFB.out.2; have HT4 := Lib.hid hT4; have HG4 := Lib.hid hg4; clear hT4 hg4)
      go_roundw
      case rel => exact ⟨i + 1, by omega, by go_num, Lib.hid (by rw [HSN.out]; exact HT4.out), Lib.hid (Below.grown (HXW.out.trans (Ext.drewN wr (n2 + n3))).below HG4.out (HXW.out.trans (Ext.drewN wr (n2 + n3))).size (fun q e => by cases e; rw [HMB.out]; exact Nat.le_refl _))⟩
      case measure => simp [intOf]; omega
    · obtain rfl : n = i := by omega
      clear HT
      go_upto_region 12 with (go_at_call 152; refine (vanish_any (HF.out.ext HXW.out) (HX.out.ext HXW.out) (by rw [HN.out]; exact hs)).mono ?_; rw [HN.out]; rintro e w2 ⟨v11, rfl, hx2, hi2⟩; have HX2 := Lib.hid (HXW.out.trans hx2); have HI2 := Lib.hid hi2; clear hx2 hi2)
      have HAL := Lib.hid (vanQ_length p xs n)
      have HFE := Lib.hid (fun j => ptRow_last p xs j)
      have HFQ := Lib.hid (show ∀ j, fitQ p xs ys (j + 1) = addc p (fdiv p (nth ys j) (ev (fitPt p xs j) (nth xs j) % p)) (fitQ p xs ys j) (fitPt p xs j) from fun j => rfl)
      rw [HN.out] at HFE
      have HFL := Lib.hid (fun j => fitQ_length p xs ys j)
      have HPL := Lib.hid (fun j => fitPt_length p xs j)
      rw [HN.out] at HFL HPL
      obtain ⟨al, hal⟩ : ∃ al, vanQ p xs n = al := ⟨_, rfl⟩
      rw [hal] at HAL HI2 HFE
      clear hal
      go_upto_region 13 with (refine wpList_mkn rfl _ _ 23 rfl slInts (Ext.refl _) rfl rfl (by omega) (by omega) (by omega) ?_; intro v12 w12 HN1 HX1 HG1)
      have HO0 := Lib.hid (show w12.ownsRow w2.heap.size 3 1 v12 n ((fitQ p xs ys 0).map (Value.int .i64)) from by
        rw [Int.toNat_natCast, zeros_made, List.append_nil] at HN1
        show w12.ownsRow w2.heap.size 3 1 v12 n ((List.replicate xs.length 0).map (Value.int .i64))
        rw [HN.out]; exact HN1)
      have HX12 := Lib.hid HX1
      have HVB := Lib.hid (show ∀ q, v12.ownBlock = some q → w2.heap.size ≤ q ∧ q < w12.heap.size from fun q hq => HN1.lt q hq)
      have HB11 := Lib.hid (show ∀ q, v11.ownBlock = some q → q < w2.heap.size from ints_lt9 HI2.out (by rw [HAL.out]; omega))
      clear HN1 HX1 HG1
      go_wp2_with fail
      go_loopw [13, 14, 15, 16, 17, 18, 19, 20, 53] (fun _ _ _ _ _ _ _ _ x53 wq => ∃ j : Nat, j ≤ n ∧ x53 = .int .i64 j ∧ Hid (wq.ownsRow w2.heap.size 3 1 v12 n ((fitQ p xs ys j).map (Value.int .i64))) ∧ Hid (w12.grownBy wq v12.ownBlock)) (fun _ _ _ _ _ _ _ _ x53 _ => n - (intOf x53).toNat)
      case atStart => exact ⟨0, Nat.zero_le _, rfl, HO0, Lib.hid (World.grownBy.refl _ _)⟩
      case round =>
        obtain ⟨j, hj, rfl, HOW, HXQ⟩ := hrel
        have HXR := Lib.hid (Ext.own_grown HX12.out HO0.out HXQ.out)
        have HXWR := Lib.hid (HX2.out.trans HXR.out)
        by_cases hjn : j < n
        · have hix := HX.out.run_index (P := Tryz.prog) slInts j (by rw [HN.out]; exact hjn)
          have hcx := (HX.out.ext HXWR.out).cell j (by rw [HN.out]; exact hjn)
          have HFEJ := Lib.hid (HFE.out j)
          have HFQJ := Lib.hid (HFQ.out j)
          have HFLJ := Lib.hid (HFL.out j)
          have HPLJ := Lib.hid (HPL.out j)
          obtain ⟨x, hxx⟩ : ∃ x, nth xs j = x := ⟨_, rfl⟩
          rw [hxx] at hcx HFEJ HFQJ
          have HXX := Lib.hid hxx
          clear hxx
          go_upto_region 17 with (refine wpList_mkn rfl _ _ 23 rfl slInts (Ext.refl _) rfl rfl (by omega) (by omega) (by omega) ?_; intro v15 w15 HN1 HX1 HG1)
          have HVB15 := Lib.hid (show ∀ q, v15.ownBlock = some q → wr.heap.size ≤ q from fun q hq => (HN1.lt q hq).1)
          have HR0 := Lib.hid (show w15.ownsRow w.heap.size 3 1 v15 n ((ptRow p x al n (n - n)).map (Value.int .i64)) from by
            rw [Int.toNat_natCast, zeros_made, List.append_nil] at HN1
            rw [Nat.sub_self, ptRow_zero]; exact own_base HN1 HXWR.out.size)
          have HX15 := Lib.hid HX1
          have HO15 := Lib.hid (own_ext HOW.out HX1)
          have HA15 := Lib.hid ((HI2.out.ext HXR.out).ext HX1)
          have HNE11 := Lib.hid (show ∀ q, v11.ownBlock = some q → some q ≠ v15.ownBlock from fun q hq e => by
            have h5 := HB11.out q hq
            have h6 := HVB15.out q e.symm
            have h7 := HXR.out.size
            omega)
          have HNE12 := Lib.hid (show ∀ q, v12.ownBlock = some q → some q ≠ v15.ownBlock from fun q hq e => by
            have h5 := (HOW.out.lt q hq).2
            have h6 := HVB15.out q e.symm
            omega)
          have HZ := Lib.hid (show hv p x (al.drop (n + 1)) = 0 from by rw [List.drop_eq_nil_of_le (by rw [HAL.out]; exact Nat.le_refl _)]; rfl)
          have HVBK := Lib.hid (show ∀ q, v15.ownBlock = some q → wr.heap.size ≤ q from HVB15.out)
          clear HN1 HX1 HG1 HVB15
          generalize wr = WR at *
          go_wp2_with fail
          go_loopw [16, 17] (fun x16 x17 wq => ∃ k : Nat, k ≤ n ∧ x17 = .int .i64 k ∧ x16 = .int .i64 (hv p x (al.drop (k + 1))) ∧ Hid (wq.ownsRow w.heap.size 3 1 v15 n ((ptRow p x al n (n - k)).map (Value.int .i64))) ∧ Hid (w15.grownBy wq v15.ownBlock)) (fun _ x17 _ => (intOf x17).toNat)
          case atStart => exact ⟨n, Nat.le_refl _, rfl, by rw [HZ.out], HR0, Lib.hid (World.grownBy.refl _ _)⟩
          case round =>
            obtain ⟨k, hk, rfl, rfl, HOP, HXP⟩ := hrel
            have HXPW := Lib.hid (Ext.own_grown (HXWR.out.trans HX15.out) HR0.out HXP.out)
            by_cases hk0 : 0 < k
            · obtain ⟨m, hm⟩ : ∃ m, k - 1 = m := ⟨_, rfl⟩
              have HAQ := Lib.hid (HA15.out.grown HXP.out HNE11.out)
              have hia := HAQ.out.run_index (P := Tryz.prog) slInts k (by rw [HAL.out]; omega)
              have hca := HAQ.out.cell k (by rw [HAL.out]; omega)
              have hst := hv_drop p x al k (by rw [HAL.out]; omega)
              have hkm : k = m + 1 := by omega
              have hps := ptRow_step p x al n m (by omega)
              have hlr : (ptRow p x al n (n - k)).length = n := ptRow_length _ _ _ _ _
              have HIP := Lib.hid (Ints.of_own HOP.out)
              have hip := HIP.out.run_index (P := Tryz.prog) slInts m (by rw [hlr]; omega)
              rw [show ((m : Nat) : Int) = (k : Int) - 1 by omega] at hip
              rw [show n - 1 - m = n - k by omega, show m + 1 = k by omega] at hps
              have HST := Lib.hid hst; have HPS := Lib.hid hps
              have HKM := Lib.hid (show m ≤ n ∧ m < n from by omega)
              have HKC := Lib.hid (show (k : Int) - 1 = (m : Int) from by omega)
              have HKE := Lib.hid (show m + 1 = k from by omega)
              have HLR := Lib.hid hlr
              have hk63 : (0 : Int) < (k : Int) := by omega
              have HFW := Lib.hid (HF.out.ext HXPW.out)
              clear hst hps hm hkm hlr
              generalize hv p x (al.drop (k + 1)) = rest at *
              obtain ⟨rest2, hr2⟩ : ∃ r, hv p x (al.drop k) = r := ⟨_, rfl⟩
              rw [hr2] at HST HPS
              have HR2 := Lib.hid hr2
              clear hr2
              generalize nth al k = ak at *
              go_wp2_with fail
              go_quiet (first | (go_at_call 70; exact add_q HFW.out _ _ _) | (go_at_call 71; exact mul_q HFW.out _ _ _))
              have HOQ := Lib.hid (own_ext HOP.out (Ext.drewN wr nq))
              have HXQ5 := Lib.hid (HXP.out.trans ((Ext.drewN wr nq).grownBy _))
              clear hia hca HAQ HFW HIP HOP HXP HXPW
              generalize wr.drewN nq = w6 at *
              go_wp2_with (refine wpList_set rfl rfl _ _ 3 rfl slInts HOQ.out m HKM.out.2 rfl (.int .i64 (fadd p ak (fmul p rest x))) rfl rfl (by intro u hu; simp [Value.cells] at hu; subst hu; rfl) ?_; intro w7 HO7 HG7)
              rw [ints_setC _ _ (by rw [HLR.out]; exact HKM.out.2), ← HST.out, HPS.out] at HO7
              have HO7H := Lib.hid HO7
              clear HO7
              go_roundw
              case rel => exact ⟨m, HKM.out.1, by rw [← HKC.out], by rw [HKE.out, HR2.out, HST.out], HO7H, Lib.hid (HXQ5.out.trans HG7)⟩
              case measure => simp [intOf]; omega
            · obtain rfl : k = 0 := by omega
              have HPT := Lib.hid (show wr.ownsRow w.heap.size 3 1 v15 n ((fitPt p xs j).map (Value.int .i64)) from by
                have := HOP.out
                rw [Nat.sub_zero, HFEJ.out] at this
                exact this)
              have HPI := Lib.hid (Ints.of_own HPT.out)
              have HS12 := Lib.hid (own_other HO15.out HXP.out (fun q hq h => HNE12.out q h hq.symm))
              have hiy := HY.out.run_index (P := Tryz.prog) slInts j (by rw [← HL.out, HN.out]; exact hjn)
              have hcy := (HY.out.ext HXPW.out).cell j (by rw [← HL.out, HN.out]; exact hjn)
              obtain ⟨c, hc⟩ : ∃ c, fdiv p (nth ys j) (ev (fitPt p xs j) x % p) = c := ⟨_, rfl⟩
              rw [hc] at HFQJ
              have HC := Lib.hid hc
              clear hc HOP
              have HNE := Lib.hid (show ∀ q, v15.ownBlock = some q → some q ≠ v12.ownBlock from fun q hq e => HNE12.out q e.symm hq.symm)
              obtain ⟨pt, hpt⟩ : ∃ pt, fitPt p xs j = pt := ⟨_, rfl⟩
              rw [hpt] at HPT HPI HC HPLJ HFQJ
              have HPTE := Lib.hid hpt
              clear hpt
              generalize nth ys j = yj at *
              generalize wr = WS at *
              go_wp2_with fail
              go_region_held3 (fun w' => w'.cell? (elt vy j 1) = some (.int .i64 yj)) (first | exact hx8.cell ((Ext.drew WS).cell hcy) | exact (Ext.drew WS).cell hcy | go_keep) (first | (go_at_call 137; refine (peval_any (HF.out.ext (HXPW.out.trans (Ext.drew WS))) _ pt x (HPI.out.ext (Ext.drew WS)) (by rw [HPLJ.out]; omega)).mono ?_; rintro e w8 ⟨u8, rfl, hx8, rfl⟩) | (go_at_call 153; refine (fdiv_any (HF.out.ext ((HXPW.out.trans (Ext.drew WS)).trans hx8)) _ _).mono ?_; rw [HC.out]; rintro e w9 ⟨rfl, m9, rfl⟩))
              have hx9 := ((Ext.drew WS).trans hx8).trans (Ext.drewN w8 m9)
              have HX9 := Lib.hid hx9
              have HXRS := Lib.hid (show Ext WR WS from Below.grown HX15.out.below HXP.out HX15.out.size (fun q e => HVBK.out q e))
              have HXQ9 := Lib.hid (show w12.grownBy (w8.drewN m9) v12.ownBlock from (HXQ.out.trans (HXRS.out.grownBy _)).trans (hx9.grownBy _))
              have HS9 := Lib.hid (own_ext HS12.out hx9)
              have HP9 := Lib.hid (HPI.out.ext hx9)
              have HXW9 := Lib.hid (HXPW.out.trans hx9)
              clear hx9 hx8 hcy hiy HS12 HPI HPT HX9 HXP HXQ HXRS HXPW HO15 HA15 HR0
              generalize w8.drewN m9 = w9 at *
              obtain ⟨sm, hsm⟩ : ∃ sm, fitQ p xs ys j = sm := ⟨_, rfl⟩
              rw [hsm] at HS9 HFLJ HFQJ
              have hlp := HP9.out.run_len (P := Tryz.prog) slInts
              rw [HPLJ.out] at hlp
              clear hsm
              have HA0 := Lib.hid (show w9.ownsRow w2.heap.size 3 1 v12 n ((adRow p c sm pt 0).map (Value.int .i64)) from by rw [adRow_zero]; exact HS9.out)
              go_wp2_with fail
              go_loopw [19, 20, 94] (fun _ _ x94 wq => ∃ t : Nat, t ≤ n ∧ x94 = .int .i64 t ∧ Hid (wq.ownsRow w2.heap.size 3 1 v12 n ((adRow p c sm pt t).map (Value.int .i64))) ∧ Hid (w9.grownBy wq v12.ownBlock)) (fun _ _ x94 _ => n - (intOf x94).toNat)
              case atStart => exact ⟨0, Nat.zero_le _, rfl, HA0, Lib.hid (World.grownBy.refl _ _)⟩
              case round =>
                obtain ⟨t, ht, rfl, HOT, HXT⟩ := hrel
                have HXTW := Lib.hid (show Ext w wr from Below.grown HXW9.out.below HXT.out HXW9.out.size (fun q e => by have h5 := (HVB.out q e).1; have h6 := HX2.out.size; omega))
                by_cases htn : t < n
                · have HPW := Lib.hid (HP9.out.grown HXT.out HNE.out)
                  have hip := HPW.out.run_index (P := Tryz.prog) slInts t (by rw [HPLJ.out]; exact htn)
                  have hcp := HPW.out.cell t (by rw [HPLJ.out]; exact htn)
                  have hlr : (adRow p c sm pt t).length = n := by rw [adRow_length]; exact HFLJ.out
                  have HIT := Lib.hid (Ints.of_own HOT.out)
                  have his := HIT.out.run_index (P := Tryz.prog) slInts t (by rw [hlr]; exact htn)
                  have hcs := HIT.out.cell t (by rw [hlr]; exact htn)
                  rw [adRow_nth _ _ _ _ _ (by rw [HFLJ.out]; exact htn)] at hcs
                  have HST := Lib.hid (adRow_step p c sm pt t (by rw [HFLJ.out]; exact htn))
                  have HLR := Lib.hid hlr
                  have HFW := Lib.hid (HF.out.ext HXTW.out)
                  clear hlr
                  generalize nth pt t = y at *
                  generalize nth sm t = sy at *
                  go_upto_region 27 with (fail)
                  refine wp_region_quiet_tail 13 (by kernel_rfl) (by kernel_rfl) ?_
                  simp only [List.take_succ_cons, List.take_zero, List.drop_succ_cons, List.drop_zero]
                  repeat (go_big_quiet_step (first | (go_at_call 71; exact mul_q HFW.out _ _ _) | (go_at_call 70; exact add_q HFW.out _ _ _)))
                  refine wpQuiet_nil ?_
                  rintro _ ⟨nq, rfl⟩
                  have HO4 := Lib.hid (own_ext HOT.out (Ext.drewN wr nq))
                  have HXT4 := Lib.hid (HXT.out.trans ((Ext.drewN wr nq).grownBy _))
                  go_wp2_with (refine wpList_set rfl rfl _ _ 3 rfl slInts HO4.out t htn rfl (.int .i64 (fadd p sy (fmul p c y))) rfl rfl (by intro u hu; simp [Value.cells] at hu; subst hu; rfl) ?_; intro w5 HO5 HG5)
                  rw [ints_setC _ _ (by rw [HLR.out]; exact htn), HST.out] at HO5
                  have HO5H := Lib.hid HO5
                  clear HO5
                  go_roundw
                  case rel => exact ⟨t + 1, by omega, by go_num, HO5H, Lib.hid (HXT4.out.trans HG5)⟩
                  case measure => simp [intOf]; omega
                · obtain rfl : n = t := by omega
                  have HSF := Lib.hid (show wr.ownsRow w2.heap.size 3 1 v12 n ((fitQ p xs ys (j + 1)).map (Value.int .i64)) from by
                    have h5 := HOT.out
                    have h6 := adRow_last p c sm pt (by rw [HFLJ.out, HPLJ.out])
                    rw [HFLJ.out] at h6
                    rw [HFQJ.out, ← h6]; exact h5)
                  clear HOT
                  go_wp2_with fail
                  go_roundw
                  case rel => exact ⟨j + 1, by omega, by go_num, HSF, Lib.hid (HXQ9.out.trans HXT.out)⟩
                  case measure => simp [intOf]; omega
        · obtain rfl : n = j := by omega
          have HIF := Lib.hid (Ints.of_own HOW.out)
          have HLF := Lib.hid (HFL.out n)
          clear HOW
          go_wp2_with (go_at_call 154; refine (ptrim_any (HF.out.ext HXWR.out) HIF.out (by rw [HLF.out]; omega)).mono ?_; rintro e w9 ⟨v9, rfl, hx9, hi9⟩; have HI9 := Lib.hid hi9; have HX9 := Lib.hid (HXWR.out.trans hx9); clear hi9 hx9)
          go_ret2
          exact .mk _ rfl HX9.out ⟨_, rfl, by rw [HN.out]; exact HI9.out⟩
end
end Go.Proofs.YtaajjaadlpgbiaaGreatDoor
