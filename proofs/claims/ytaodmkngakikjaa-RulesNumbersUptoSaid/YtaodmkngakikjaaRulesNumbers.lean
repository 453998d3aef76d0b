/- RulesNumbers: TWO UNLIKE PAIRS come to the same number with at most one y: the law's walk: for every input it returns true and leaves all that was there as it was. -/
import Derived.Test.YtaodmkngakikjaaTl
import Derived.Test.YtaodmkngakikjaaGa
import Derived.Test.YtaodmkngakikjaaLa
import Derived.ProofKit
namespace Go.Att
open Go.RowKit
/-- Two pairs that come to one number with two unlike y are alike. -/
theorem pairs_one {p : Int} (hp : Pr p) {a1 a2 b1 b2 y z : Int} (h1 : fprod p y 0 [(a1, a2)] = fprod p y 0 [(b1, b2)]) (h2 : fprod p z 0 [(a1, a2)] = fprod p z 0 [(b1, b2)]) (hu : fsub p y z ≠ 0) : fof p (a1 - b1) = 0 ∧ fof p (a2 - b2) = 0 := by
  have key : ∀ y, fprod p y 0 [(a1, a2)] = fprod p y 0 [(b1, b2)] → p ∣ (a1 - b1) + (a2 - b2) * y := by
    intro y h
    simp only [fprod, numb, prodL, List.map_cons, List.map_nil, List.foldr_cons, List.foldr_nil, Int.mul_one] at h
    have h3 := Int.dvd_of_emod_eq_zero (show ((0 - (b1 + b2 * y) % p) - (0 - (a1 + a2 * y) % p)) % p = 0 by rw [Int.sub_emod, ← h, Int.sub_self]; simp)
    have h4 : p ∣ (a1 + a2 * y) - (b1 + b2 * y) := by
      have e1 := Int.emod_add_mul_ediv (a1 + a2 * y) p
      have e2 := Int.emod_add_mul_ediv (b1 + b2 * y) p
      obtain ⟨c, hc⟩ := h3
      refine ⟨c + (a1 + a2 * y) / p - (b1 + b2 * y) / p, ?_⟩
      rw [Int.mul_sub, Int.mul_add]
      omega
    rw [show (a1 - b1) + (a2 - b2) * y = (a1 + a2 * y) - (b1 + b2 * y) by rw [Int.sub_mul]; omega]
    exact h4
  have k1 := key y h1
  have k2 := key z h2
  have k3 : p ∣ (a2 - b2) * (y - z) := by
    have := Int.dvd_sub k1 k2
    rw [show (a1 - b1 + (a2 - b2) * y) - (a1 - b1 + (a2 - b2) * z) = (a2 - b2) * (y - z) by rw [Int.mul_sub]; omega] at this
    exact this
  have k4 : ¬ p ∣ y - z := fun h => hu (Int.emod_eq_zero_of_dvd h)
  have k5 : p ∣ a2 - b2 := (hp.euclid k3).resolve_right k4
  have k6 : p ∣ a1 - b1 := by
    have := Int.dvd_sub k1 (Int.dvd_trans k5 (Int.dvd_mul_right (a2 - b2) y))
    rw [show (a1 - b1 + (a2 - b2) * y) - (a2 - b2) * y = a1 - b1 by omega] at this
    exact this
  exact ⟨Int.emod_eq_zero_of_dvd k6, Int.emod_eq_zero_of_dvd k5⟩
theorem prs_one (w : World) (x y : Int) (t : TypeId) : Prs (w.alloc (Obj.cells #[.int .i64 x, .int .i64 y] t)) (.slice (some ⟨w.heap.size, 0, none⟩) 1 1) [(x, y)] := by
  refine ⟨_, _, rfl, rfl, Nat.le_refl _, by unfold maxLen; omega, fun i hi => ⟨_, _, rfl, ?_⟩⟩
  have := (BlkOf.new w [.int .i64 x, .int .i64 y] t).cell i
  rw [Nat.zero_add, this]
  have h2 : i = 0 ∨ i = 1 := by simp [flatP] at hi; omega
  rcases h2 with rfl | rfl <;> rfl
/-- Two boxes, as they lie. -/
theorem two_boxes7 (w : World) (xs ys : List Value) (t u : TypeId) : ∃ W, (w.alloc (Obj.cells xs.toArray t)).alloc (Obj.cells ys.toArray u) = W ∧ BlkOf W w.heap.size xs t ∧ BlkOf W (w.heap.size + 1) ys u ∧ Ext w W := by
  refine ⟨_, rfl, (BlkOf.new w xs t).ext (Ext.alloc _ _), ?_, (Ext.alloc _ _).trans (Ext.alloc _ _)⟩
  have := BlkOf.new (w.alloc (Obj.cells xs.toArray t)) ys u
  rwa [show (w.alloc (Obj.cells xs.toArray t)).heap.size = w.heap.size + 1 by simp] at this
end Go.Att
namespace Go.Proofs.Ytaodmkngakikjaa
open Go.RowKit Go.Att
set_option maxRecDepth 100000 in
set_option maxHeartbeats 4000000 in
theorem rulesNumbers_bad (p a1 a2 b1 b2 y z : Int) (w : World) (h : ¬ okP p) :
    Calls Try.prog 4 #[.int .i64 p, .agg #[.int .i64 a1, .int .i64 a2], .agg #[.int .i64 b1, .int .i64 b2], .int .i64 y, .int .i64 z] w fun e w' => e = .returned (.bool true) ∧ Ext w w' := by
  have H := Lib.hid h; clear h
  have HX0 := Lib.hid ((Ext.alloc w (Obj.cells #[.int .i64 a1, .int .i64 a2] 44)).trans (Ext.alloc _ (Obj.cells #[.int .i64 b1, .int .i64 b2] 44)))
  go_enter Try.func4, Try.ntmps4
  go_wp2_with (first | (go_at_call 10; refine (lives7_any _).mono ?_; rintro e w1 ⟨rfl, hx1⟩) | (go_at_call 11; refine (plain_bad7 _ _ H.out).mono ?_; rintro e w2 ⟨rfl, rfl⟩))
  go_ret
  exact ⟨rfl, HX0.out.trans hx1⟩
set_option maxRecDepth 100000 in
set_option maxHeartbeats 8000000 in
theorem rulesNumbers_ok (p a1 a2 b1 b2 y z : Int) (w : World) (h : okP p) (l1 : -9223372036854775808 ≤ a1 ∧ a1 ≤ 9223372036854775807) (l2 : -9223372036854775808 ≤ a2 ∧ a2 ≤ 9223372036854775807) (l3 : -9223372036854775808 ≤ b1 ∧ b1 ≤ 9223372036854775807) (l4 : -9223372036854775808 ≤ b2 ∧ b2 ≤ 9223372036854775807) :
    Calls Try.prog 4 #[.int .i64 p, .agg #[.int .i64 a1, .int .i64 a2], .agg #[.int .i64 b1, .int .i64 b2], .int .i64 y, .int .i64 z] w fun e w' => e = .returned (.bool true) ∧ Ext w w' := by
  have H := Lib.hid h
  obtain ⟨W, hW, hb1, hb2, hx0⟩ := two_boxes7 w [.int .i64 a1, .int .i64 a2] [.int .i64 b1, .int .i64 b2] 44 44
  have HX0 := Lib.hid hx0; have HA := Lib.hid hb1; have HB := Lib.hid hb2; have HW := Lib.hid hW
  have HL := Lib.hid (And.intro l1 (And.intro l2 (And.intro l3 l4)))
  clear h hb1 hb2 hx0 hW l1 l2 l3 l4
  go_enter Try.func4, Try.ntmps4
  go_upto_region 1 with (fail)
  rw [show ((w.alloc (Obj.cells #[.int .i64 a1, .int .i64 a2] 44)).alloc (Obj.cells #[.int .i64 b1, .int .i64 b2] 44)) = W from HW.out]
  generalize hk2 : w.heap.size + 1 = k2 at *
  generalize hk1 : w.heap.size = k1 at *
  clear hk1 hk2 HW
  go_wp2_with fail
  refine (lives7_any _).mono ?_
  rintro e w0 ⟨rfl, hx0⟩
  replace HX0 := Lib.hid (HX0.out.trans hx0); replace HA := Lib.hid (HA.out.ext hx0); replace HB := Lib.hid (HB.out.ext hx0)
  clear hx0
  go_wp2_with fail
  refine (plain_ok7 _ _ H.out).mono ?_
  rintro e w1 ⟨v1, rfl, hx, g, hf⟩
  obtain ⟨bf, rfl⟩ := hf.ptr
  obtain ⟨fs, hfl⟩ := hf.fld
  have HF := Lib.hid hfl
  replace HX0 := Lib.hid (HX0.out.trans hx); replace HA := Lib.hid (HA.out.ext hx); replace HB := Lib.hid (HB.out.ext hx)
  clear hf hfl hx
  have c0 : w1.cell? ⟨k1, 0, none⟩ = some (.int .i64 a1) := HA.out.cell 0
  have c1 : w1.cell? ⟨k1, 1, none⟩ = some (.int .i64 a2) := HA.out.cell 1
  have d0 : w1.cell? ⟨k2, 0, none⟩ = some (.int .i64 b1) := HB.out.cell 0
  have d1 : w1.cell? ⟨k2, 1, none⟩ = some (.int .i64 b2) := HB.out.cell 1
  go_wp2_with fail
  refine (of_any HF.out _).mono ?_
  rintro e w2 hrd
  obtain ⟨rfl, hx2⟩ := hrd.ext
  obtain ⟨s, hs⟩ : ∃ s, fof p (wrap64 (a1 - b1)) = s := ⟨_, rfl⟩
  rw [hs]
  have HS := Lib.hid hs
  replace HX0 := Lib.hid (HX0.out.trans hx2); replace HA := Lib.hid (HA.out.ext hx2); replace HB := Lib.hid (HB.out.ext hx2); replace HF := Lib.hid (HF.out.ext hx2)
  clear hrd hx2 hs c0 c1 d0 d1
  have c0 : w2.cell? ⟨k1, 0, none⟩ = some (.int .i64 a1) := HA.out.cell 0
  have c1 : w2.cell? ⟨k1, 1, none⟩ = some (.int .i64 a2) := HA.out.cell 1
  have d0 : w2.cell? ⟨k2, 0, none⟩ = some (.int .i64 b1) := HB.out.cell 0
  have d1 : w2.cell? ⟨k2, 1, none⟩ = some (.int .i64 b2) := HB.out.cell 1
  go_wp2_with fail
  refine (of_any HF.out _).mono ?_
  rintro e w3 hrd
  obtain ⟨rfl, hx3⟩ := hrd.ext
  obtain ⟨t, ht⟩ : ∃ t, fof p (wrap64 (a2 - b2)) = t := ⟨_, rfl⟩
  rw [ht]
  have HT := Lib.hid ht
  replace HX0 := Lib.hid (HX0.out.trans hx3); replace HA := Lib.hid (HA.out.ext hx3); replace HB := Lib.hid (HB.out.ext hx3); replace HF := Lib.hid (HF.out.ext hx3)
  clear hrd hx3 ht c0 c1 d0 d1
  go_wp2_with fail
  refine (sub_any HF.out _ _).mono ?_
  rintro e w4 hrd
  obtain ⟨rfl, hx4⟩ := hrd.ext
  obtain ⟨u, hu⟩ : ∃ u, fsub p y z = u := ⟨_, rfl⟩
  rw [hu]
  have HU := Lib.hid hu
  replace HX0 := Lib.hid (HX0.out.trans hx4); replace HA := Lib.hid (HA.out.ext hx4); replace HB := Lib.hid (HB.out.ext hx4); replace HF := Lib.hid (HF.out.ext hx4)
  clear hrd hx4 hu
  have c0 : w4.cell? ⟨k1, 0, none⟩ = some (.int .i64 a1) := HA.out.cell 0
  have c1 : w4.cell? ⟨k1, 1, none⟩ = some (.int .i64 a2) := HA.out.cell 1
  have d0 : w4.cell? ⟨k2, 0, none⟩ = some (.int .i64 b1) := HB.out.cell 0
  have d1 : w4.cell? ⟨k2, 1, none⟩ = some (.int .i64 b2) := HB.out.cell 1
  by_cases n1 : a1 < 0
  · go_wp2_with fail
    go_ret
    exact ⟨rfl, HX0.out⟩
  by_cases n2 : b1 < 0
  · go_wp2_with fail
    go_ret
    exact ⟨rfl, HX0.out⟩
  by_cases n3 : a2 < 0
  · go_wp2_with fail
    go_ret
    exact ⟨rfl, HX0.out⟩
  by_cases n4 : b2 < 0
  · go_wp2_with fail
    go_ret
    exact ⟨rfl, HX0.out⟩
  have HSN : Hid (fof p (a1 - b1) = s) := Lib.hid (by rw [← HS.out]; congr 1; have := HL.out; exact (IntWalk.wrap64_in _ (by omega)).symm)
  have HTN : Hid (fof p (a2 - b2) = t) := Lib.hid (by rw [← HT.out]; congr 1; have := HL.out; exact (IntWalk.wrap64_in _ (by omega)).symm)
  by_cases hst : s = 0 ∧ t = 0
  · have q1 : (s == 0) = true := by rw [hst.1]; rfl
    have q2 : (t == 0) = true := by rw [hst.2]; rfl
    clear hst
    go_wp2_with fail
    go_ret
    exact ⟨rfl, HX0.out⟩
  by_cases hu0 : u = 0
  · have q3 : (u == 0) = true := by rw [hu0]; rfl
    have q4 : ((s == 0) && (t == 0)) = false := by
      rw [Bool.and_eq_false_iff, beq_eq_false_iff_ne, beq_eq_false_iff_ne]
      by_cases e : s = 0
      · exact .inr (fun e2 => hst ⟨e, e2⟩)
      · exact .inl e
    clear hst
    by_cases e : s = 0
    · have q5 : (s == 0) = true := by rw [e]; rfl
      have q6 : (t == 0) = false := by simpa [q5] using q4
      clear e hu0 q4
      go_wp2_with fail
      go_ret
      exact ⟨rfl, HX0.out⟩
    · have q5 : (s == 0) = false := by rw [beq_eq_false_iff_ne]; exact e
      clear e hu0 q4
      go_wp2_with fail
      go_ret
      exact ⟨rfl, HX0.out⟩
  have HNO : Hid (¬ (fprod p y 0 [(a1, a2)] = fprod p y 0 [(b1, b2)] ∧ fprod p z 0 [(a1, a2)] = fprod p z 0 [(b1, b2)])) := Lib.hid fun ⟨h1, h2⟩ => by
    have := pairs_one H.out.1 h1 h2 (by rw [HU.out]; exact hu0)
    rw [HSN.out, HTN.out] at this
    exact hst this
  have q3 : (u == 0) = false := by rw [beq_eq_false_iff_ne]; exact hu0
  have hsel : ((s == 0) = true ∧ (t == 0) = false) ∨ (s == 0) = false := by
    by_cases e : s = 0
    · exact .inl ⟨by rw [e]; rfl, by rw [beq_eq_false_iff_ne]; exact fun e2 => hst ⟨e, e2⟩⟩
    · exact .inr (by rw [beq_eq_false_iff_ne]; exact e)
  clear hst hu0
  have hxa := Ext.alloc w4 (Obj.cells #[.int .i64 a1, .int .i64 a2] 44)
  have hxb := Ext.alloc (w4.alloc (Obj.cells #[.int .i64 a1, .int .i64 a2] 44)) (Obj.cells #[.int .i64 b1, .int .i64 b2] 44)
  have HPA := Lib.hid ((prs_one w4 a1 a2 44).ext hxb)
  have hpb := prs_one (w4.alloc (Obj.cells #[.int .i64 a1, .int .i64 a2] 44)) b1 b2 44
  rw [show (w4.alloc (Obj.cells #[.int .i64 a1, .int .i64 a2] 44)).heap.size = w4.heap.size + 1 by simp] at hpb
  have HPB := Lib.hid hpb
  have HXA := Lib.hid (hxa.trans hxb)
  have d0a := hxa.cell d0
  have d1a := hxa.cell d1
  clear hpb hxa hxb
  rcases hsel with ⟨q1, q2⟩ | q1
  all_goals
    go_wp2_with fail
    refine (same_any (HF.out.ext HXA.out) 0 y _ _ [(a1, a2)] [(b1, b2)] HPA.out HPB.out).mono ?_
    rintro e w5 ⟨rfl, hx5⟩
    obtain ⟨o1, ho1⟩ : ∃ o, (fprod p y 0 [(a1, a2)] == fprod p y 0 [(b1, b2)]) = o := ⟨_, rfl⟩
    rw [ho1]
    have HO1 := Lib.hid ho1
    have HX5 := Lib.hid (HX0.out.trans (HXA.out.trans hx5)); have HF5 := Lib.hid (HF.out.ext (HXA.out.trans hx5))
    have c0 := (HXA.out.trans hx5).cell c0
    have c1 := (HXA.out.trans hx5).cell c1
    have d0 := (HXA.out.trans hx5).cell d0
    have d1 := (HXA.out.trans hx5).cell d1
    clear hx5 ho1 d0a d1a HPA HPB HXA
    have hxa := Ext.alloc w5 (Obj.cells #[.int .i64 a1, .int .i64 a2] 44)
    have hxb := Ext.alloc (w5.alloc (Obj.cells #[.int .i64 a1, .int .i64 a2] 44)) (Obj.cells #[.int .i64 b1, .int .i64 b2] 44)
    have HPA := Lib.hid ((prs_one w5 a1 a2 44).ext hxb)
    have hpb := prs_one (w5.alloc (Obj.cells #[.int .i64 a1, .int .i64 a2] 44)) b1 b2 44
    rw [show (w5.alloc (Obj.cells #[.int .i64 a1, .int .i64 a2] 44)).heap.size = w5.heap.size + 1 by simp] at hpb
    have HPB := Lib.hid hpb
    have HXA := Lib.hid (hxa.trans hxb)
    have d0a := hxa.cell d0
    have d1a := hxa.cell d1
    clear hpb hxa hxb
    go_wp2_with fail
    refine (same_any (HF5.out.ext HXA.out) 0 z _ _ [(a1, a2)] [(b1, b2)] HPA.out HPB.out).mono ?_
    rintro e w6 ⟨rfl, hx6⟩
    obtain ⟨o2, ho2⟩ : ∃ o, (fprod p z 0 [(a1, a2)] == fprod p z 0 [(b1, b2)]) = o := ⟨_, rfl⟩
    rw [ho2]
    have HO2 := Lib.hid ho2
    have HX6 := Lib.hid (HX5.out.trans (HXA.out.trans hx6))
    clear hx6 ho2 d0a d1a HPA HPB HXA c0 c1 d0 d1
    cases o1 with
    | false =>
      go_wp2_with fail
      go_ret
      exact ⟨rfl, HX6.out⟩
    | true =>
      cases o2 with
      | false =>
        go_wp2_with fail
        go_ret
        exact ⟨rfl, HX6.out⟩
      | true => exact absurd ⟨by simpa using HO1.out, by simpa using HO2.out⟩ HNO.out
end Go.Proofs.Ytaodmkngakikjaa
