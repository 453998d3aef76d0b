/- A walker looks at a choice, and at what must be so: contracts. Printed by wip/mkev8.py. -/
import Derived.Test.YtgnomhbbbcfehaaGreatDoorEv8
namespace Go.Proofs.YtgnomhbbbcfehaaGreatDoor
open Go.RowKit Go.Att Go.Shelf
section
variable {w0 w w' : World} {bf wb pb lo hi fuel n left : Nat} {p g : Int} {ff : List Int} {fs : List Att.Fn} {fv : Value}
set_option maxRecDepth 100000 in
set_option maxHeartbeats 8000000 in
theorem slook_if {l mb c q pos : Nat} {m : Env} {num : Int} {s : List UInt8} {kv : Value} {r : Ev Int} (hx : Ext w0 w) (hwb : w0.heap.size ≤ wb) (hmb : mb ≠ wb) (hfu : fuel ≤ 16384) (hb : BlkOf w0 q (pcells 10 num s kv pos) 152) (hwk : WkAt w wb bf pb fuel (l + 1)) (hm : MpS w mb c m) {sc : List (List UInt8)} {u0 u1 u2 : Value} {e0 e1 e2 : Env → Nat → Ev Int} (hmb0 : w0.heap.size ≤ mb) (hln : l ≤ n) (hc : c + (l + 1) ≤ 1000000) (_hp2 : p ≤ 2147483647) (hkn : Knows m sc) (hin : EnvIn p m) (K0 : KidAt w0 kv 0 u0) (K1 : KidAt w0 kv 1 u1) (K2 : KidAt w0 kv 2 u2) (O0 : KidOk w0 bf wb pb fuel p n u0 e0 sc) (O1 : KidOk w0 bf wb pb fuel p n u1 e1 sc) (O2 : KidOk w0 bf wb pb fuel p n u2 e2 sc) (hr : r = (e0 m l).bind fun a l => if a = 0 then e2 m l else e1 m l) : Calls Tryz.prog 69 #[.pointer (some ⟨wb, 0, none⟩), .pointer (some ⟨q, 0, none⟩), .map (some mb)] w (LkGot w wb bf pb fuel mb c (l + 1) m p r) := by
  have HK0 := Lib.hid K0; have HK1x := Lib.hid K1; have HK2 := Lib.hid K2; have HO0 := Lib.hid O0; have HO1 := Lib.hid O1; have HO2 := Lib.hid O2
  clear K0 K1 K2 O0 O1 O2
  obtain ⟨k, hk, hbk⟩ := id hwk
  have c2 : w.cell? ⟨wb, 2, none⟩ = some (.int .i64 fuel) := hbk.cell 2
  have c3 : w.cell? ⟨wb, 3, none⟩ = some (.int .i64 k) := hbk.cell 3
  have c3f : w.frozen? ⟨wb, 3, none⟩ = false := hbk.free 3
  have hne : ((k : Int) == (fuel : Int)) = false := by rw [beq_eq_false_iff_ne]; omega
  have hk2 : k ≤ 16384 := by omega
  have HT := Lib.hid (tick_any hx hwb hk hbk hm hmb)
  have HX := Lib.hid hx; have HB := Lib.hid hb
  clear hbk hwk hm hx hb
  go_enter Tryz.func69, Tryz.ntmps69
  go_upto_region 1 with fail
  go_quiet (fail)
  go_upto_region 4 with fail
  obtain ⟨hx1, hb1, hk1, hm1⟩ := HT.out nq
  clear HT c2 c3 c3f hne
  generalize (w.drewN nq).setCell ⟨wb, 3, none⟩ (.int .i64 ((k : Int) + 1)) = w1 at *
  have k0 : w1.cell? ⟨q, 0, none⟩ = some (.int .i64 10) := hx1.cell (HB.out.cell 0)
  have HX1 := Lib.hid hx1; have HB1 := Lib.hid hb1; have HK1 := Lib.hid hk1; have HM1 := Lib.hid hm1; have HR := Lib.hid hr
  clear hx1 hb1 hk1 hm1 hr
  have HC3 : Hid (∀ W, Ext w0 W → W.cell? ⟨q, 3, none⟩ = some kv) := Lib.hid (fun W hW => hW.cell (HB.out.cell 3))
  have c3 := HC3.out w1 HX1.out
  have ix : ∀ W, (Instr.indexAt 150 kv (.int .i64 0)).run Tryz.prog W = .ok (.pointer (some (elt kv 0 1))) W := HK0.out.1
  have d1 := HK0.out.2 w1 HX1.out
  have hcall := HO0.out m l c mb w1 hln HX1.out hmb0 hmb hkn hin HK1.out HM1.out (by omega)
  go_wp2_with fail
  refine hcall.mono ?_
  clear hcall c3 ix d1 k0
  intro e w3 hG
  rcases hG.cases with ⟨a, l1, hr, rfl, h1, h2, ⟨c1, h3, h4⟩, h5, h6, h7⟩ | ⟨k, hr, h1, h2⟩
  · have HB3 := Lib.hid (HB1.out.trans h1)
    have g0 := h1.ext HX1.out hwb hmb0
    have c3 := HC3.out w3 g0
    by_cases ha : a = 0
    · have HR3 := Lib.hid (show r = e2 m l1 from HR.out.trans (by rw [hr]; show (if a = 0 then _ else _) = _; rw [if_pos ha]))
      have hcall := HO2.out m l1 c1 mb w3 (by omega) g0 hmb0 hmb hkn hin h2 h4 (by omega)
      have ix : ∀ W, (Instr.indexAt 150 kv (.int .i64 2)).run Tryz.prog W = .ok (.pointer (some (elt kv 2 1))) W := HK2.out.1
      have d1 := HK2.out.2 w3 g0
      subst ha
      clear hG h1 h2 h4 hr g0
      go_wp2_with fail
      refine hcall.mono ?_
      clear hcall c3 ix d1
      intro e w9 hG
      rcases hG.cases with ⟨x, l9, hr, rfl, h1, h2, ⟨c9, h3, h4⟩, h5, h6, h7⟩ | ⟨k, hr, h1, h2⟩
      · have HB9 := Lib.hid (HB3.out.trans h1); have HK9 := Lib.hid h2; have HM9 := Lib.hid h4; have HR9 := Lib.hid (HR3.out.trans hr)
        clear hG h1 h2 h4 hr
        go_wp2_with fail
        go_ret
        exact LkGot.ok HR9.out HB9.out HK9.out (by omega) HM9.out (by omega) h6 h7
      · have HB9 := Lib.hid (HB3.out.trans h2); have HR9 := Lib.hid (HR3.out.trans hr)
        obtain rfl := h1
        clear hG h2 hr
        go_wp2_with fail
        exact ⟨rfl, LkGot.halt HR9.out rfl HB9.out⟩
    · have HR3 := Lib.hid (show r = e1 m l1 from HR.out.trans (by rw [hr]; show (if a = 0 then _ else _) = _; rw [if_neg ha]))
      have hcall := HO1.out m l1 c1 mb w3 (by omega) g0 hmb0 hmb hkn hin h2 h4 (by omega)
      have ix : ∀ W, (Instr.indexAt 150 kv (.int .i64 1)).run Tryz.prog W = .ok (.pointer (some (elt kv 1 1))) W := HK1x.out.1
      have d1 := HK1x.out.2 w3 g0
      have hab : (a == 0) = false := by rw [beq_eq_false_iff_ne]; exact ha
      clear hG h1 h2 h4 hr g0 ha
      go_wp2_with fail
      refine hcall.mono ?_
      clear hcall c3 ix d1
      intro e w9 hG
      rcases hG.cases with ⟨x, l9, hr, rfl, h1, h2, ⟨c9, h3, h4⟩, h5, h6, h7⟩ | ⟨k, hr, h1, h2⟩
      · have HB9 := Lib.hid (HB3.out.trans h1); have HK9 := Lib.hid h2; have HM9 := Lib.hid h4; have HR9 := Lib.hid (HR3.out.trans hr)
        clear hG h1 h2 h4 hr
        go_wp2_with fail
        go_ret
        exact LkGot.ok HR9.out HB9.out HK9.out (by omega) HM9.out (by omega) h6 h7
      · have HB9 := Lib.hid (HB3.out.trans h2); have HR9 := Lib.hid (HR3.out.trans hr)
        obtain rfl := h1
        clear hG h2 hr
        go_wp2_with fail
        exact ⟨rfl, LkGot.halt HR9.out rfl HB9.out⟩
  · have HB3 := Lib.hid (HB1.out.trans h2); have HR3 := Lib.hid (HR.out.trans (by rw [hr] <;> rfl))
    obtain rfl := h1
    clear hG h2 hr
    go_wp2_with fail
    exact ⟨rfl, LkGot.halt HR3.out rfl HB3.out⟩
set_option maxRecDepth 100000 in
set_option maxHeartbeats 8000000 in
theorem slook_need {l mb c q pos : Nat} {m : Env} {num : Int} {s : List UInt8} {kv : Value} {r : Ev Int} (hx : Ext w0 w) (hwb : w0.heap.size ≤ wb) (hmb : mb ≠ wb) (hfu : fuel ≤ 16384) (hb : BlkOf w0 q (pcells 9 num s kv pos) 152) (hwk : WkAt w wb bf pb fuel (l + 1)) (hm : MpS w mb c m) {sc : List (List UInt8)} {u0 u1 u2 : Value} {e0 e1 e2 : Env → Nat → Ev Int} (hmb0 : w0.heap.size ≤ mb) (hln : l ≤ n) (hc : c + (l + 1) ≤ 1000000) (_hp2 : p ≤ 2147483647) (hkn : Knows m sc) (hin : EnvIn p m) (K0 : KidAt w0 kv 0 u0) (K1 : KidAt w0 kv 1 u1) (K2 : KidAt w0 kv 2 u2) (O0 : KidOk w0 bf wb pb fuel p n u0 e0 sc) (O1 : KidOk w0 bf wb pb fuel p n u1 e1 sc) (O2 : KidOk w0 bf wb pb fuel p n u2 e2 sc) (hr : r = (e0 m l).bind fun a l => (e1 m l).bind fun b l => if a = b then e2 m l else .stop 7) : Calls Tryz.prog 69 #[.pointer (some ⟨wb, 0, none⟩), .pointer (some ⟨q, 0, none⟩), .map (some mb)] w (LkGot w wb bf pb fuel mb c (l + 1) m p r) := by
  have HK0 := Lib.hid K0; have HK1x := Lib.hid K1; have HK2 := Lib.hid K2; have HO0 := Lib.hid O0; have HO1 := Lib.hid O1; have HO2 := Lib.hid O2
  clear K0 K1 K2 O0 O1 O2
  obtain ⟨k, hk, hbk⟩ := id hwk
  have c2 : w.cell? ⟨wb, 2, none⟩ = some (.int .i64 fuel) := hbk.cell 2
  have c3 : w.cell? ⟨wb, 3, none⟩ = some (.int .i64 k) := hbk.cell 3
  have c3f : w.frozen? ⟨wb, 3, none⟩ = false := hbk.free 3
  have hne : ((k : Int) == (fuel : Int)) = false := by rw [beq_eq_false_iff_ne]; omega
  have hk2 : k ≤ 16384 := by omega
  have HT := Lib.hid (tick_any hx hwb hk hbk hm hmb)
  have HX := Lib.hid hx; have HB := Lib.hid hb
  clear hbk hwk hm hx hb
  go_enter Tryz.func69, Tryz.ntmps69
  go_upto_region 1 with fail
  go_quiet (fail)
  go_upto_region 4 with fail
  obtain ⟨hx1, hb1, hk1, hm1⟩ := HT.out nq
  clear HT c2 c3 c3f hne
  generalize (w.drewN nq).setCell ⟨wb, 3, none⟩ (.int .i64 ((k : Int) + 1)) = w1 at *
  have k0 : w1.cell? ⟨q, 0, none⟩ = some (.int .i64 9) := hx1.cell (HB.out.cell 0)
  have HX1 := Lib.hid hx1; have HB1 := Lib.hid hb1; have HK1 := Lib.hid hk1; have HM1 := Lib.hid hm1; have HR := Lib.hid hr
  clear hx1 hb1 hk1 hm1 hr
  have HC3 : Hid (∀ W, Ext w0 W → W.cell? ⟨q, 3, none⟩ = some kv) := Lib.hid (fun W hW => hW.cell (HB.out.cell 3))
  have hpn : ∀ (t : TypeId) (v : Value) (w : World), (Instr.panic (.iface t v)).run Tryz.prog w = .halt (.panic (.iface t v)) w := fun _ _ _ => rfl
  go_upto_region 19 with fail
  refine wp_region_halt (fun ch w'' => LkGot w wb bf pb fuel mb c (l + 1) m p r (.panicked ch) w'') ?_ ?_
  · intro c a w'' hd hR
    go_wp2_with fail
    exact ⟨hd, hR⟩
  clear k0
  cases he0 : e0 m l with
  | stop k =>
    refine wp_region_eqs 19 rfl [some (.pointer (some ⟨wb, 0, none⟩)), some (.pointer (some ⟨q, 0, none⟩)), some (.pointer (some ⟨q, 0, none⟩)), some (.pointer (some ⟨q, 3, none⟩)), some kv, some (.pointer (some (elt kv 0 1))), some u0, some (.map (some mb)), some (.int .i64 0), some (.pointer (some ⟨wb, 0, none⟩)), some (.pointer (some ⟨q, 0, none⟩)), some (.pointer (some ⟨q, 0, none⟩)), some (.pointer (some ⟨q, 3, none⟩)), some kv, some (.pointer (some (elt kv 1 1))), some u1, some (.map (some mb)), some (.int .i64 0), some (.bool ( 0 !=  0))] [8, 17] (fun k W => Ext w0 W ∧ But2 wb mb w W ∧ (k = 0 → WkAt W wb bf pb fuel l ∧ MpS W mb c m) ∧ (k = 1 → False) ∧ (k = 2 → False)) (by kernel_rfl) (by kernel_rfl) (by kernel_rfl) (by kernel_rfl) (fun k W W' h hg => by have hX := ext_gn hg; exact ⟨h.1.trans hX, h.2.1.trans (But2.of_ext hX), fun e => ⟨(h.2.2.1 e).1.ext hX, Mpi.ext (h.2.2.1 e).2 hX⟩, h.2.2.2.1, h.2.2.2.2⟩) (⟨HX1.out.trans (Ext.drew _), HB1.out.trans (But2.of_ext (Ext.drew _)), fun _ => ⟨HK1.out.ext (Ext.drew _), Mpi.ext HM1.out (Ext.drew _)⟩, fun h => (by cases h), fun h => (by cases h)⟩) ?_ ?_
    · refine ⟨?_, ?_, ?_, ?_, ?_, ?_, ?_, ?_, ?_, ?_, ?_, ?_, ?_, ?_, ?_, ?_, ?_, ?_, ?_, trivial⟩
      · refine bifF rfl (FreeStep.mk rfl fun vs W hk hd => ?_)
        clear hd
        obtain ⟨kk, hS⟩ := hk
        simp only [fillA, fillL, dstL, List.take_succ_cons, List.take_zero, List.filterMap_cons, List.filterMap_nil, List.contains_cons, List.contains_nil, Nat.reduceAdd, Nat.zero_add, Nat.reduceBEq, Bool.or_false, Bool.or_true, Bool.false_eq_true, ↓reduceIte]
        go_wp2_with fail
        exact ⟨by trivial, World.grownBy.refl _ _, rfl⟩
      · refine bifF rfl (FreeStep.mk rfl fun vs W hk hd => ?_)
        clear hd
        obtain ⟨kk, hS⟩ := hk
        simp only [fillA, fillL, dstL, List.take_succ_cons, List.take_zero, List.filterMap_cons, List.filterMap_nil, List.contains_cons, List.contains_nil, Nat.reduceAdd, Nat.zero_add, Nat.reduceBEq, Bool.or_false, Bool.or_true, Bool.false_eq_true, ↓reduceIte]
        go_wp2_with fail
        exact ⟨by trivial, World.grownBy.refl _ _, rfl⟩
      · refine bifF rfl (FreeStep.mk rfl fun vs W hk hd => ?_)
        have e116 : vs 116 = (.pointer (some ⟨q, 0, none⟩)) := hd 1 (by kernel_rfl)
        clear hd
        obtain ⟨kk, hS⟩ := hk
        simp only [fillA, fillL, dstL, List.take_succ_cons, List.take_zero, List.filterMap_cons, List.filterMap_nil, List.contains_cons, List.contains_nil, Nat.reduceAdd, Nat.zero_add, Nat.reduceBEq, Bool.or_false, Bool.or_true, Bool.false_eq_true, ↓reduceIte]
        rw [e116]
        go_wp2_with fail
        exact ⟨by trivial, World.grownBy.refl _ _, rfl⟩
      · refine bifF rfl (FreeStep.mk rfl fun vs W hk hd => ?_)
        have e117 : vs 117 = (.pointer (some ⟨q, 0, none⟩)) := hd 2 (by kernel_rfl)
        clear hd
        obtain ⟨kk, hS⟩ := hk
        simp only [fillA, fillL, dstL, List.take_succ_cons, List.take_zero, List.filterMap_cons, List.filterMap_nil, List.contains_cons, List.contains_nil, Nat.reduceAdd, Nat.zero_add, Nat.reduceBEq, Bool.or_false, Bool.or_true, Bool.false_eq_true, ↓reduceIte]
        rw [e117]
        go_wp2_with fail
        exact ⟨by trivial, World.grownBy.refl _ _, rfl⟩
      · refine bifF rfl (FreeStep.mk rfl fun vs W hk hd => ?_)
        have e118 : vs 118 = (.pointer (some ⟨q, 3, none⟩)) := hd 3 (by kernel_rfl)
        clear hd
        obtain ⟨kk, hS⟩ := hk
        simp only [fillA, fillL, dstL, List.take_succ_cons, List.take_zero, List.filterMap_cons, List.filterMap_nil, List.contains_cons, List.contains_nil, Nat.reduceAdd, Nat.zero_add, Nat.reduceBEq, Bool.or_false, Bool.or_true, Bool.false_eq_true, ↓reduceIte]
        rw [e118]
        have c3 := HC3.out W hS.1
        go_wp2_with fail
        exact ⟨by trivial, World.grownBy.refl _ _, rfl⟩
      · refine bifF rfl (FreeStep.mk rfl fun vs W hk hd => ?_)
        have e119 : vs 119 = kv := hd 4 (by kernel_rfl)
        clear hd
        obtain ⟨kk, hS⟩ := hk
        simp only [fillA, fillL, dstL, List.take_succ_cons, List.take_zero, List.filterMap_cons, List.filterMap_nil, List.contains_cons, List.contains_nil, Nat.reduceAdd, Nat.zero_add, Nat.reduceBEq, Bool.or_false, Bool.or_true, Bool.false_eq_true, ↓reduceIte]
        rw [e119]
        have ix : ∀ W, (Instr.indexAt 150 kv (.int .i64 0)).run Tryz.prog W = .ok (.pointer (some (elt kv 0 1))) W := HK0.out.1
        go_wp2_with fail
        exact ⟨by trivial, World.grownBy.refl _ _, rfl⟩
      · refine bifF rfl (FreeStep.mk rfl fun vs W hk hd => ?_)
        have e120 : vs 120 = (.pointer (some (elt kv 0 1))) := hd 5 (by kernel_rfl)
        clear hd
        obtain ⟨kk, hS⟩ := hk
        simp only [fillA, fillL, dstL, List.take_succ_cons, List.take_zero, List.filterMap_cons, List.filterMap_nil, List.contains_cons, List.contains_nil, Nat.reduceAdd, Nat.zero_add, Nat.reduceBEq, Bool.or_false, Bool.or_true, Bool.false_eq_true, ↓reduceIte]
        rw [e120]
        have d := HK0.out.2 W hS.1
        go_wp2_with fail
        exact ⟨by trivial, World.grownBy.refl _ _, rfl⟩
      · refine bifF rfl (FreeStep.mk rfl fun vs W hk hd => ?_)
        clear hd
        obtain ⟨kk, hS⟩ := hk
        simp only [fillA, fillL, dstL, List.take_succ_cons, List.take_zero, List.filterMap_cons, List.filterMap_nil, List.contains_cons, List.contains_nil, Nat.reduceAdd, Nat.zero_add, Nat.reduceBEq, Bool.or_false, Bool.or_true, Bool.false_eq_true, ↓reduceIte]
        go_wp2_with fail
        exact ⟨by trivial, World.grownBy.refl _ _, rfl⟩
      · refine bifT rfl (LinkStep.mk rfl fun vs W hS hd => ?_)
        have e115 : vs 115 = (.pointer (some ⟨wb, 0, none⟩)) := hd 0 (by kernel_rfl)
        have e121 : vs 121 = u0 := hd 6 (by kernel_rfl)
        have e122 : vs 122 = (.map (some mb)) := hd 7 (by kernel_rfl)
        clear hd
        simp only [fillA, fillL, dstL, List.take_succ_cons, List.take_zero, List.filterMap_cons, List.filterMap_nil, List.contains_cons, List.contains_nil, Nat.reduceAdd, Nat.zero_add, Nat.reduceBEq, Bool.or_false, Bool.or_true, Bool.false_eq_true, ↓reduceIte]
        rw [e115, e121, e122]
        have hSt := hS.2.2.1 rfl
        have hcall := HO0.out m l c mb W hln hS.1 hmb0 hmb hkn hin hSt.1 hSt.2 (by omega)
        rw [he0] at hcall
        go_wp2_with (go_at_call 69; refine hcall.mono ?_; clear hcall; rintro e w3 ⟨rfl, h1⟩)
        exact OrHalt.panic rfl (LkGot.halt (HR.out.trans (by rw [he0]; rfl)) rfl (hS.2.1.trans h1))
      · refine bifF rfl (FreeStep.mk rfl fun vs W hk hd => ?_)
        clear hd
        obtain ⟨kk, hS⟩ := hk
        simp only [fillA, fillL, dstL, List.take_succ_cons, List.take_zero, List.filterMap_cons, List.filterMap_nil, List.contains_cons, List.contains_nil, Nat.reduceAdd, Nat.zero_add, Nat.reduceBEq, Bool.or_false, Bool.or_true, Bool.false_eq_true, ↓reduceIte]
        go_wp2_with fail
        exact ⟨by trivial, World.grownBy.refl _ _, rfl⟩
      · refine bifF rfl (FreeStep.mk rfl fun vs W hk hd => ?_)
        clear hd
        obtain ⟨kk, hS⟩ := hk
        simp only [fillA, fillL, dstL, List.take_succ_cons, List.take_zero, List.filterMap_cons, List.filterMap_nil, List.contains_cons, List.contains_nil, Nat.reduceAdd, Nat.zero_add, Nat.reduceBEq, Bool.or_false, Bool.or_true, Bool.false_eq_true, ↓reduceIte]
        go_wp2_with fail
        exact ⟨by trivial, World.grownBy.refl _ _, rfl⟩
      · refine bifF rfl (FreeStep.mk rfl fun vs W hk hd => ?_)
        have e125 : vs 125 = (.pointer (some ⟨q, 0, none⟩)) := hd 10 (by kernel_rfl)
        clear hd
        obtain ⟨kk, hS⟩ := hk
        simp only [fillA, fillL, dstL, List.take_succ_cons, List.take_zero, List.filterMap_cons, List.filterMap_nil, List.contains_cons, List.contains_nil, Nat.reduceAdd, Nat.zero_add, Nat.reduceBEq, Bool.or_false, Bool.or_true, Bool.false_eq_true, ↓reduceIte]
        rw [e125]
        go_wp2_with fail
        exact ⟨by trivial, World.grownBy.refl _ _, rfl⟩
      · refine bifF rfl (FreeStep.mk rfl fun vs W hk hd => ?_)
        have e126 : vs 126 = (.pointer (some ⟨q, 0, none⟩)) := hd 11 (by kernel_rfl)
        clear hd
        obtain ⟨kk, hS⟩ := hk
        simp only [fillA, fillL, dstL, List.take_succ_cons, List.take_zero, List.filterMap_cons, List.filterMap_nil, List.contains_cons, List.contains_nil, Nat.reduceAdd, Nat.zero_add, Nat.reduceBEq, Bool.or_false, Bool.or_true, Bool.false_eq_true, ↓reduceIte]
        rw [e126]
        go_wp2_with fail
        exact ⟨by trivial, World.grownBy.refl _ _, rfl⟩
      · refine bifF rfl (FreeStep.mk rfl fun vs W hk hd => ?_)
        have e127 : vs 127 = (.pointer (some ⟨q, 3, none⟩)) := hd 12 (by kernel_rfl)
        clear hd
        obtain ⟨kk, hS⟩ := hk
        simp only [fillA, fillL, dstL, List.take_succ_cons, List.take_zero, List.filterMap_cons, List.filterMap_nil, List.contains_cons, List.contains_nil, Nat.reduceAdd, Nat.zero_add, Nat.reduceBEq, Bool.or_false, Bool.or_true, Bool.false_eq_true, ↓reduceIte]
        rw [e127]
        have c3 := HC3.out W hS.1
        go_wp2_with fail
        exact ⟨by trivial, World.grownBy.refl _ _, rfl⟩
      · refine bifF rfl (FreeStep.mk rfl fun vs W hk hd => ?_)
        have e128 : vs 128 = kv := hd 13 (by kernel_rfl)
        clear hd
        obtain ⟨kk, hS⟩ := hk
        simp only [fillA, fillL, dstL, List.take_succ_cons, List.take_zero, List.filterMap_cons, List.filterMap_nil, List.contains_cons, List.contains_nil, Nat.reduceAdd, Nat.zero_add, Nat.reduceBEq, Bool.or_false, Bool.or_true, Bool.false_eq_true, ↓reduceIte]
        rw [e128]
        have ix : ∀ W, (Instr.indexAt 150 kv (.int .i64 1)).run Tryz.prog W = .ok (.pointer (some (elt kv 1 1))) W := HK1x.out.1
        go_wp2_with fail
        exact ⟨by trivial, World.grownBy.refl _ _, rfl⟩
      · refine bifF rfl (FreeStep.mk rfl fun vs W hk hd => ?_)
        have e129 : vs 129 = (.pointer (some (elt kv 1 1))) := hd 14 (by kernel_rfl)
        clear hd
        obtain ⟨kk, hS⟩ := hk
        simp only [fillA, fillL, dstL, List.take_succ_cons, List.take_zero, List.filterMap_cons, List.filterMap_nil, List.contains_cons, List.contains_nil, Nat.reduceAdd, Nat.zero_add, Nat.reduceBEq, Bool.or_false, Bool.or_true, Bool.false_eq_true, ↓reduceIte]
        rw [e129]
        have d := HK1x.out.2 W hS.1
        go_wp2_with fail
        exact ⟨by trivial, World.grownBy.refl _ _, rfl⟩
      · refine bifF rfl (FreeStep.mk rfl fun vs W hk hd => ?_)
        clear hd
        obtain ⟨kk, hS⟩ := hk
        simp only [fillA, fillL, dstL, List.take_succ_cons, List.take_zero, List.filterMap_cons, List.filterMap_nil, List.contains_cons, List.contains_nil, Nat.reduceAdd, Nat.zero_add, Nat.reduceBEq, Bool.or_false, Bool.or_true, Bool.false_eq_true, ↓reduceIte]
        go_wp2_with fail
        exact ⟨by trivial, World.grownBy.refl _ _, rfl⟩
      · refine bifT rfl (LinkStep.mk rfl fun vs W hS hd => ?_)
        have e124 : vs 124 = (.pointer (some ⟨wb, 0, none⟩)) := hd 9 (by kernel_rfl)
        have e130 : vs 130 = u1 := hd 15 (by kernel_rfl)
        have e131 : vs 131 = (.map (some mb)) := hd 16 (by kernel_rfl)
        clear hd
        simp only [fillA, fillL, dstL, List.take_succ_cons, List.take_zero, List.filterMap_cons, List.filterMap_nil, List.contains_cons, List.contains_nil, Nat.reduceAdd, Nat.zero_add, Nat.reduceBEq, Bool.or_false, Bool.or_true, Bool.false_eq_true, ↓reduceIte]
        rw [e124, e130, e131]
        exact (hS.2.2.2.1 rfl).elim
      · refine bifF rfl (FreeStep.mk rfl fun vs W hk hd => ?_)
        have e123 : vs 123 = (.int .i64 0) := hd 8 (by kernel_rfl)
        have e132 : vs 132 = (.int .i64 0) := hd 17 (by kernel_rfl)
        clear hd
        obtain ⟨kk, hS⟩ := hk
        simp only [fillA, fillL, dstL, List.take_succ_cons, List.take_zero, List.filterMap_cons, List.filterMap_nil, List.contains_cons, List.contains_nil, Nat.reduceAdd, Nat.zero_add, Nat.reduceBEq, Bool.or_false, Bool.or_true, Bool.false_eq_true, ↓reduceIte]
        rw [e123, e132]
        go_wp2_with fail
        exact ⟨by trivial, World.grownBy.refl _ _, rfl⟩
    · intro vs W hall hS
      exact (hS.2.2.2.2 rfl).elim
  | ok a l1 =>
    cases he1 : e1 m l1 with
    | stop k =>
      refine wp_region_eqs 19 rfl [some (.pointer (some ⟨wb, 0, none⟩)), some (.pointer (some ⟨q, 0, none⟩)), some (.pointer (some ⟨q, 0, none⟩)), some (.pointer (some ⟨q, 3, none⟩)), some kv, some (.pointer (some (elt kv 0 1))), some u0, some (.map (some mb)), some (.int .i64 a), some (.pointer (some ⟨wb, 0, none⟩)), some (.pointer (some ⟨q, 0, none⟩)), some (.pointer (some ⟨q, 0, none⟩)), some (.pointer (some ⟨q, 3, none⟩)), some kv, some (.pointer (some (elt kv 1 1))), some u1, some (.map (some mb)), some (.int .i64 0), some (.bool ( a !=  0))] [8, 17] (fun k W => Ext w0 W ∧ But2 wb mb w W ∧ (k = 0 → WkAt W wb bf pb fuel l ∧ MpS W mb c m) ∧ (k = 1 → WkAt W wb bf pb fuel l1 ∧ (∃ c1, c1 + l1 ≤ c + l ∧ MpS W mb c1 m) ∧ l1 ≤ l ∧ 0 ≤ a ∧ a < p) ∧ (k = 2 → False)) (by kernel_rfl) (by kernel_rfl) (by kernel_rfl) (by kernel_rfl) (fun k W W' h hg => by have hX := ext_gn hg; exact ⟨h.1.trans hX, h.2.1.trans (But2.of_ext hX), fun e => ⟨(h.2.2.1 e).1.ext hX, Mpi.ext (h.2.2.1 e).2 hX⟩, fun e => ⟨(h.2.2.2.1 e).1.ext hX, (h.2.2.2.1 e).2.1.imp fun c1 h1 => ⟨h1.1, Mpi.ext h1.2 hX⟩, (h.2.2.2.1 e).2.2⟩, h.2.2.2.2⟩) (⟨HX1.out.trans (Ext.drew _), HB1.out.trans (But2.of_ext (Ext.drew _)), fun _ => ⟨HK1.out.ext (Ext.drew _), Mpi.ext HM1.out (Ext.drew _)⟩, fun h => (by cases h), fun h => (by cases h)⟩) ?_ ?_
      · refine ⟨?_, ?_, ?_, ?_, ?_, ?_, ?_, ?_, ?_, ?_, ?_, ?_, ?_, ?_, ?_, ?_, ?_, ?_, ?_, trivial⟩
        · refine bifF rfl (FreeStep.mk rfl fun vs W hk hd => ?_)
          clear hd
          obtain ⟨kk, hS⟩ := hk
          simp only [fillA, fillL, dstL, List.take_succ_cons, List.take_zero, List.filterMap_cons, List.filterMap_nil, List.contains_cons, List.contains_nil, Nat.reduceAdd, Nat.zero_add, Nat.reduceBEq, Bool.or_false, Bool.or_true, Bool.false_eq_true, ↓reduceIte]
          go_wp2_with fail
          exact ⟨by trivial, World.grownBy.refl _ _, rfl⟩
        · refine bifF rfl (FreeStep.mk rfl fun vs W hk hd => ?_)
          clear hd
          obtain ⟨kk, hS⟩ := hk
          simp only [fillA, fillL, dstL, List.take_succ_cons, List.take_zero, List.filterMap_cons, List.filterMap_nil, List.contains_cons, List.contains_nil, Nat.reduceAdd, Nat.zero_add, Nat.reduceBEq, Bool.or_false, Bool.or_true, Bool.false_eq_true, ↓reduceIte]
          go_wp2_with fail
          exact ⟨by trivial, World.grownBy.refl _ _, rfl⟩
        · refine bifF rfl (FreeStep.mk rfl fun vs W hk hd => ?_)
          have e116 : vs 116 = (.pointer (some ⟨q, 0, none⟩)) := hd 1 (by kernel_rfl)
          clear hd
          obtain ⟨kk, hS⟩ := hk
          simp only [fillA, fillL, dstL, List.take_succ_cons, List.take_zero, List.filterMap_cons, List.filterMap_nil, List.contains_cons, List.contains_nil, Nat.reduceAdd, Nat.zero_add, Nat.reduceBEq, Bool.or_false, Bool.or_true, Bool.false_eq_true, ↓reduceIte]
          rw [e116]
          go_wp2_with fail
          exact ⟨by trivial, World.grownBy.refl _ _, rfl⟩
        · refine bifF rfl (FreeStep.mk rfl fun vs W hk hd => ?_)
          have e117 : vs 117 = (.pointer (some ⟨q, 0, none⟩)) := hd 2 (by kernel_rfl)
          clear hd
          obtain ⟨kk, hS⟩ := hk
          simp only [fillA, fillL, dstL, List.take_succ_cons, List.take_zero, List.filterMap_cons, List.filterMap_nil, List.contains_cons, List.contains_nil, Nat.reduceAdd, Nat.zero_add, Nat.reduceBEq, Bool.or_false, Bool.or_true, Bool.false_eq_true, ↓reduceIte]
          rw [e117]
          go_wp2_with fail
          exact ⟨by trivial, World.grownBy.refl _ _, rfl⟩
        · refine bifF rfl (FreeStep.mk rfl fun vs W hk hd => ?_)
          have e118 : vs 118 = (.pointer (some ⟨q, 3, none⟩)) := hd 3 (by kernel_rfl)
          clear hd
          obtain ⟨kk, hS⟩ := hk
          simp only [fillA, fillL, dstL, List.take_succ_cons, List.take_zero, List.filterMap_cons, List.filterMap_nil, List.contains_cons, List.contains_nil, Nat.reduceAdd, Nat.zero_add, Nat.reduceBEq, Bool.or_false, Bool.or_true, Bool.false_eq_true, ↓reduceIte]
          rw [e118]
          have c3 := HC3.out W hS.1
          go_wp2_with fail
          exact ⟨by trivial, World.grownBy.refl _ _, rfl⟩
        · refine bifF rfl (FreeStep.mk rfl fun vs W hk hd => ?_)
          have e119 : vs 119 = kv := hd 4 (by kernel_rfl)
          clear hd
          obtain ⟨kk, hS⟩ := hk
          simp only [fillA, fillL, dstL, List.take_succ_cons, List.take_zero, List.filterMap_cons, List.filterMap_nil, List.contains_cons, List.contains_nil, Nat.reduceAdd, Nat.zero_add, Nat.reduceBEq, Bool.or_false, Bool.or_true, Bool.false_eq_true, ↓reduceIte]
          rw [e119]
          have ix : ∀ W, (Instr.indexAt 150 kv (.int .i64 0)).run Tryz.prog W = .ok (.pointer (some (elt kv 0 1))) W := HK0.out.1
          go_wp2_with fail
          exact ⟨by trivial, World.grownBy.refl _ _, rfl⟩
        · refine bifF rfl (FreeStep.mk rfl fun vs W hk hd => ?_)
          have e120 : vs 120 = (.pointer (some (elt kv 0 1))) := hd 5 (by kernel_rfl)
          clear hd
          obtain ⟨kk, hS⟩ := hk
          simp only [fillA, fillL, dstL, List.take_succ_cons, List.take_zero, List.filterMap_cons, List.filterMap_nil, List.contains_cons, List.contains_nil, Nat.reduceAdd, Nat.zero_add, Nat.reduceBEq, Bool.or_false, Bool.or_true, Bool.false_eq_true, ↓reduceIte]
          rw [e120]
          have d := HK0.out.2 W hS.1
          go_wp2_with fail
          exact ⟨by trivial, World.grownBy.refl _ _, rfl⟩
        · refine bifF rfl (FreeStep.mk rfl fun vs W hk hd => ?_)
          clear hd
          obtain ⟨kk, hS⟩ := hk
          simp only [fillA, fillL, dstL, List.take_succ_cons, List.take_zero, List.filterMap_cons, List.filterMap_nil, List.contains_cons, List.contains_nil, Nat.reduceAdd, Nat.zero_add, Nat.reduceBEq, Bool.or_false, Bool.or_true, Bool.false_eq_true, ↓reduceIte]
          go_wp2_with fail
          exact ⟨by trivial, World.grownBy.refl _ _, rfl⟩
        · refine bifT rfl (LinkStep.mk rfl fun vs W hS hd => ?_)
          have e115 : vs 115 = (.pointer (some ⟨wb, 0, none⟩)) := hd 0 (by kernel_rfl)
          have e121 : vs 121 = u0 := hd 6 (by kernel_rfl)
          have e122 : vs 122 = (.map (some mb)) := hd 7 (by kernel_rfl)
          clear hd
          simp only [fillA, fillL, dstL, List.take_succ_cons, List.take_zero, List.filterMap_cons, List.filterMap_nil, List.contains_cons, List.contains_nil, Nat.reduceAdd, Nat.zero_add, Nat.reduceBEq, Bool.or_false, Bool.or_true, Bool.false_eq_true, ↓reduceIte]
          rw [e115, e121, e122]
          have hSt := hS.2.2.1 rfl
          have hcall := HO0.out m l c mb W hln hS.1 hmb0 hmb hkn hin hSt.1 hSt.2 (by omega)
          rw [he0] at hcall
          go_wp2_with (go_at_call 69; refine hcall.mono ?_; clear hcall; rintro e w3 ⟨rfl, h1, h2, h3, h5, h6, h7⟩)
          exact ⟨by trivial, trivial, ⟨h1.ext hS.1 hwb hmb0, hS.2.1.trans h1, fun h => (by cases h), fun _ => ⟨h2, h3, h5, h6, h7⟩, fun h => (by cases h)⟩, rfl⟩
        · refine bifF rfl (FreeStep.mk rfl fun vs W hk hd => ?_)
          clear hd
          obtain ⟨kk, hS⟩ := hk
          simp only [fillA, fillL, dstL, List.take_succ_cons, List.take_zero, List.filterMap_cons, List.filterMap_nil, List.contains_cons, List.contains_nil, Nat.reduceAdd, Nat.zero_add, Nat.reduceBEq, Bool.or_false, Bool.or_true, Bool.false_eq_true, ↓reduceIte]
          go_wp2_with fail
          exact ⟨by trivial, World.grownBy.refl _ _, rfl⟩
        · refine bifF rfl (FreeStep.mk rfl fun vs W hk hd => ?_)
          clear hd
          obtain ⟨kk, hS⟩ := hk
          simp only [fillA, fillL, dstL, List.take_succ_cons, List.take_zero, List.filterMap_cons, List.filterMap_nil, List.contains_cons, List.contains_nil, Nat.reduceAdd, Nat.zero_add, Nat.reduceBEq, Bool.or_false, Bool.or_true, Bool.false_eq_true, ↓reduceIte]
          go_wp2_with fail
          exact ⟨by trivial, World.grownBy.refl _ _, rfl⟩
        · refine bifF rfl (FreeStep.mk rfl fun vs W hk hd => ?_)
          have e125 : vs 125 = (.pointer (some ⟨q, 0, none⟩)) := hd 10 (by kernel_rfl)
          clear hd
          obtain ⟨kk, hS⟩ := hk
          simp only [fillA, fillL, dstL, List.take_succ_cons, List.take_zero, List.filterMap_cons, List.filterMap_nil, List.contains_cons, List.contains_nil, Nat.reduceAdd, Nat.zero_add, Nat.reduceBEq, Bool.or_false, Bool.or_true, Bool.false_eq_true, ↓reduceIte]
          rw [e125]
          go_wp2_with fail
          exact ⟨by trivial, World.grownBy.refl _ _, rfl⟩
        · refine bifF rfl (FreeStep.mk rfl fun vs W hk hd => ?_)
          have e126 : vs 126 = (.pointer (some ⟨q, 0, none⟩)) := hd 11 (by kernel_rfl)
          clear hd
          obtain ⟨kk, hS⟩ := hk
          simp only [fillA, fillL, dstL, List.take_succ_cons, List.take_zero, List.filterMap_cons, List.filterMap_nil, List.contains_cons, List.contains_nil, Nat.reduceAdd, Nat.zero_add, Nat.reduceBEq, Bool.or_false, Bool.or_true, Bool.false_eq_true, ↓reduceIte]
          rw [e126]
          go_wp2_with fail
          exact ⟨by trivial, World.grownBy.refl _ _, rfl⟩
        · refine bifF rfl (FreeStep.mk rfl fun vs W hk hd => ?_)
          have e127 : vs 127 = (.pointer (some ⟨q, 3, none⟩)) := hd 12 (by kernel_rfl)
          clear hd
          obtain ⟨kk, hS⟩ := hk
          simp only [fillA, fillL, dstL, List.take_succ_cons, List.take_zero, List.filterMap_cons, List.filterMap_nil, List.contains_cons, List.contains_nil, Nat.reduceAdd, Nat.zero_add, Nat.reduceBEq, Bool.or_false, Bool.or_true, Bool.false_eq_true, ↓reduceIte]
          rw [e127]
          have c3 := HC3.out W hS.1
          go_wp2_with fail
          exact ⟨by trivial, World.grownBy.refl _ _, rfl⟩
        · refine bifF rfl (FreeStep.mk rfl fun vs W hk hd => ?_)
          have e128 : vs 128 = kv := hd 13 (by kernel_rfl)
          clear hd
          obtain ⟨kk, hS⟩ := hk
          simp only [fillA, fillL, dstL, List.take_succ_cons, List.take_zero, List.filterMap_cons, List.filterMap_nil, List.contains_cons, List.contains_nil, Nat.reduceAdd, Nat.zero_add, Nat.reduceBEq, Bool.or_false, Bool.or_true, Bool.false_eq_true, ↓reduceIte]
          rw [e128]
          have ix : ∀ W, (Instr.indexAt 150 kv (.int .i64 1)).run Tryz.prog W = .ok (.pointer (some (elt kv 1 1))) W := HK1x.out.1
          go_wp2_with fail
          exact ⟨by trivial, World.grownBy.refl _ _, rfl⟩
        · refine bifF rfl (FreeStep.mk rfl fun vs W hk hd => ?_)
          have e129 : vs 129 = (.pointer (some (elt kv 1 1))) := hd 14 (by kernel_rfl)
          clear hd
          obtain ⟨kk, hS⟩ := hk
          simp only [fillA, fillL, dstL, List.take_succ_cons, List.take_zero, List.filterMap_cons, List.filterMap_nil, List.contains_cons, List.contains_nil, Nat.reduceAdd, Nat.zero_add, Nat.reduceBEq, Bool.or_false, Bool.or_true, Bool.false_eq_true, ↓reduceIte]
          rw [e129]
          have d := HK1x.out.2 W hS.1
          go_wp2_with fail
          exact ⟨by trivial, World.grownBy.refl _ _, rfl⟩
        · refine bifF rfl (FreeStep.mk rfl fun vs W hk hd => ?_)
          clear hd
          obtain ⟨kk, hS⟩ := hk
          simp only [fillA, fillL, dstL, List.take_succ_cons, List.take_zero, List.filterMap_cons, List.filterMap_nil, List.contains_cons, List.contains_nil, Nat.reduceAdd, Nat.zero_add, Nat.reduceBEq, Bool.or_false, Bool.or_true, Bool.false_eq_true, ↓reduceIte]
          go_wp2_with fail
          exact ⟨by trivial, World.grownBy.refl _ _, rfl⟩
        · refine bifT rfl (LinkStep.mk rfl fun vs W hS hd => ?_)
          have e124 : vs 124 = (.pointer (some ⟨wb, 0, none⟩)) := hd 9 (by kernel_rfl)
          have e130 : vs 130 = u1 := hd 15 (by kernel_rfl)
          have e131 : vs 131 = (.map (some mb)) := hd 16 (by kernel_rfl)
          clear hd
          simp only [fillA, fillL, dstL, List.take_succ_cons, List.take_zero, List.filterMap_cons, List.filterMap_nil, List.contains_cons, List.contains_nil, Nat.reduceAdd, Nat.zero_add, Nat.reduceBEq, Bool.or_false, Bool.or_true, Bool.false_eq_true, ↓reduceIte]
          rw [e124, e130, e131]
          obtain ⟨g1, ⟨c1, g2, g3⟩, g4, g5, g6⟩ := hS.2.2.2.1 rfl
          have hcall := HO1.out m l1 c1 mb W (by omega) hS.1 hmb0 hmb hkn hin g1 g3 (by omega)
          rw [he1] at hcall
          go_wp2_with (go_at_call 69; refine hcall.mono ?_; clear hcall; rintro e w3 ⟨rfl, h1⟩)
          exact OrHalt.panic rfl (LkGot.halt (HR.out.trans (by rw [he0]; show (e1 m l1).bind _ = _; rw [he1]; rfl)) rfl (hS.2.1.trans h1))
        · refine bifF rfl (FreeStep.mk rfl fun vs W hk hd => ?_)
          have e123 : vs 123 = (.int .i64 a) := hd 8 (by kernel_rfl)
          have e132 : vs 132 = (.int .i64 0) := hd 17 (by kernel_rfl)
          clear hd
          obtain ⟨kk, hS⟩ := hk
          simp only [fillA, fillL, dstL, List.take_succ_cons, List.take_zero, List.filterMap_cons, List.filterMap_nil, List.contains_cons, List.contains_nil, Nat.reduceAdd, Nat.zero_add, Nat.reduceBEq, Bool.or_false, Bool.or_true, Bool.false_eq_true, ↓reduceIte]
          rw [e123, e132]
          go_wp2_with fail
          exact ⟨by trivial, World.grownBy.refl _ _, rfl⟩
      · intro vs W hall hS
        exact (hS.2.2.2.2 rfl).elim
    | ok b l2 =>
      refine wp_region_eqs 19 rfl [some (.pointer (some ⟨wb, 0, none⟩)), some (.pointer (some ⟨q, 0, none⟩)), some (.pointer (some ⟨q, 0, none⟩)), some (.pointer (some ⟨q, 3, none⟩)), some kv, some (.pointer (some (elt kv 0 1))), some u0, some (.map (some mb)), some (.int .i64 a), some (.pointer (some ⟨wb, 0, none⟩)), some (.pointer (some ⟨q, 0, none⟩)), some (.pointer (some ⟨q, 0, none⟩)), some (.pointer (some ⟨q, 3, none⟩)), some kv, some (.pointer (some (elt kv 1 1))), some u1, some (.map (some mb)), some (.int .i64 b), some (.bool ( a !=  b))] [8, 17] (fun k W => Ext w0 W ∧ But2 wb mb w W ∧ (k = 0 → WkAt W wb bf pb fuel l ∧ MpS W mb c m) ∧ (k = 1 → WkAt W wb bf pb fuel l1 ∧ (∃ c1, c1 + l1 ≤ c + l ∧ MpS W mb c1 m) ∧ l1 ≤ l ∧ 0 ≤ a ∧ a < p) ∧ (k = 2 → WkAt W wb bf pb fuel l2 ∧ (∃ c2, c2 + l2 ≤ c + l ∧ MpS W mb c2 m) ∧ l2 ≤ l)) (by kernel_rfl) (by kernel_rfl) (by kernel_rfl) (by kernel_rfl) (fun k W W' h hg => by have hX := ext_gn hg; exact ⟨h.1.trans hX, h.2.1.trans (But2.of_ext hX), fun e => ⟨(h.2.2.1 e).1.ext hX, Mpi.ext (h.2.2.1 e).2 hX⟩, fun e => ⟨(h.2.2.2.1 e).1.ext hX, (h.2.2.2.1 e).2.1.imp fun c1 h1 => ⟨h1.1, Mpi.ext h1.2 hX⟩, (h.2.2.2.1 e).2.2⟩, fun e => ⟨(h.2.2.2.2 e).1.ext hX, (h.2.2.2.2 e).2.1.imp fun c1 h1 => ⟨h1.1, Mpi.ext h1.2 hX⟩, (h.2.2.2.2 e).2.2⟩⟩) (⟨HX1.out.trans (Ext.drew _), HB1.out.trans (But2.of_ext (Ext.drew _)), fun _ => ⟨HK1.out.ext (Ext.drew _), Mpi.ext HM1.out (Ext.drew _)⟩, fun h => (by cases h), fun h => (by cases h)⟩) ?_ ?_
      · refine ⟨?_, ?_, ?_, ?_, ?_, ?_, ?_, ?_, ?_, ?_, ?_, ?_, ?_, ?_, ?_, ?_, ?_, ?_, ?_, trivial⟩
        · refine bifF rfl (FreeStep.mk rfl fun vs W hk hd => ?_)
          clear hd
          obtain ⟨kk, hS⟩ := hk
          simp only [fillA, fillL, dstL, List.take_succ_cons, List.take_zero, List.filterMap_cons, List.filterMap_nil, List.contains_cons, List.contains_nil, Nat.reduceAdd, Nat.zero_add, Nat.reduceBEq, Bool.or_false, Bool.or_true, Bool.false_eq_true, ↓reduceIte]
          go_wp2_with fail
          exact ⟨by trivial, World.grownBy.refl _ _, rfl⟩
        · refine bifF rfl (FreeStep.mk rfl fun vs W hk hd => ?_)
          clear hd
          obtain ⟨kk, hS⟩ := hk
          simp only [fillA, fillL, dstL, List.take_succ_cons, List.take_zero, List.filterMap_cons, List.filterMap_nil, List.contains_cons, List.contains_nil, Nat.reduceAdd, Nat.zero_add, Nat.reduceBEq, Bool.or_false, Bool.or_true, Bool.false_eq_true, ↓reduceIte]
          go_wp2_with fail
          exact ⟨by trivial, World.grownBy.refl _ _, rfl⟩
        · refine bifF rfl (FreeStep.mk rfl fun vs W hk hd => ?_)
          have e116 : vs 116 = (.pointer (some ⟨q, 0, none⟩)) := hd 1 (by kernel_rfl)
          clear hd
          obtain ⟨kk, hS⟩ := hk
          simp only [fillA, fillL, dstL, List.take_succ_cons, List.take_zero, List.filterMap_cons, List.filterMap_nil, List.contains_cons, List.contains_nil, Nat.reduceAdd, Nat.zero_add, Nat.reduceBEq, Bool.or_false, Bool.or_true, Bool.false_eq_true, ↓reduceIte]
          rw [e116]
          go_wp2_with fail
          exact ⟨by trivial, World.grownBy.refl _ _, rfl⟩
        · refine bifF rfl (FreeStep.mk rfl fun vs W hk hd => ?_)
          have e117 : vs 117 = (.pointer (some ⟨q, 0, none⟩)) := hd 2 (by kernel_rfl)
          clear hd
          obtain ⟨kk, hS⟩ := hk
          simp only [fillA, fillL, dstL, List.take_succ_cons, List.take_zero, List.filterMap_cons, List.filterMap_nil, List.contains_cons, List.contains_nil, Nat.reduceAdd, Nat.zero_add, Nat.reduceBEq, Bool.or_false, Bool.or_true, Bool.false_eq_true, ↓reduceIte]
          rw [e117]
          go_wp2_with fail
          exact ⟨by trivial, World.grownBy.refl _ _, rfl⟩
        · refine bifF rfl (FreeStep.mk rfl fun vs W hk hd => ?_)
          have e118 : vs 118 = (.pointer (some ⟨q, 3, none⟩)) := hd 3 (by kernel_rfl)
          clear hd
          obtain ⟨kk, hS⟩ := hk
          simp only [fillA, fillL, dstL, List.take_succ_cons, List.take_zero, List.filterMap_cons, List.filterMap_nil, List.contains_cons, List.contains_nil, Nat.reduceAdd, Nat.zero_add, Nat.reduceBEq, Bool.or_false, Bool.or_true, Bool.false_eq_true, ↓reduceIte]
          rw [e118]
          have c3 := HC3.out W hS.1
          go_wp2_with fail
          exact ⟨by trivial, World.grownBy.refl _ _, rfl⟩
        · refine bifF rfl (FreeStep.mk rfl fun vs W hk hd => ?_)
          have e119 : vs 119 = kv := hd 4 (by kernel_rfl)
          clear hd
          obtain ⟨kk, hS⟩ := hk
          simp only [fillA, fillL, dstL, List.take_succ_cons, List.take_zero, List.filterMap_cons, List.filterMap_nil, List.contains_cons, List.contains_nil, Nat.reduceAdd, Nat.zero_add, Nat.reduceBEq, Bool.or_false, Bool.or_true, Bool.false_eq_true, ↓reduceIte]
          rw [e119]
          have ix : ∀ W, (Instr.indexAt 150 kv (.int .i64 0)).run Tryz.prog W = .ok (.pointer (some (elt kv 0 1))) W := HK0.out.1
          go_wp2_with fail
          exact ⟨by trivial, World.grownBy.refl _ _, rfl⟩
        · refine bifF rfl (FreeStep.mk rfl fun vs W hk hd => ?_)
          have e120 : vs 120 = (.pointer (some (elt kv 0 1))) := hd 5 (by kernel_rfl)
          clear hd
          obtain ⟨kk, hS⟩ := hk
          simp only [fillA, fillL, dstL, List.take_succ_cons, List.take_zero, List.filterMap_cons, List.filterMap_nil, List.contains_cons, List.contains_nil, Nat.reduceAdd, Nat.zero_add, Nat.reduceBEq, Bool.or_false, Bool.or_true, Bool.false_eq_true, ↓reduceIte]
          rw [e120]
          have d := HK0.out.2 W hS.1
          go_wp2_with fail
          exact ⟨by trivial, World.grownBy.refl _ _, rfl⟩
        · refine bifF rfl (FreeStep.mk rfl fun vs W hk hd => ?_)
          clear hd
          obtain ⟨kk, hS⟩ := hk
          simp only [fillA, fillL, dstL, List.take_succ_cons, List.take_zero, List.filterMap_cons, List.filterMap_nil, List.contains_cons, List.contains_nil, Nat.reduceAdd, Nat.zero_add, Nat.reduceBEq, Bool.or_false, Bool.or_true, Bool.false_eq_true, ↓reduceIte]
          go_wp2_with fail
          exact ⟨by trivial, World.grownBy.refl _ _, rfl⟩
        · refine bifT rfl (LinkStep.mk rfl fun vs W hS hd => ?_)
          have e115 : vs 115 = (.pointer (some ⟨wb, 0, none⟩)) := hd 0 (by kernel_rfl)
          have e121 : vs 121 = u0 := hd 6 (by kernel_rfl)
          have e122 : vs 122 = (.map (some mb)) := hd 7 (by kernel_rfl)
          clear hd
          simp only [fillA, fillL, dstL, List.take_succ_cons, List.take_zero, List.filterMap_cons, List.filterMap_nil, List.contains_cons, List.contains_nil, Nat.reduceAdd, Nat.zero_add, Nat.reduceBEq, Bool.or_false, Bool.or_true, Bool.false_eq_true, ↓reduceIte]
          rw [e115, e121, e122]
          have hSt := hS.2.2.1 rfl
          have hcall := HO0.out m l c mb W hln hS.1 hmb0 hmb hkn hin hSt.1 hSt.2 (by omega)
          rw [he0] at hcall
          go_wp2_with (go_at_call 69; refine hcall.mono ?_; clear hcall; rintro e w3 ⟨rfl, h1, h2, h3, h5, h6, h7⟩)
          exact ⟨by trivial, trivial, ⟨h1.ext hS.1 hwb hmb0, hS.2.1.trans h1, fun h => (by cases h), fun _ => ⟨h2, h3, h5, h6, h7⟩, fun h => (by cases h)⟩, rfl⟩
        · refine bifF rfl (FreeStep.mk rfl fun vs W hk hd => ?_)
          clear hd
          obtain ⟨kk, hS⟩ := hk
          simp only [fillA, fillL, dstL, List.take_succ_cons, List.take_zero, List.filterMap_cons, List.filterMap_nil, List.contains_cons, List.contains_nil, Nat.reduceAdd, Nat.zero_add, Nat.reduceBEq, Bool.or_false, Bool.or_true, Bool.false_eq_true, ↓reduceIte]
          go_wp2_with fail
          exact ⟨by trivial, World.grownBy.refl _ _, rfl⟩
        · refine bifF rfl (FreeStep.mk rfl fun vs W hk hd => ?_)
          clear hd
          obtain ⟨kk, hS⟩ := hk
          simp only [fillA, fillL, dstL, List.take_succ_cons, List.take_zero, List.filterMap_cons, List.filterMap_nil, List.contains_cons, List.contains_nil, Nat.reduceAdd, Nat.zero_add, Nat.reduceBEq, Bool.or_false, Bool.or_true, Bool.false_eq_true, ↓reduceIte]
          go_wp2_with fail
          exact ⟨by trivial, World.grownBy.refl _ _, rfl⟩
        · refine bifF rfl (FreeStep.mk rfl fun vs W hk hd => ?_)
          have e125 : vs 125 = (.pointer (some ⟨q, 0, none⟩)) := hd 10 (by kernel_rfl)
          clear hd
          obtain ⟨kk, hS⟩ := hk
          simp only [fillA, fillL, dstL, List.take_succ_cons, List.take_zero, List.filterMap_cons, List.filterMap_nil, List.contains_cons, List.contains_nil, Nat.reduceAdd, Nat.zero_add, Nat.reduceBEq, Bool.or_false, Bool.or_true, Bool.false_eq_true, ↓reduceIte]
          rw [e125]
          go_wp2_with fail
          exact ⟨by trivial, World.grownBy.refl _ _, rfl⟩
        · refine bifF rfl (FreeStep.mk rfl fun vs W hk hd => ?_)
          have e126 : vs 126 = (.pointer (some ⟨q, 0, none⟩)) := hd 11 (by kernel_rfl)
          clear hd
          obtain ⟨kk, hS⟩ := hk
          simp only [fillA, fillL, dstL, List.take_succ_cons, List.take_zero, List.filterMap_cons, List.filterMap_nil, List.contains_cons, List.contains_nil, Nat.reduceAdd, Nat.zero_add, Nat.reduceBEq, Bool.or_false, Bool.or_true, Bool.false_eq_true, ↓reduceIte]
          rw [e126]
          go_wp2_with fail
          exact ⟨by trivial, World.grownBy.refl _ _, rfl⟩
        · refine bifF rfl (FreeStep.mk rfl fun vs W hk hd => ?_)
          have e127 : vs 127 = (.pointer (some ⟨q, 3, none⟩)) := hd 12 (by kernel_rfl)
          clear hd
          obtain ⟨kk, hS⟩ := hk
          simp only [fillA, fillL, dstL, List.take_succ_cons, List.take_zero, List.filterMap_cons, List.filterMap_nil, List.contains_cons, List.contains_nil, Nat.reduceAdd, Nat.zero_add, Nat.reduceBEq, Bool.or_false, Bool.or_true, Bool.false_eq_true, ↓reduceIte]
          rw [e127]
          have c3 := HC3.out W hS.1
          go_wp2_with fail
          exact ⟨by trivial, World.grownBy.refl _ _, rfl⟩
        · refine bifF rfl (FreeStep.mk rfl fun vs W hk hd => ?_)
          have e128 : vs 128 = kv := hd 13 (by kernel_rfl)
          clear hd
          obtain ⟨kk, hS⟩ := hk
          simp only [fillA, fillL, dstL, List.take_succ_cons, List.take_zero, List.filterMap_cons, List.filterMap_nil, List.contains_cons, List.contains_nil, Nat.reduceAdd, Nat.zero_add, Nat.reduceBEq, Bool.or_false, Bool.or_true, Bool.false_eq_true, ↓reduceIte]
          rw [e128]
          have ix : ∀ W, (Instr.indexAt 150 kv (.int .i64 1)).run Tryz.prog W = .ok (.pointer (some (elt kv 1 1))) W := HK1x.out.1
          go_wp2_with fail
          exact ⟨by trivial, World.grownBy.refl _ _, rfl⟩
        · refine bifF rfl (FreeStep.mk rfl fun vs W hk hd => ?_)
          have e129 : vs 129 = (.pointer (some (elt kv 1 1))) := hd 14 (by kernel_rfl)
          clear hd
          obtain ⟨kk, hS⟩ := hk
          simp only [fillA, fillL, dstL, List.take_succ_cons, List.take_zero, List.filterMap_cons, List.filterMap_nil, List.contains_cons, List.contains_nil, Nat.reduceAdd, Nat.zero_add, Nat.reduceBEq, Bool.or_false, Bool.or_true, Bool.false_eq_true, ↓reduceIte]
          rw [e129]
          have d := HK1x.out.2 W hS.1
          go_wp2_with fail
          exact ⟨by trivial, World.grownBy.refl _ _, rfl⟩
        · refine bifF rfl (FreeStep.mk rfl fun vs W hk hd => ?_)
          clear hd
          obtain ⟨kk, hS⟩ := hk
          simp only [fillA, fillL, dstL, List.take_succ_cons, List.take_zero, List.filterMap_cons, List.filterMap_nil, List.contains_cons, List.contains_nil, Nat.reduceAdd, Nat.zero_add, Nat.reduceBEq, Bool.or_false, Bool.or_true, Bool.false_eq_true, ↓reduceIte]
          go_wp2_with fail
          exact ⟨by trivial, World.grownBy.refl _ _, rfl⟩
        · refine bifT rfl (LinkStep.mk rfl fun vs W hS hd => ?_)
          have e124 : vs 124 = (.pointer (some ⟨wb, 0, none⟩)) := hd 9 (by kernel_rfl)
          have e130 : vs 130 = u1 := hd 15 (by kernel_rfl)
          have e131 : vs 131 = (.map (some mb)) := hd 16 (by kernel_rfl)
          clear hd
          simp only [fillA, fillL, dstL, List.take_succ_cons, List.take_zero, List.filterMap_cons, List.filterMap_nil, List.contains_cons, List.contains_nil, Nat.reduceAdd, Nat.zero_add, Nat.reduceBEq, Bool.or_false, Bool.or_true, Bool.false_eq_true, ↓reduceIte]
          rw [e124, e130, e131]
          obtain ⟨g1, ⟨c1, g2, g3⟩, g4, g5, g6⟩ := hS.2.2.2.1 rfl
          have hcall := HO1.out m l1 c1 mb W (by omega) hS.1 hmb0 hmb hkn hin g1 g3 (by omega)
          rw [he1] at hcall
          go_wp2_with (go_at_call 69; refine hcall.mono ?_; clear hcall; rintro e w3 ⟨rfl, h1, h2, ⟨c3x, h3, h4⟩, h5, h6, h7⟩)
          exact ⟨by trivial, trivial, ⟨h1.ext hS.1 hwb hmb0, hS.2.1.trans h1, fun h => (by cases h), fun h => (by cases h), fun _ => ⟨h2, ⟨c3x, by omega, h4⟩, by omega⟩⟩, rfl⟩
        · refine bifF rfl (FreeStep.mk rfl fun vs W hk hd => ?_)
          have e123 : vs 123 = (.int .i64 a) := hd 8 (by kernel_rfl)
          have e132 : vs 132 = (.int .i64 b) := hd 17 (by kernel_rfl)
          clear hd
          obtain ⟨kk, hS⟩ := hk
          simp only [fillA, fillL, dstL, List.take_succ_cons, List.take_zero, List.filterMap_cons, List.filterMap_nil, List.contains_cons, List.contains_nil, Nat.reduceAdd, Nat.zero_add, Nat.reduceBEq, Bool.or_false, Bool.or_true, Bool.false_eq_true, ↓reduceIte]
          rw [e123, e132]
          go_wp2_with fail
          exact ⟨by trivial, World.grownBy.refl _ _, rfl⟩
      · intro vs W hall hS
        have e133 : vs 133 = (.bool (a != b)) := hall.at 18 (by omega) rfl
        clear hall
        obtain ⟨g0, gb, -, -, gS⟩ := hS
        obtain ⟨g1, ⟨c1, g2, g3⟩, g4⟩ := gS rfl
        have HB3 := Lib.hid gb
        have c3 := HC3.out W g0
        refine OrHalt.normal ?_
        simp only [fillA, fillL, dstL, List.take_succ_cons, List.take_zero, List.filterMap_cons, List.filterMap_nil, List.contains_cons, List.contains_nil, Nat.reduceAdd, Nat.zero_add, Nat.reduceBEq, Bool.or_false, Bool.or_true, Bool.false_eq_true, ↓reduceIte]
        rw [e133]
        by_cases hab : a = b
        · have HR3 := Lib.hid (show r = e2 m l2 from HR.out.trans (by rw [he0]; show (e1 m l1).bind _ = _; rw [he1]; show (if a = b then _ else _) = _; rw [if_pos hab]))
          have hcall := HO2.out m l2 c1 mb W (by omega) g0 hmb0 hmb hkn hin g1 g3 (by omega)
          have ix : ∀ W, (Instr.indexAt 150 kv (.int .i64 2)).run Tryz.prog W = .ok (.pointer (some (elt kv 2 1))) W := HK2.out.1
          have d1 := HK2.out.2 W g0
          have hne : (a != b) = false := by simpa using hab
          rw [hne]
          clear g0 gb g1 g3 gS hab
          go_wp2_with fail
          refine hcall.mono ?_
          clear hcall c3 ix d1
          intro e w9 hG
          rcases hG.cases with ⟨x, l9, hr, rfl, h1, h2, ⟨c9, h3, h4⟩, h5, h6, h7⟩ | ⟨k, hr, h1, h2⟩
          · have HB9 := Lib.hid (HB3.out.trans h1); have HK9 := Lib.hid h2; have HM9 := Lib.hid h4; have HR9 := Lib.hid (HR3.out.trans hr)
            clear hG h1 h2 h4 hr
            go_wp2_with fail
            go_ret
            exact LkGot.ok HR9.out HB9.out HK9.out (by omega) HM9.out (by omega) h6 h7
          · have HB9 := Lib.hid (HB3.out.trans h2); have HR9 := Lib.hid (HR3.out.trans hr)
            obtain rfl := h1
            clear hG h2 hr
            go_wp2_with fail
            exact ⟨rfl, LkGot.halt HR9.out rfl HB9.out⟩
        · have HR3 := Lib.hid (show r = .stop 7 from HR.out.trans (by rw [he0]; show (e1 m l1).bind _ = _; rw [he1]; show (if a = b then _ else _) = _; rw [if_neg hab]))
          have hne : (a != b) = true := by simpa using hab
          rw [hne]
          clear g0 gb g1 g3 gS hab c3
          go_wp2_with fail
          exact ⟨rfl, LkGot.halt HR3.out rfl HB3.out⟩
end
end Go.Proofs.YtgnomhbbbcfehaaGreatDoor
