/- A walker looks at a part: contract. Printed by wip/mkev8.py. -/
import Derived.Test.YtgnomhbbbcfehaaGreatDoorEv7
namespace Go.Proofs.YtgnomhbbbcfehaaGreatDoor
open Go.RowKit Go.Att Go.Shelf
section
variable {w0 w w' : World} {bf wb pb lo hi fuel n left : Nat} {p g : Int} {ff : List Int} {fs : List Att.Fn} {fv : Value}
def KidAt (w0 : World) (kv : Value) (i : Nat) (u : Value) : Prop := (∀ W, (Instr.indexAt 150 kv (.int .i64 i)).run Tryz.prog W = .ok (.pointer (some (elt kv i 1))) W) ∧ ∀ W, Ext w0 W → W.cell? (elt kv i 1) = some u
def KidOk (w0 : World) (bf wb pb fuel : Nat) (p : Int) (n : Nat) (u : Value) (ev : Env → Nat → Ev Int) (sc : List (List UInt8)) : Prop := ∀ (m : Env) (left c mb : Nat) (W : World), left ≤ n → Ext w0 W → w0.heap.size ≤ mb → mb ≠ wb → Knows m sc → EnvIn p m → WkAt W wb bf pb fuel left → MpS W mb c m → c + left ≤ 1000000 →
  Calls Tryz.prog 69 #[.pointer (some ⟨wb, 0, none⟩), u, .map (some mb)] W (LkGot W wb bf pb fuel mb c left m p (ev m left))
theorem tick_any {l k mb c : Nat} {m : Env} (hx : Ext w0 w) (hwb : w0.heap.size ≤ wb) (hk : k + (l + 1) = fuel) (hb : BlkOf w wb [.pointer (some ⟨bf, 0, none⟩), .pointer (some ⟨pb, 0, none⟩), .int .i64 fuel, .int .i64 k] 91) (hm : MpS w mb c m) (hne : mb ≠ wb) (j : Nat) :
    Ext w0 ((w.drewN j).setCell ⟨wb, 3, none⟩ (.int .i64 ((k : Int) + 1))) ∧ But2 wb mb w ((w.drewN j).setCell ⟨wb, 3, none⟩ (.int .i64 ((k : Int) + 1))) ∧ WkAt ((w.drewN j).setCell ⟨wb, 3, none⟩ (.int .i64 ((k : Int) + 1))) wb bf pb fuel l ∧ MpS ((w.drewN j).setCell ⟨wb, 3, none⟩ (.int .i64 ((k : Int) + 1))) mb c m := by
  have h1 := Ext.drewN w j
  have hg := setCell_grown (w.drewN j) wb 3 (.int .i64 ((k : Int) + 1))
  have hg2 : w.grownBy ((w.drewN j).setCell ⟨wb, 3, none⟩ (.int .i64 ((k : Int) + 1))) (some wb) := grown_one (h1.grownBy _) hg
  refine ⟨grown_base hwb hx hg2, But2.of_grown hg2 (fun r e => .inl (Option.some.inj e).symm), ⟨k + 1, by omega, ?_⟩, Mpi.kept hm hg2 (fun e => hne (Option.some.inj e))⟩
  have := (hb.ext h1).set 3 (.int .i64 ((k : Int) + 1))
  push_cast
  exact this
set_option maxRecDepth 100000 in
set_option maxHeartbeats 4000000 in
theorem slook_zero {v mv : Value} {mb c : Nat} {m : Env} {r : Ev Int} (hwk : WkAt w wb bf pb fuel 0) (hr : r = .stop 8) : Calls Tryz.prog 69 #[.pointer (some ⟨wb, 0, none⟩), v, mv] w (LkGot w wb bf pb fuel mb c 0 m p r) := by
  obtain ⟨k, hk, hbk⟩ := hwk
  obtain rfl : k = fuel := hk
  have c2 : w.cell? ⟨wb, 2, none⟩ = some (.int .i64 k) := hbk.cell 2
  have c3 : w.cell? ⟨wb, 3, none⟩ = some (.int .i64 k) := hbk.cell 3
  have HR := Lib.hid hr
  clear hbk hr
  have hpn : ∀ (t : TypeId) (v : Value) (w : World), (Instr.panic (.iface t v)).run Tryz.prog w = .halt (.panic (.iface t v)) w := fun _ _ _ => rfl
  go_enter Tryz.func69, Tryz.ntmps69
  go_upto_region 1 with fail
  go_quiet (fail)
  go_wp2_with fail
  exact ⟨rfl, LkGot.halt HR.out rfl (But2.of_ext (Ext.drewN _ _))⟩
set_option maxRecDepth 100000 in
set_option maxHeartbeats 8000000 in
theorem slook_num {l mb c q pos : Nat} {m : Env} {num : Int} {s : List UInt8} {kv : Value} {r : Ev Int} (hx : Ext w0 w) (hwb : w0.heap.size ≤ wb) (hmb : mb ≠ wb) (hfu : fuel ≤ 16384) (hb : BlkOf w0 q (pcells 0 num s kv pos) 152) (hwk : WkAt w wb bf pb fuel (l + 1)) (hm : MpS w mb c m) (hf : Fld w0 (.pointer (some ⟨bf, 0, none⟩)) p g ff) (hr : r = .ok (num % p) l) : Calls Tryz.prog 69 #[.pointer (some ⟨wb, 0, none⟩), .pointer (some ⟨q, 0, none⟩), .map (some mb)] w (LkGot w wb bf pb fuel mb c (l + 1) m p r) := by
  obtain ⟨k, hk, hbk⟩ := id hwk
  have c2 : w.cell? ⟨wb, 2, none⟩ = some (.int .i64 fuel) := hbk.cell 2
  have c3 : w.cell? ⟨wb, 3, none⟩ = some (.int .i64 k) := hbk.cell 3
  have c3f : w.frozen? ⟨wb, 3, none⟩ = false := hbk.free 3
  have hne : ((k : Int) == (fuel : Int)) = false := by rw [beq_eq_false_iff_ne]; omega
  have hk2 : k ≤ 16384 := by omega
  have HT := Lib.hid (tick_any hx hwb hk hbk hm hmb)
  have HX := Lib.hid hx; have HB := Lib.hid hb
  clear hbk hwk hm hx hb
  go_enter Tryz.func69, Tryz.ntmps69
  go_upto_region 1 with fail
  go_quiet (fail)
  go_upto_region 4 with fail
  obtain ⟨hx1, hb1, hk1, hm1⟩ := HT.out nq
  clear HT c2 c3 c3f hne
  generalize (w.drewN nq).setCell ⟨wb, 3, none⟩ (.int .i64 ((k : Int) + 1)) = w1 at *
  have k0 : w1.cell? ⟨q, 0, none⟩ = some (.int .i64 0) := hx1.cell (HB.out.cell 0)
  have HX1 := Lib.hid hx1; have HB1 := Lib.hid hb1; have HK1 := Lib.hid hk1; have HM1 := Lib.hid hm1; have HR := Lib.hid hr
  clear hx1 hb1 hk1 hm1 hr
  have HF := Lib.hid (hf.ext HX1.out)
  have hp0 : 0 < p := by have := hf.lo; omega
  have k1 : w1.cell? ⟨q, 1, none⟩ = some (.int .i64 num) := HX1.out.cell (HB.out.cell 1)
  obtain ⟨kk, -, hbk⟩ := id HK1.out
  have c0 : w1.cell? ⟨wb, 0, none⟩ = some (.pointer (some ⟨bf, 0, none⟩)) := hbk.cell 0
  clear hbk hf
  go_upto_region 6 with fail
  go_quiet ((go_at_call 33; exact of_q HF.out _ _))
  go_wp2_with fail
  go_ret
  have hx9 := Ext.drewN w1 nq
  exact LkGot.ok HR.out (HB1.out.trans (But2.of_ext hx9)) (HK1.out.ext hx9) (by omega) (Mpi.ext HM1.out hx9) (by omega) (Int.emod_nonneg _ (by omega)) (Int.emod_lt_of_pos _ hp0)
set_option maxRecDepth 100000 in
set_option maxHeartbeats 8000000 in
theorem slook_name {l mb c q pos : Nat} {m : Env} {num : Int} {s : List UInt8} {kv : Value} {r : Ev Int} (hx : Ext w0 w) (hwb : w0.heap.size ≤ wb) (hmb : mb ≠ wb) (hfu : fuel ≤ 16384) (hb : BlkOf w0 q (pcells 1 num s kv pos) 152) (hwk : WkAt w wb bf pb fuel (l + 1)) (hm : MpS w mb c m) (hs : s.length ≤ 16) (hp : 0 < p) (hin : EnvIn p m) (hr : r = .ok (m.get s) l) : Calls Tryz.prog 69 #[.pointer (some ⟨wb, 0, none⟩), .pointer (some ⟨q, 0, none⟩), .map (some mb)] w (LkGot w wb bf pb fuel mb c (l + 1) m p r) := by
  obtain ⟨k, hk, hbk⟩ := id hwk
  have c2 : w.cell? ⟨wb, 2, none⟩ = some (.int .i64 fuel) := hbk.cell 2
  have c3 : w.cell? ⟨wb, 3, none⟩ = some (.int .i64 k) := hbk.cell 3
  have c3f : w.frozen? ⟨wb, 3, none⟩ = false := hbk.free 3
  have hne : ((k : Int) == (fuel : Int)) = false := by rw [beq_eq_false_iff_ne]; omega
  have hk2 : k ≤ 16384 := by omega
  have HT := Lib.hid (tick_any hx hwb hk hbk hm hmb)
  have HX := Lib.hid hx; have HB := Lib.hid hb
  clear hbk hwk hm hx hb
  go_enter Tryz.func69, Tryz.ntmps69
  go_upto_region 1 with fail
  go_quiet (fail)
  go_upto_region 4 with fail
  obtain ⟨hx1, hb1, hk1, hm1⟩ := HT.out nq
  clear HT c2 c3 c3f hne
  generalize (w.drewN nq).setCell ⟨wb, 3, none⟩ (.int .i64 ((k : Int) + 1)) = w1 at *
  have k0 : w1.cell? ⟨q, 0, none⟩ = some (.int .i64 1) := hx1.cell (HB.out.cell 0)
  have HX1 := Lib.hid hx1; have HB1 := Lib.hid hb1; have HK1 := Lib.hid hk1; have HM1 := Lib.hid hm1; have HR := Lib.hid hr
  clear hx1 hb1 hk1 hm1 hr
  have k2 : w1.cell? ⟨q, 2, none⟩ = some (.string ⟨s.toArray⟩) := HX1.out.cell (HB.out.cell 2)
  have hlk := Mpi.look Tryz.underlying9 Tryz.underlying3 Tryz.underlying143 (fun w => rfl) HM1.out (s := s) (by omega)
  have hg := hin.get hp s
  have HG := Lib.hid hg
  clear hin hg
  go_wp2_with fail
  go_ret
  exact LkGot.ok HR.out HB1.out HK1.out (by omega) HM1.out (by omega) HG.out.1 HG.out.2
set_option maxRecDepth 100000 in
set_option maxHeartbeats 8000000 in
theorem slook_let {l mb c q pos : Nat} {m : Env} {num : Int} {s : List UInt8} {kv : Value} {r : Ev Int} (hx : Ext w0 w) (hwb : w0.heap.size ≤ wb) (hmb : mb ≠ wb) (hfu : fuel ≤ 16384) (hb : BlkOf w0 q (pcells 8 num s kv pos) 152) (hwk : WkAt w wb bf pb fuel (l + 1)) (hm : MpS w mb c m) {sc : List (List UInt8)} {u0 u1 : Value} {e0 e1 : Env → Nat → Ev Int} (hmb0 : w0.heap.size ≤ mb) (hln : l ≤ n) (hc : c + (l + 1) ≤ 1000000) (hp2 : p ≤ 2147483647) (hkn : Knows m sc) (hin : EnvIn p m) (hs : s.length ≤ 16) (hsn : s ∉ sc) (K0 : KidAt w0 kv 0 u0) (K1 : KidAt w0 kv 1 u1) (O0 : KidOk w0 bf wb pb fuel p n u0 e0 sc) (O1 : KidOk w0 bf wb pb fuel p n u1 e1 (s :: sc)) (hr : r = (e0 m l).bind fun a l => e1 (m.put s a) l) : Calls Tryz.prog 69 #[.pointer (some ⟨wb, 0, none⟩), .pointer (some ⟨q, 0, none⟩), .map (some mb)] w (LkGot w wb bf pb fuel mb c (l + 1) m p r) := by
  have HK0 := Lib.hid K0; have HK1x := Lib.hid K1; have HO0 := Lib.hid O0; have HO1 := Lib.hid O1
  clear K0 K1 O0 O1
  obtain ⟨k, hk, hbk⟩ := id hwk
  have c2 : w.cell? ⟨wb, 2, none⟩ = some (.int .i64 fuel) := hbk.cell 2
  have c3 : w.cell? ⟨wb, 3, none⟩ = some (.int .i64 k) := hbk.cell 3
  have c3f : w.frozen? ⟨wb, 3, none⟩ = false := hbk.free 3
  have hne : ((k : Int) == (fuel : Int)) = false := by rw [beq_eq_false_iff_ne]; omega
  have hk2 : k ≤ 16384 := by omega
  have HT := Lib.hid (tick_any hx hwb hk hbk hm hmb)
  have HX := Lib.hid hx; have HB := Lib.hid hb
  clear hbk hwk hm hx hb
  go_enter Tryz.func69, Tryz.ntmps69
  go_upto_region 1 with fail
  go_quiet (fail)
  go_upto_region 4 with fail
  obtain ⟨hx1, hb1, hk1, hm1⟩ := HT.out nq
  clear HT c2 c3 c3f hne
  generalize (w.drewN nq).setCell ⟨wb, 3, none⟩ (.int .i64 ((k : Int) + 1)) = w1 at *
  have k0 : w1.cell? ⟨q, 0, none⟩ = some (.int .i64 8) := hx1.cell (HB.out.cell 0)
  have HX1 := Lib.hid hx1; have HB1 := Lib.hid hb1; have HK1 := Lib.hid hk1; have HM1 := Lib.hid hm1; have HR := Lib.hid hr
  clear hx1 hb1 hk1 hm1 hr
  have HC3 : Hid (∀ W, Ext w0 W → W.cell? ⟨q, 3, none⟩ = some kv) := Lib.hid (fun W hW => hW.cell (HB.out.cell 3))
  have HC2 : Hid (∀ W, Ext w0 W → W.cell? ⟨q, 2, none⟩ = some (.string ⟨s.toArray⟩)) := Lib.hid (fun W hW => hW.cell (HB.out.cell 2))
  go_upto_region 10 with fail
  refine wp_region_halt (fun ch w'' => LkGot w wb bf pb fuel mb c (l + 1) m p r (.panicked ch) w'') ?_ ?_
  · intro c a w'' hd hR
    go_wp2_with fail
    exact ⟨hd, hR⟩
  clear k0
  cases he0 : e0 m l with
  | stop k =>
    refine wp_region_eqs 15 rfl [some (.map (some mb)), some (.pointer (some ⟨q, 0, none⟩)), some (.pointer (some ⟨q, 0, none⟩)), some (.pointer (some ⟨q, 2, none⟩)), some (.string ⟨s.toArray⟩), some (.pointer (some ⟨wb, 0, none⟩)), some (.pointer (some ⟨q, 0, none⟩)), some (.pointer (some ⟨q, 0, none⟩)), some (.pointer (some ⟨q, 3, none⟩)), some kv, some (.pointer (some (elt kv 0 1))), some u0, some (.map (some mb)), some (.int .i64 0), none] [13, 14] (fun k W => Ext w0 W ∧ But2 wb mb w W ∧ (k = 0 → WkAt W wb bf pb fuel l ∧ MpS W mb c m) ∧ (k = 1 → False) ∧ (k = 2 → False)) (by kernel_rfl) (by kernel_rfl) (by kernel_rfl) (by kernel_rfl) (fun k W W' h hg => by have hX := ext_gn hg; exact ⟨h.1.trans hX, h.2.1.trans (But2.of_ext hX), fun e => ⟨(h.2.2.1 e).1.ext hX, Mpi.ext (h.2.2.1 e).2 hX⟩, h.2.2.2.1, h.2.2.2.2⟩) (⟨HX1.out.trans (Ext.drew _), HB1.out.trans (But2.of_ext (Ext.drew _)), fun _ => ⟨HK1.out.ext (Ext.drew _), Mpi.ext HM1.out (Ext.drew _)⟩, fun h => (by cases h), fun h => (by cases h)⟩) ?_ ?_
    · refine ⟨?_, ?_, ?_, ?_, ?_, ?_, ?_, ?_, ?_, ?_, ?_, ?_, ?_, ?_, ?_, trivial⟩
      · refine bifF rfl (FreeStep.mk rfl fun vs W hk hd => ?_)
        clear hd
        obtain ⟨kk, hS⟩ := hk
        simp only [fillA, fillL, dstL, List.take_succ_cons, List.take_zero, List.filterMap_cons, List.filterMap_nil, List.contains_cons, List.contains_nil, Nat.reduceAdd, Nat.zero_add, Nat.reduceBEq, Bool.or_false, Bool.or_true, Bool.false_eq_true, ↓reduceIte]
        go_wp2_with fail
        exact ⟨by trivial, World.grownBy.refl _ _, rfl⟩
      · refine bifF rfl (FreeStep.mk rfl fun vs W hk hd => ?_)
        clear hd
        obtain ⟨kk, hS⟩ := hk
        simp only [fillA, fillL, dstL, List.take_succ_cons, List.take_zero, List.filterMap_cons, List.filterMap_nil, List.contains_cons, List.contains_nil, Nat.reduceAdd, Nat.zero_add, Nat.reduceBEq, Bool.or_false, Bool.or_true, Bool.false_eq_true, ↓reduceIte]
        go_wp2_with fail
        exact ⟨by trivial, World.grownBy.refl _ _, rfl⟩
      · refine bifF rfl (FreeStep.mk rfl fun vs W hk hd => ?_)
        have e55 : vs 55 = (.pointer (some ⟨q, 0, none⟩)) := hd 1 (by kernel_rfl)
        clear hd
        obtain ⟨kk, hS⟩ := hk
        simp only [fillA, fillL, dstL, List.take_succ_cons, List.take_zero, List.filterMap_cons, List.filterMap_nil, List.contains_cons, List.contains_nil, Nat.reduceAdd, Nat.zero_add, Nat.reduceBEq, Bool.or_false, Bool.or_true, Bool.false_eq_true, ↓reduceIte]
        rw [e55]
        go_wp2_with fail
        exact ⟨by trivial, World.grownBy.refl _ _, rfl⟩
      · refine bifF rfl (FreeStep.mk rfl fun vs W hk hd => ?_)
        have e56 : vs 56 = (.pointer (some ⟨q, 0, none⟩)) := hd 2 (by kernel_rfl)
        clear hd
        obtain ⟨kk, hS⟩ := hk
        simp only [fillA, fillL, dstL, List.take_succ_cons, List.take_zero, List.filterMap_cons, List.filterMap_nil, List.contains_cons, List.contains_nil, Nat.reduceAdd, Nat.zero_add, Nat.reduceBEq, Bool.or_false, Bool.or_true, Bool.false_eq_true, ↓reduceIte]
        rw [e56]
        go_wp2_with fail
        exact ⟨by trivial, World.grownBy.refl _ _, rfl⟩
      · refine bifF rfl (FreeStep.mk rfl fun vs W hk hd => ?_)
        have e57 : vs 57 = (.pointer (some ⟨q, 2, none⟩)) := hd 3 (by kernel_rfl)
        clear hd
        obtain ⟨kk, hS⟩ := hk
        simp only [fillA, fillL, dstL, List.take_succ_cons, List.take_zero, List.filterMap_cons, List.filterMap_nil, List.contains_cons, List.contains_nil, Nat.reduceAdd, Nat.zero_add, Nat.reduceBEq, Bool.or_false, Bool.or_true, Bool.false_eq_true, ↓reduceIte]
        rw [e57]
        have c2 := HC2.out W hS.1
        go_wp2_with fail
        exact ⟨by trivial, World.grownBy.refl _ _, rfl⟩
      · refine bifF rfl (FreeStep.mk rfl fun vs W hk hd => ?_)
        clear hd
        obtain ⟨kk, hS⟩ := hk
        simp only [fillA, fillL, dstL, List.take_succ_cons, List.take_zero, List.filterMap_cons, List.filterMap_nil, List.contains_cons, List.contains_nil, Nat.reduceAdd, Nat.zero_add, Nat.reduceBEq, Bool.or_false, Bool.or_true, Bool.false_eq_true, ↓reduceIte]
        go_wp2_with fail
        exact ⟨by trivial, World.grownBy.refl _ _, rfl⟩
      · refine bifF rfl (FreeStep.mk rfl fun vs W hk hd => ?_)
        clear hd
        obtain ⟨kk, hS⟩ := hk
        simp only [fillA, fillL, dstL, List.take_succ_cons, List.take_zero, List.filterMap_cons, List.filterMap_nil, List.contains_cons, List.contains_nil, Nat.reduceAdd, Nat.zero_add, Nat.reduceBEq, Bool.or_false, Bool.or_true, Bool.false_eq_true, ↓reduceIte]
        go_wp2_with fail
        exact ⟨by trivial, World.grownBy.refl _ _, rfl⟩
      · refine bifF rfl (FreeStep.mk rfl fun vs W hk hd => ?_)
        have e60 : vs 60 = (.pointer (some ⟨q, 0, none⟩)) := hd 6 (by kernel_rfl)
        clear hd
        obtain ⟨kk, hS⟩ := hk
        simp only [fillA, fillL, dstL, List.take_succ_cons, List.take_zero, List.filterMap_cons, List.filterMap_nil, List.contains_cons, List.contains_nil, Nat.reduceAdd, Nat.zero_add, Nat.reduceBEq, Bool.or_false, Bool.or_true, Bool.false_eq_true, ↓reduceIte]
        rw [e60]
        go_wp2_with fail
        exact ⟨by trivial, World.grownBy.refl _ _, rfl⟩
      · refine bifF rfl (FreeStep.mk rfl fun vs W hk hd => ?_)
        have e61 : vs 61 = (.pointer (some ⟨q, 0, none⟩)) := hd 7 (by kernel_rfl)
        clear hd
        obtain ⟨kk, hS⟩ := hk
        simp only [fillA, fillL, dstL, List.take_succ_cons, List.take_zero, List.filterMap_cons, List.filterMap_nil, List.contains_cons, List.contains_nil, Nat.reduceAdd, Nat.zero_add, Nat.reduceBEq, Bool.or_false, Bool.or_true, Bool.false_eq_true, ↓reduceIte]
        rw [e61]
        go_wp2_with fail
        exact ⟨by trivial, World.grownBy.refl _ _, rfl⟩
      · refine bifF rfl (FreeStep.mk rfl fun vs W hk hd => ?_)
        have e62 : vs 62 = (.pointer (some ⟨q, 3, none⟩)) := hd 8 (by kernel_rfl)
        clear hd
        obtain ⟨kk, hS⟩ := hk
        simp only [fillA, fillL, dstL, List.take_succ_cons, List.take_zero, List.filterMap_cons, List.filterMap_nil, List.contains_cons, List.contains_nil, Nat.reduceAdd, Nat.zero_add, Nat.reduceBEq, Bool.or_false, Bool.or_true, Bool.false_eq_true, ↓reduceIte]
        rw [e62]
        have c3 := HC3.out W hS.1
        go_wp2_with fail
        exact ⟨by trivial, World.grownBy.refl _ _, rfl⟩
      · refine bifF rfl (FreeStep.mk rfl fun vs W hk hd => ?_)
        have e63 : vs 63 = kv := hd 9 (by kernel_rfl)
        clear hd
        obtain ⟨kk, hS⟩ := hk
        simp only [fillA, fillL, dstL, List.take_succ_cons, List.take_zero, List.filterMap_cons, List.filterMap_nil, List.contains_cons, List.contains_nil, Nat.reduceAdd, Nat.zero_add, Nat.reduceBEq, Bool.or_false, Bool.or_true, Bool.false_eq_true, ↓reduceIte]
        rw [e63]
        have ix : ∀ W, (Instr.indexAt 150 kv (.int .i64 0)).run Tryz.prog W = .ok (.pointer (some (elt kv 0 1))) W := HK0.out.1
        go_wp2_with fail
        exact ⟨by trivial, World.grownBy.refl _ _, rfl⟩
      · refine bifF rfl (FreeStep.mk rfl fun vs W hk hd => ?_)
        have e64 : vs 64 = (.pointer (some (elt kv 0 1))) := hd 10 (by kernel_rfl)
        clear hd
        obtain ⟨kk, hS⟩ := hk
        simp only [fillA, fillL, dstL, List.take_succ_cons, List.take_zero, List.filterMap_cons, List.filterMap_nil, List.contains_cons, List.contains_nil, Nat.reduceAdd, Nat.zero_add, Nat.reduceBEq, Bool.or_false, Bool.or_true, Bool.false_eq_true, ↓reduceIte]
        rw [e64]
        have d := HK0.out.2 W hS.1
        go_wp2_with fail
        exact ⟨by trivial, World.grownBy.refl _ _, rfl⟩
      · refine bifF rfl (FreeStep.mk rfl fun vs W hk hd => ?_)
        clear hd
        obtain ⟨kk, hS⟩ := hk
        simp only [fillA, fillL, dstL, List.take_succ_cons, List.take_zero, List.filterMap_cons, List.filterMap_nil, List.contains_cons, List.contains_nil, Nat.reduceAdd, Nat.zero_add, Nat.reduceBEq, Bool.or_false, Bool.or_true, Bool.false_eq_true, ↓reduceIte]
        go_wp2_with fail
        exact ⟨by trivial, World.grownBy.refl _ _, rfl⟩
      · refine bifT rfl (LinkStep.mk rfl fun vs W hS hd => ?_)
        have e59 : vs 59 = (.pointer (some ⟨wb, 0, none⟩)) := hd 5 (by kernel_rfl)
        have e65 : vs 65 = u0 := hd 11 (by kernel_rfl)
        have e66 : vs 66 = (.map (some mb)) := hd 12 (by kernel_rfl)
        clear hd
        simp only [fillA, fillL, dstL, List.take_succ_cons, List.take_zero, List.filterMap_cons, List.filterMap_nil, List.contains_cons, List.contains_nil, Nat.reduceAdd, Nat.zero_add, Nat.reduceBEq, Bool.or_false, Bool.or_true, Bool.false_eq_true, ↓reduceIte]
        rw [e59, e65, e66]
        have hSt := hS.2.2.1 rfl
        have hcall := HO0.out m l c mb W hln hS.1 hmb0 hmb hkn hin hSt.1 hSt.2 (by omega)
        rw [he0] at hcall
        go_wp2_with (go_at_call 69; refine hcall.mono ?_; clear hcall; rintro e w3 ⟨rfl, h1⟩)
        exact OrHalt.panic rfl (LkGot.halt (HR.out.trans (by rw [he0]; rfl)) rfl (hS.2.1.trans h1))
      · refine bifT rfl (LinkStep.mk rfl fun vs W hS hd => ?_)
        have e54 : vs 54 = (.map (some mb)) := hd 0 (by kernel_rfl)
        have e58 : vs 58 = (.string ⟨s.toArray⟩) := hd 4 (by kernel_rfl)
        clear hd
        simp only [fillA, fillL, dstL, List.take_succ_cons, List.take_zero, List.filterMap_cons, List.filterMap_nil, List.contains_cons, List.contains_nil, Nat.reduceAdd, Nat.zero_add, Nat.reduceBEq, Bool.or_false, Bool.or_true, Bool.false_eq_true, ↓reduceIte]
        rw [e54, e58]
        exact (hS.2.2.2.1 rfl).elim
    · intro vs W hall hS
      exact (hS.2.2.2.2 rfl).elim
  | ok a l1 =>
    refine wp_region_eqs 15 rfl [some (.map (some mb)), some (.pointer (some ⟨q, 0, none⟩)), some (.pointer (some ⟨q, 0, none⟩)), some (.pointer (some ⟨q, 2, none⟩)), some (.string ⟨s.toArray⟩), some (.pointer (some ⟨wb, 0, none⟩)), some (.pointer (some ⟨q, 0, none⟩)), some (.pointer (some ⟨q, 0, none⟩)), some (.pointer (some ⟨q, 3, none⟩)), some kv, some (.pointer (some (elt kv 0 1))), some u0, some (.map (some mb)), some (.int .i64 a), none] [13, 14] (fun k W => Ext w0 W ∧ But2 wb mb w W ∧ (k = 0 → WkAt W wb bf pb fuel l ∧ MpS W mb c m) ∧ (k = 1 → WkAt W wb bf pb fuel l1 ∧ (∃ c1, c1 + l1 ≤ c + l ∧ MpS W mb c1 m) ∧ l1 ≤ l ∧ 0 ≤ a ∧ a < p) ∧ (k = 2 → WkAt W wb bf pb fuel l1 ∧ (∃ c1, c1 + l1 ≤ c + l + 1 ∧ MpS W mb c1 (m.put s a)) ∧ l1 ≤ l ∧ 0 ≤ a ∧ a < p)) (by kernel_rfl) (by kernel_rfl) (by kernel_rfl) (by kernel_rfl) (fun k W W' h hg => by have hX := ext_gn hg; exact ⟨h.1.trans hX, h.2.1.trans (But2.of_ext hX), fun e => ⟨(h.2.2.1 e).1.ext hX, Mpi.ext (h.2.2.1 e).2 hX⟩, fun e => ⟨(h.2.2.2.1 e).1.ext hX, (h.2.2.2.1 e).2.1.imp fun c1 h1 => ⟨h1.1, Mpi.ext h1.2 hX⟩, (h.2.2.2.1 e).2.2⟩, fun e => ⟨(h.2.2.2.2 e).1.ext hX, (h.2.2.2.2 e).2.1.imp fun c1 h1 => ⟨h1.1, Mpi.ext h1.2 hX⟩, (h.2.2.2.2 e).2.2⟩⟩) (⟨HX1.out.trans (Ext.drew _), HB1.out.trans (But2.of_ext (Ext.drew _)), fun _ => ⟨HK1.out.ext (Ext.drew _), Mpi.ext HM1.out (Ext.drew _)⟩, fun h => (by cases h), fun h => (by cases h)⟩) ?_ ?_
    · refine ⟨?_, ?_, ?_, ?_, ?_, ?_, ?_, ?_, ?_, ?_, ?_, ?_, ?_, ?_, ?_, trivial⟩
      · refine bifF rfl (FreeStep.mk rfl fun vs W hk hd => ?_)
        clear hd
        obtain ⟨kk, hS⟩ := hk
        simp only [fillA, fillL, dstL, List.take_succ_cons, List.take_zero, List.filterMap_cons, List.filterMap_nil, List.contains_cons, List.contains_nil, Nat.reduceAdd, Nat.zero_add, Nat.reduceBEq, Bool.or_false, Bool.or_true, Bool.false_eq_true, ↓reduceIte]
        go_wp2_with fail
        exact ⟨by trivial, World.grownBy.refl _ _, rfl⟩
      · refine bifF rfl (FreeStep.mk rfl fun vs W hk hd => ?_)
        clear hd
        obtain ⟨kk, hS⟩ := hk
        simp only [fillA, fillL, dstL, List.take_succ_cons, List.take_zero, List.filterMap_cons, List.filterMap_nil, List.contains_cons, List.contains_nil, Nat.reduceAdd, Nat.zero_add, Nat.reduceBEq, Bool.or_false, Bool.or_true, Bool.false_eq_true, ↓reduceIte]
        go_wp2_with fail
        exact ⟨by trivial, World.grownBy.refl _ _, rfl⟩
      · refine bifF rfl (FreeStep.mk rfl fun vs W hk hd => ?_)
        have e55 : vs 55 = (.pointer (some ⟨q, 0, none⟩)) := hd 1 (by kernel_rfl)
        clear hd
        obtain ⟨kk, hS⟩ := hk
        simp only [fillA, fillL, dstL, List.take_succ_cons, List.take_zero, List.filterMap_cons, List.filterMap_nil, List.contains_cons, List.contains_nil, Nat.reduceAdd, Nat.zero_add, Nat.reduceBEq, Bool.or_false, Bool.or_true, Bool.false_eq_true, ↓reduceIte]
        rw [e55]
        go_wp2_with fail
        exact ⟨by trivial, World.grownBy.refl _ _, rfl⟩
      · refine bifF rfl (FreeStep.mk rfl fun vs W hk hd => ?_)
        have e56 : vs 56 = (.pointer (some ⟨q, 0, none⟩)) := hd 2 (by kernel_rfl)
        clear hd
        obtain ⟨kk, hS⟩ := hk
        simp only [fillA, fillL, dstL, List.take_succ_cons, List.take_zero, List.filterMap_cons, List.filterMap_nil, List.contains_cons, List.contains_nil, Nat.reduceAdd, Nat.zero_add, Nat.reduceBEq, Bool.or_false, Bool.or_true, Bool.false_eq_true, ↓reduceIte]
        rw [e56]
        go_wp2_with fail
        exact ⟨by trivial, World.grownBy.refl _ _, rfl⟩
      · refine bifF rfl (FreeStep.mk rfl fun vs W hk hd => ?_)
        have e57 : vs 57 = (.pointer (some ⟨q, 2, none⟩)) := hd 3 (by kernel_rfl)
        clear hd
        obtain ⟨kk, hS⟩ := hk
        simp only [fillA, fillL, dstL, List.take_succ_cons, List.take_zero, List.filterMap_cons, List.filterMap_nil, List.contains_cons, List.contains_nil, Nat.reduceAdd, Nat.zero_add, Nat.reduceBEq, Bool.or_false, Bool.or_true, Bool.false_eq_true, ↓reduceIte]
        rw [e57]
        have c2 := HC2.out W hS.1
        go_wp2_with fail
        exact ⟨by trivial, World.grownBy.refl _ _, rfl⟩
      · refine bifF rfl (FreeStep.mk rfl fun vs W hk hd => ?_)
        clear hd
        obtain ⟨kk, hS⟩ := hk
        simp only [fillA, fillL, dstL, List.take_succ_cons, List.take_zero, List.filterMap_cons, List.filterMap_nil, List.contains_cons, List.contains_nil, Nat.reduceAdd, Nat.zero_add, Nat.reduceBEq, Bool.or_false, Bool.or_true, Bool.false_eq_true, ↓reduceIte]
        go_wp2_with fail
        exact ⟨by trivial, World.grownBy.refl _ _, rfl⟩
      · refine bifF rfl (FreeStep.mk rfl fun vs W hk hd => ?_)
        clear hd
        obtain ⟨kk, hS⟩ := hk
        simp only [fillA, fillL, dstL, List.take_succ_cons, List.take_zero, List.filterMap_cons, List.filterMap_nil, List.contains_cons, List.contains_nil, Nat.reduceAdd, Nat.zero_add, Nat.reduceBEq, Bool.or_false, Bool.or_true, Bool.false_eq_true, ↓reduceIte]
        go_wp2_with fail
        exact ⟨by trivial, World.grownBy.refl _ _, rfl⟩
      · refine bifF rfl (FreeStep.mk rfl fun vs W hk hd => ?_)
        have e60 : vs 60 = (.pointer (some ⟨q, 0, none⟩)) := hd 6 (by kernel_rfl)
        clear hd
        obtain ⟨kk, hS⟩ := hk
        simp only [fillA, fillL, dstL, List.take_succ_cons, List.take_zero, List.filterMap_cons, List.filterMap_nil, List.contains_cons, List.contains_nil, Nat.reduceAdd, Nat.zero_add, Nat.reduceBEq, Bool.or_false, Bool.or_true, Bool.false_eq_true, ↓reduceIte]
        rw [e60]
        go_wp2_with fail
        exact ⟨by trivial, World.grownBy.refl _ _, rfl⟩
      · refine bifF rfl (FreeStep.mk rfl fun vs W hk hd => ?_)
        have e61 : vs 61 = (.pointer (some ⟨q, 0, none⟩)) := hd 7 (by kernel_rfl)
        clear hd
        obtain ⟨kk, hS⟩ := hk
        simp only [fillA, fillL, dstL, List.take_succ_cons, List.take_zero, List.filterMap_cons, List.filterMap_nil, List.contains_cons, List.contains_nil, Nat.reduceAdd, Nat.zero_add, Nat.reduceBEq, Bool.or_false, Bool.or_true, Bool.false_eq_true, ↓reduceIte]
        rw [e61]
        go_wp2_with fail
        exact ⟨by trivial, World.grownBy.refl _ _, rfl⟩
      · refine bifF rfl (FreeStep.mk rfl fun vs W hk hd => ?_)
        have e62 : vs 62 = (.pointer (some ⟨q, 3, none⟩)) := hd 8 (by kernel_rfl)
        clear hd
        obtain ⟨kk, hS⟩ := hk
        simp only [fillA, fillL, dstL, List.take_succ_cons, List.take_zero, List.filterMap_cons, List.filterMap_nil, List.contains_cons, List.contains_nil, Nat.reduceAdd, Nat.zero_add, Nat.reduceBEq, Bool.or_false, Bool.or_true, Bool.false_eq_true, ↓reduceIte]
        rw [e62]
        have c3 := HC3.out W hS.1
        go_wp2_with fail
        exact ⟨by trivial, World.grownBy.refl _ _, rfl⟩
      · refine bifF rfl (FreeStep.mk rfl fun vs W hk hd => ?_)
        have e63 : vs 63 = kv := hd 9 (by kernel_rfl)
        clear hd
        obtain ⟨kk, hS⟩ := hk
        simp only [fillA, fillL, dstL, List.take_succ_cons, List.take_zero, List.filterMap_cons, List.filterMap_nil, List.contains_cons, List.contains_nil, Nat.reduceAdd, Nat.zero_add, Nat.reduceBEq, Bool.or_false, Bool.or_true, Bool.false_eq_true, ↓reduceIte]
        rw [e63]
        have ix : ∀ W, (Instr.indexAt 150 kv (.int .i64 0)).run Tryz.prog W = .ok (.pointer (some (elt kv 0 1))) W := HK0.out.1
        go_wp2_with fail
        exact ⟨by trivial, World.grownBy.refl _ _, rfl⟩
      · refine bifF rfl (FreeStep.mk rfl fun vs W hk hd => ?_)
        have e64 : vs 64 = (.pointer (some (elt kv 0 1))) := hd 10 (by kernel_rfl)
        clear hd
        obtain ⟨kk, hS⟩ := hk
        simp only [fillA, fillL, dstL, List.take_succ_cons, List.take_zero, List.filterMap_cons, List.filterMap_nil, List.contains_cons, List.contains_nil, Nat.reduceAdd, Nat.zero_add, Nat.reduceBEq, Bool.or_false, Bool.or_true, Bool.false_eq_true, ↓reduceIte]
        rw [e64]
        have d := HK0.out.2 W hS.1
        go_wp2_with fail
        exact ⟨by trivial, World.grownBy.refl _ _, rfl⟩
      · refine bifF rfl (FreeStep.mk rfl fun vs W hk hd => ?_)
        clear hd
        obtain ⟨kk, hS⟩ := hk
        simp only [fillA, fillL, dstL, List.take_succ_cons, List.take_zero, List.filterMap_cons, List.filterMap_nil, List.contains_cons, List.contains_nil, Nat.reduceAdd, Nat.zero_add, Nat.reduceBEq, Bool.or_false, Bool.or_true, Bool.false_eq_true, ↓reduceIte]
        go_wp2_with fail
        exact ⟨by trivial, World.grownBy.refl _ _, rfl⟩
      · refine bifT rfl (LinkStep.mk rfl fun vs W hS hd => ?_)
        have e59 : vs 59 = (.pointer (some ⟨wb, 0, none⟩)) := hd 5 (by kernel_rfl)
        have e65 : vs 65 = u0 := hd 11 (by kernel_rfl)
        have e66 : vs 66 = (.map (some mb)) := hd 12 (by kernel_rfl)
        clear hd
        simp only [fillA, fillL, dstL, List.take_succ_cons, List.take_zero, List.filterMap_cons, List.filterMap_nil, List.contains_cons, List.contains_nil, Nat.reduceAdd, Nat.zero_add, Nat.reduceBEq, Bool.or_false, Bool.or_true, Bool.false_eq_true, ↓reduceIte]
        rw [e59, e65, e66]
        have hSt := hS.2.2.1 rfl
        have hcall := HO0.out m l c mb W hln hS.1 hmb0 hmb hkn hin hSt.1 hSt.2 (by omega)
        rw [he0] at hcall
        go_wp2_with (go_at_call 69; refine hcall.mono ?_; clear hcall; rintro e w3 ⟨rfl, h1, h2, h3, h5, h6, h7⟩)
        exact ⟨by trivial, trivial, ⟨h1.ext hS.1 hwb hmb0, hS.2.1.trans h1, fun h => (by cases h), fun _ => ⟨h2, h3, h5, h6, h7⟩, fun h => (by cases h)⟩, rfl⟩
      · refine bifT rfl (LinkStep.mk rfl fun vs W hS hd => ?_)
        have e54 : vs 54 = (.map (some mb)) := hd 0 (by kernel_rfl)
        have e58 : vs 58 = (.string ⟨s.toArray⟩) := hd 4 (by kernel_rfl)
        have e67 : vs 67 = (.int .i64 a) := hd 13 (by kernel_rfl)
        clear hd
        simp only [fillA, fillL, dstL, List.take_succ_cons, List.take_zero, List.filterMap_cons, List.filterMap_nil, List.contains_cons, List.contains_nil, Nat.reduceAdd, Nat.zero_add, Nat.reduceBEq, Bool.or_false, Bool.or_true, Bool.false_eq_true, ↓reduceIte]
        rw [e54, e58, e67]
        obtain ⟨g1, ⟨c1, g2, g3⟩, g4, g5, g6⟩ := hS.2.2.2.1 rfl
        obtain ⟨w3, hru, hM3, hg3⟩ := Mpi.put Tryz.underlying9 Tryz.underlying3 Tryz.underlying143 g3 (by omega) (s := s) (by omega) (v := a) (wf_small g5 (by omega))
        go_wp2_with fail
        exact ⟨by trivial, trivial, ⟨grown_base hmb0 hS.1 hg3, hS.2.1.trans (But2.of_grown hg3 (fun r e => .inr (Option.some.inj e).symm)), fun h => (by cases h), fun h => (by cases h), fun _ => ⟨g1.grown hg3 (fun e => hmb (Option.some.inj e).symm), ⟨c1 + 1, by omega, hM3⟩, g4, g5, g6⟩⟩, trivial⟩
    · intro vs W hall hS
      clear hall
      obtain ⟨g0, gb, -, -, gS⟩ := hS
      obtain ⟨g1, ⟨c1, g2, g3⟩, g4, g5, g6⟩ := gS rfl
      have HG0 := Lib.hid g0; have HGB := Lib.hid gb
      have hcall := HO1.out (m.put s a) l1 c1 mb W (by omega) g0 hmb0 hmb (hkn.put s a) (hin.put g5 g6) g1 g3 (by omega)
      have c3 := HC3.out W g0
      have ix : ∀ W, (Instr.indexAt 150 kv (.int .i64 1)).run Tryz.prog W = .ok (.pointer (some (elt kv 1 1))) W := HK1x.out.1
      have d1 := HK1x.out.2 W g0
      have HR2 := Lib.hid (show r = e1 (m.put s a) l1 from HR.out.trans (by rw [he0]; rfl))
      clear g0 gb g1 g3 gS
      refine OrHalt.normal ?_
      simp only [fillA, fillL, dstL, List.take_succ_cons, List.take_zero, List.filterMap_cons, List.filterMap_nil, List.contains_cons, List.contains_nil, Nat.reduceAdd, Nat.zero_add, Nat.reduceBEq, Bool.or_false, Bool.or_true, Bool.false_eq_true, ↓reduceIte]
      go_wp2_with fail
      refine hcall.mono ?_
      clear hcall c3 ix d1
      intro e w3 hG
      rcases hG.cases with ⟨x, l2, hr, rfl, h1, h2, ⟨c2, h3, h4⟩, h5, h6, h7⟩ | ⟨k, hr, h1, h2⟩
      · have HB3 := Lib.hid (HGB.out.trans h1); have HE3 := Lib.hid (h1.ext HG0.out hwb hmb0); have HR3 := Lib.hid (HR2.out.trans hr)
        have k2 : w3.cell? ⟨q, 2, none⟩ = some (.string ⟨s.toArray⟩) := HC2.out w3 HE3.out
        obtain ⟨w4, hrd, hM4, hg4⟩ := Mpi.drop Tryz.underlying9 Tryz.underlying3 Tryz.underlying143 h4 (s := s) (by omega) 0
        rw [Env.del_put (hkn.none hsn)] at hM4
        have HM4 := Lib.hid (show MpS w4 mb c2 m from hM4)
        have HB4 := Lib.hid (HB3.out.trans (But2.of_grown hg4 (fun r e => .inr (Option.some.inj e).symm)))
        have HK4 := Lib.hid (h2.grown hg4 (fun e => hmb (Option.some.inj e).symm))
        clear hG h1 h2 h4 hM4 hg4 hr
        go_wp2_with fail
        go_ret
        exact LkGot.ok HR3.out HB4.out HK4.out (by omega) HM4.out (by omega) h6 h7
      · have HB3 := Lib.hid (HGB.out.trans h2); have HR3 := Lib.hid (HR2.out.trans hr)
        obtain rfl := h1
        clear hG h2 hr
        go_wp2_with fail
        exact ⟨rfl, LkGot.halt HR3.out rfl HB3.out⟩
end
end Go.Proofs.YtgnomhbbbcfehaaGreatDoor
