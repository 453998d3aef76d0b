/- A function's names are read, each by the closure: contract. Printed by wip/mkfn.py. -/
import Derived.Test.YtgnomhbbbcfehaaGreatDoorSse
namespace Go.Proofs.YtgnomhbbbcfehaaGreatDoor
open Go.RowKit Go.Att Go.Shelf
theorem slStrs : SlT Tryz.prog 48 9 1 16 (.string ⟨#[]⟩) := SlT.mk' Tryz.underlying48 (by kernel_rfl) (by decide)
theorem slIntsS : SlT Tryz.prog 22 3 1 8 (.int .i64 0) := SlT.mk' Tryz.underlying22 (by kernel_rfl) (by decide)
def fcells (nm : List UInt8) (nv bv : Value) (ps : Nat) (av : Value) : List Value := [strV nm, nv, bv, .int .i64 ps, av]
def funC (w0 : World) (b q lo : Nat) (X : World → Prop) (nm : List UInt8) (ps : Nat) (nv av : Value) (acc : List (List UInt8 × Nat)) (x : List UInt8 × Nat) : TwoC :=
  { w0 := w0, b := b, q := q, lo := lo, X := X, cs := fun u v => fcells nm u (.pointer none) ps v, T := 85, e1 := 9, v1 := nv, xs1 := acc.map fun y => strV y.1, n1 := acc.length, u1 := strV x.1, b1 := 16, a1 := 17, e2 := 3, v2 := av, xs2 := acc.map fun y => .int .i64 y.2, n2 := acc.length, u2 := .int .i64 x.2, b2 := 23, a2 := 24 }
structure FunInv (w0 : World) (b q lo fb rb : Nat) (nm : List UInt8) (ps : Nat) (W : World) (acc : List (List UInt8 × Nat)) : Prop where
  g : w0.grownBy W (some b)
  cx : W.cell? ⟨fb, 0, none⟩ = some (.pointer (some ⟨q, 0, none⟩))
  cr : W.cell? ⟨rb, 0, none⟩ = some (.pointer (some ⟨b, 0, none⟩))
  lw : lo ≤ W.heap.size
  node : ∃ nv av, BlkOf W q (fcells nm nv (.pointer none) ps av) 85 ∧ W.ownsRow lo 9 1 nv acc.length (acc.map fun y => strV y.1) ∧ W.ownsRow lo 3 1 av acc.length (acc.map fun y => .int .i64 y.2)
section
variable {wz w0 w : World} {b q lo fb rb : Nat} {L : List UInt8} {i lv : Nat} {nm : List UInt8} {ps : Nat}
set_option maxRecDepth 100000 in
set_option maxHeartbeats 16000000 in
theorem sfun1_any (hL : L.length ≤ 4000) (hbq : b ≠ q) (hqx : q < fb) (hrb : rb < q ∧ rb ≠ b) (hxl : fb < lo) (hbr : b < rb) (hw : w0.heap.size ≤ q) {acc : List (List UInt8 × Nat)} (hac : acc.length ≤ 4000) (h : RdAt w b L i lv) (hI : FunInv w0 b q lo fb rb nm ps w acc) :
    Calls Tryz.prog 55 #[.pointer (some ⟨rb, 0, none⟩), .pointer (some ⟨fb, 0, none⟩)] w (LsGot w0 b L lv (fun w' x => FunInv w0 b q lo fb rb nm ps w' (acc ++ [x])) (nameT L i)) := by
  have hcr := hI.cr
  have HN := Lib.hid (sname_any h hL)
  have HI := Lib.hid hI
  have HAC := Lib.hid hac
  clear h hI hac
  go_enter Tryz.func55, Tryz.ntmps55
  go_wp2_with fail
  refine HN.out.mono ?_
  intro e w3 h3
  rcases h3.cases with ⟨a, k, hr, he, hg⟩ | ⟨x, j, v, hr, rfl, hr3, hg3, rfl⟩
  · subst he
    go_wp2_with fail
    exact ⟨rfl, LsGot.bad hr ⟨rfl, grown_one HI.out.g hg⟩⟩
  obtain ⟨nv, av, hB, h1, h2⟩ := HI.out.node
  have hg30 := grown_one HI.out.g hg3
  have hcx3 := hg3.cell HI.out.cx (by simp; omega)
  have hcr3 := hg3.cell HI.out.cr (by simp; omega)
  have hlw3 := Nat.le_trans HI.out.lw hg3.size
  have hB3 := hB.grown hg3 (by simp; omega)
  have h13 := own_kept h1 hg3 (fun A hA e => by have := (own_blk h1 hA).1; have := Option.some.inj e; omega)
  have h23 := own_kept h2 hg3 (fun A hA e => by have := (own_blk h2 hA).1; have := Option.some.inj e; omega)
  have OK : Hid (TwoOk (funC w0 b q lo (fun W => W.cell? ⟨fb, 0, none⟩ = some (.pointer (some ⟨q, 0, none⟩)) ∧ W.cell? ⟨rb, 0, none⟩ = some (.pointer (some ⟨b, 0, none⟩)) ∧ RdAt W b L j lv) nm ps nv av acc x)) := Lib.hid ⟨fun W W' row hX hg hr => ⟨hg.cell hX.1 (fun e => by rcases hr _ e.symm with e | e <;> (dsimp only [funC] at e; omega)), hg.cell hX.2.1 (fun e => by rcases hr _ e.symm with e | e <;> (dsimp only [funC] at e; omega)), ⟨BlkOf.grown hX.2.2.blk hg (fun e => by rcases hr _ e.symm with e | e <;> (dsimp only [funC] at e; omega)), hX.2.2.le⟩⟩, hbq, by show b < lo; omega, by show q < lo; omega, hw, by show (9 : Nat) ≠ 3; decide⟩
  have HI0 : Hid (∀ vs, (TwoI (funC w0 b q lo (fun W => W.cell? ⟨fb, 0, none⟩ = some (.pointer (some ⟨q, 0, none⟩)) ∧ W.cell? ⟨rb, 0, none⟩ = some (.pointer (some ⟨b, 0, none⟩)) ∧ RdAt W b L j lv) nm ps nv av acc x) 5 7 8 18 12 14 15 21) (fun _ => false) vs w3.drew) := Lib.hid (fun vs => by
    have hx := Ext.drew w3
    exact ⟨fun h => (by cases h), fun h => (by cases h), fun h => (by cases h), fun h => (by cases h), fun h => (by cases h), fun h => (by cases h), grown_ext hg30 hx, Nat.le_trans hlw3 hx.size, ⟨hx.cell hcx3, hx.cell hcr3, hr3.ext hx⟩, ⟨fun h => (by cases h), fun _ => own_ext h13 hx, fun h => (by cases h)⟩, ⟨fun h => (by cases h), fun _ => own_ext h23 hx, fun h => (by cases h)⟩, hB3.ext hx⟩)
  have HR := Lib.hid hr
  clear h3 hr hr3 hg3 hB h1 h2 hg30 hcx3 hcr3 hlw3 hB3 h13 h23 HI HN hcr
  go_upto_region 1 with fail
  refine wp_region_mark 22 rfl (phiE [some (.pointer (some ⟨q, 0, none⟩)), some (.pointer (some ⟨q, 0, none⟩)), some (.pointer (some ⟨q, 0, none⟩)), some (.pointer (some ⟨q, 0, none⟩)), some (.pointer (some ⟨q, 1, none⟩)), some nv, some (.string ⟨x.1.toArray⟩), none, none, some (.pointer (some ⟨q, 0, none⟩)), some (.pointer (some ⟨q, 0, none⟩)), some (.pointer (some ⟨q, 4, none⟩)), some av, some (.int .i64 x.2), none, none, some (.pointer (some ⟨q, 0, none⟩)), some (.pointer (some ⟨q, 1, none⟩)), none, some (.pointer (some ⟨q, 0, none⟩)), some (.pointer (some ⟨q, 4, none⟩)), none]) [5, 7, 8, 18, 12, 14, 15, 21] (TwoI (funC w0 b q lo (fun W => W.cell? ⟨fb, 0, none⟩ = some (.pointer (some ⟨q, 0, none⟩)) ∧ W.cell? ⟨rb, 0, none⟩ = some (.pointer (some ⟨b, 0, none⟩)) ∧ RdAt W b L j lv) nm ps nv av acc x) 5 7 8 18 12 14 15 21) (fun _ _ => True) (by kernel_rfl) (by kernel_rfl) (by kernel_rfl) (fun j _ u W W' hu _ => phiE_stab _ j u W W' hu) (fun j hj hd u W => by have hj2 : j = 5 ∨ j = 7 ∨ j = 8 ∨ j = 18 ∨ j = 12 ∨ j = 14 ∨ j = 15 ∨ j = 21 := (by simpa using hj); rcases hj2 with rfl | rfl | rfl | rfl | rfl | rfl | rfl | rfl <;> first | exact phiE_top _ _ rfl _ _ | (simp at hd)) (fun s s' vs vs' W W' h hg hs hv => h.free OK.out hg (hs 5 rfl) (hs 7 rfl) (hs 8 rfl) (hs 18 rfl) (hs 12 rfl) (hs 14 rfl) (hs 15 rfl) (hs 21 rfl) (hv 7 rfl 16 rfl) (hv 8 rfl 17 rfl) (hv 14 rfl 23 rfl) (hv 15 rfl 24 rfl)) ?_ (by kernel_rfl) ?_ ?_
  · exact HI0.out _
  · refine ⟨?_, ?_, ?_, ?_, ?_, ?_, ?_, ?_, ?_, ?_, ?_, ?_, ?_, ?_, ?_, ?_, ?_, ?_, ?_, ?_, ?_, ?_, trivial⟩
    · refine bifF rfl (FreeStep.mk rfl fun vs W hk hd => ?_)
      clear hd
      obtain ⟨_, s, hS⟩ := hk
      have hc0 := hS.x.1
      clear hS
      simp only [fillA, fillL, dstL, List.take_succ_cons, List.take_zero, List.filterMap_cons, List.filterMap_nil, List.contains_cons, List.contains_nil, Nat.reduceAdd, Nat.zero_add, Nat.reduceBEq, Bool.or_false, Bool.or_true, Bool.false_eq_true, ↓reduceIte]
      go_wp2_with fail
      exact ⟨by trivial, World.grownBy.refl _ _, rfl⟩
    · refine bifF rfl (FreeStep.mk rfl fun vs W hk hd => ?_)
      clear hd
      obtain ⟨_, s, hS⟩ := hk
      have hc0 := hS.x.1
      clear hS
      simp only [fillA, fillL, dstL, List.take_succ_cons, List.take_zero, List.filterMap_cons, List.filterMap_nil, List.contains_cons, List.contains_nil, Nat.reduceAdd, Nat.zero_add, Nat.reduceBEq, Bool.or_false, Bool.or_true, Bool.false_eq_true, ↓reduceIte]
      go_wp2_with fail
      exact ⟨by trivial, World.grownBy.refl _ _, rfl⟩
    · refine bifF rfl (FreeStep.mk rfl fun vs W hk hd => ?_)
      clear hd
      obtain ⟨_, s, hS⟩ := hk
      have hc0 := hS.x.1
      clear hS
      simp only [fillA, fillL, dstL, List.take_succ_cons, List.take_zero, List.filterMap_cons, List.filterMap_nil, List.contains_cons, List.contains_nil, Nat.reduceAdd, Nat.zero_add, Nat.reduceBEq, Bool.or_false, Bool.or_true, Bool.false_eq_true, ↓reduceIte]
      go_wp2_with fail
      exact ⟨by trivial, World.grownBy.refl _ _, rfl⟩
    · refine bifF rfl (FreeStep.mk rfl fun vs W hk hd => ?_)
      have e11 : vs 11 = (.pointer (some ⟨q, 0, none⟩)) := hd 2 (by kernel_rfl)
      clear hd
      obtain ⟨_, s, hS⟩ := hk
      clear hS
      simp only [fillA, fillL, dstL, List.take_succ_cons, List.take_zero, List.filterMap_cons, List.filterMap_nil, List.contains_cons, List.contains_nil, Nat.reduceAdd, Nat.zero_add, Nat.reduceBEq, Bool.or_false, Bool.or_true, Bool.false_eq_true, ↓reduceIte]
      rw [e11]
      go_wp2_with fail
      exact ⟨by trivial, World.grownBy.refl _ _, rfl⟩
    · refine bifF rfl (FreeStep.mk rfl fun vs W hk hd => ?_)
      have e12 : vs 12 = (.pointer (some ⟨q, 0, none⟩)) := hd 3 (by kernel_rfl)
      clear hd
      obtain ⟨_, s, hS⟩ := hk
      clear hS
      simp only [fillA, fillL, dstL, List.take_succ_cons, List.take_zero, List.filterMap_cons, List.filterMap_nil, List.contains_cons, List.contains_nil, Nat.reduceAdd, Nat.zero_add, Nat.reduceBEq, Bool.or_false, Bool.or_true, Bool.false_eq_true, ↓reduceIte]
      rw [e12]
      go_wp2_with fail
      exact ⟨by trivial, World.grownBy.refl _ _, rfl⟩
    · refine bifT rfl (MarkStep.mk rfl fun s vs W hS hi hdp hd => ?_)
      have e13 : vs 13 = (.pointer (some ⟨q, 1, none⟩)) := hd 4 (by kernel_rfl)
      clear hd
      have hk3 : W.cell? ⟨q, 1, none⟩ = some nv := (TwoI.load1 hS hi).cell 1
      simp only [fillA, fillL, dstL, List.take_succ_cons, List.take_zero, List.filterMap_cons, List.filterMap_nil, List.contains_cons, List.contains_nil, Nat.reduceAdd, Nat.zero_add, Nat.reduceBEq, Bool.or_false, Bool.or_true, Bool.false_eq_true, ↓reduceIte]
      rw [e13]
      go_wp2_with fail
      exact ⟨by trivial, trivial, TwoI.mark1 OK.out hS (World.grownBy.refl _ _) (by decide) rfl rfl rfl rfl, rfl⟩
    · refine bifF rfl (FreeStep.mk rfl fun vs W hk hd => ?_)
      clear hd
      obtain ⟨_, s, hS⟩ := hk
      clear hS
      simp only [fillA, fillL, dstL, List.take_succ_cons, List.take_zero, List.filterMap_cons, List.filterMap_nil, List.contains_cons, List.contains_nil, Nat.reduceAdd, Nat.zero_add, Nat.reduceBEq, Bool.or_false, Bool.or_true, Bool.false_eq_true, ↓reduceIte]
      go_wp2_with fail
      exact ⟨by trivial, World.grownBy.refl _ _, rfl⟩
    · refine bifT rfl (MarkStep.mk rfl fun s vs W hS hi hdp hd => ?_)
      have e15 : vs 15 = (.string ⟨x.1.toArray⟩) := hd 6 (by kernel_rfl)
      clear hd
      simp only [fillA, fillL, dstL, List.take_succ_cons, List.take_zero, List.filterMap_cons, List.filterMap_nil, List.contains_cons, List.contains_nil, Nat.reduceAdd, Nat.zero_add, Nat.reduceBEq, Bool.or_false, Bool.or_true, Bool.false_eq_true, ↓reduceIte]
      rw [e15]
      go_wp2_with fail
      exact ⟨by trivial, trivial, TwoI.built1 OK.out hS hi (by decide) rfl rfl rfl rfl rfl, trivial⟩
    · refine bifT rfl (MarkStep.mk rfl fun s vs W hS hi hdp hd => ?_)
      have e14 : vs 14 = nv := hd 5 (by kernel_rfl)
      clear hd
      obtain ⟨ho, z, hz, hzb⟩ := TwoI.row1 hS (hdp 7 (by kernel_rfl)) hi
      replace hz : vs 16 = .slice (some ⟨z, 0, none⟩) 1 1 := hz
      have hlw := hS.lw
      simp only [fillA, fillL, dstL, List.take_succ_cons, List.take_zero, List.filterMap_cons, List.filterMap_nil, List.contains_cons, List.contains_nil, Nat.reduceAdd, Nat.zero_add, Nat.reduceBEq, Bool.or_false, Bool.or_true, Bool.false_eq_true, ↓reduceIte]
      rw [e14, hz]
      go_wp2_with (at_builtin; refine wpList_appBlk rfl _ _ 48 rfl slStrs rfl hlw ho rfl hzb (by intro u hu; rw [List.mem_singleton.mp hu]; rfl) rfl (by show acc.length + 1 ≤ _; have := HAC.out; omega) (by decide) ?_; intro v' w' k1 k2 k3)
      exact ⟨by trivial, trivial, TwoI.appd1 OK.out hS (hdp 5 (by kernel_rfl)) (hdp 7 (by kernel_rfl)) hi (by decide) k1 k2 rfl rfl rfl rfl, trivial⟩
    · refine bifF rfl (FreeStep.mk rfl fun vs W hk hd => ?_)
      clear hd
      obtain ⟨_, s, hS⟩ := hk
      have hc0 := hS.x.1
      clear hS
      simp only [fillA, fillL, dstL, List.take_succ_cons, List.take_zero, List.filterMap_cons, List.filterMap_nil, List.contains_cons, List.contains_nil, Nat.reduceAdd, Nat.zero_add, Nat.reduceBEq, Bool.or_false, Bool.or_true, Bool.false_eq_true, ↓reduceIte]
      go_wp2_with fail
      exact ⟨by trivial, World.grownBy.refl _ _, rfl⟩
    · refine bifF rfl (FreeStep.mk rfl fun vs W hk hd => ?_)
      have e18 : vs 18 = (.pointer (some ⟨q, 0, none⟩)) := hd 9 (by kernel_rfl)
      clear hd
      obtain ⟨_, s, hS⟩ := hk
      clear hS
      simp only [fillA, fillL, dstL, List.take_succ_cons, List.take_zero, List.filterMap_cons, List.filterMap_nil, List.contains_cons, List.contains_nil, Nat.reduceAdd, Nat.zero_add, Nat.reduceBEq, Bool.or_false, Bool.or_true, Bool.false_eq_true, ↓reduceIte]
      rw [e18]
      go_wp2_with fail
      exact ⟨by trivial, World.grownBy.refl _ _, rfl⟩
    · refine bifF rfl (FreeStep.mk rfl fun vs W hk hd => ?_)
      have e19 : vs 19 = (.pointer (some ⟨q, 0, none⟩)) := hd 10 (by kernel_rfl)
      clear hd
      obtain ⟨_, s, hS⟩ := hk
      clear hS
      simp only [fillA, fillL, dstL, List.take_succ_cons, List.take_zero, List.filterMap_cons, List.filterMap_nil, List.contains_cons, List.contains_nil, Nat.reduceAdd, Nat.zero_add, Nat.reduceBEq, Bool.or_false, Bool.or_true, Bool.false_eq_true, ↓reduceIte]
      rw [e19]
      go_wp2_with fail
      exact ⟨by trivial, World.grownBy.refl _ _, rfl⟩
    · refine bifT rfl (MarkStep.mk rfl fun s vs W hS hi hdp hd => ?_)
      have e20 : vs 20 = (.pointer (some ⟨q, 4, none⟩)) := hd 11 (by kernel_rfl)
      clear hd
      have hk3 : W.cell? ⟨q, 4, none⟩ = some av := (TwoI.load2 hS hi).cell 4
      simp only [fillA, fillL, dstL, List.take_succ_cons, List.take_zero, List.filterMap_cons, List.filterMap_nil, List.contains_cons, List.contains_nil, Nat.reduceAdd, Nat.zero_add, Nat.reduceBEq, Bool.or_false, Bool.or_true, Bool.false_eq_true, ↓reduceIte]
      rw [e20]
      go_wp2_with fail
      exact ⟨by trivial, trivial, TwoI.mark2 OK.out hS (World.grownBy.refl _ _) (by decide) rfl rfl rfl rfl, rfl⟩
    · refine bifF rfl (FreeStep.mk rfl fun vs W hk hd => ?_)
      clear hd
      obtain ⟨_, s, hS⟩ := hk
      clear hS
      simp only [fillA, fillL, dstL, List.take_succ_cons, List.take_zero, List.filterMap_cons, List.filterMap_nil, List.contains_cons, List.contains_nil, Nat.reduceAdd, Nat.zero_add, Nat.reduceBEq, Bool.or_false, Bool.or_true, Bool.false_eq_true, ↓reduceIte]
      go_wp2_with fail
      exact ⟨by trivial, World.grownBy.refl _ _, rfl⟩
    · refine bifT rfl (MarkStep.mk rfl fun s vs W hS hi hdp hd => ?_)
      have e22 : vs 22 = (.int .i64 x.2) := hd 13 (by kernel_rfl)
      clear hd
      simp only [fillA, fillL, dstL, List.take_succ_cons, List.take_zero, List.filterMap_cons, List.filterMap_nil, List.contains_cons, List.contains_nil, Nat.reduceAdd, Nat.zero_add, Nat.reduceBEq, Bool.or_false, Bool.or_true, Bool.false_eq_true, ↓reduceIte]
      rw [e22]
      go_wp2_with fail
      exact ⟨by trivial, trivial, TwoI.built2 OK.out hS hi (by decide) rfl rfl rfl rfl rfl, trivial⟩
    · refine bifT rfl (MarkStep.mk rfl fun s vs W hS hi hdp hd => ?_)
      have e21 : vs 21 = av := hd 12 (by kernel_rfl)
      clear hd
      obtain ⟨ho, z, hz, hzb⟩ := TwoI.row2 hS (hdp 14 (by kernel_rfl)) hi
      replace hz : vs 23 = .slice (some ⟨z, 0, none⟩) 1 1 := hz
      have hlw := hS.lw
      simp only [fillA, fillL, dstL, List.take_succ_cons, List.take_zero, List.filterMap_cons, List.filterMap_nil, List.contains_cons, List.contains_nil, Nat.reduceAdd, Nat.zero_add, Nat.reduceBEq, Bool.or_false, Bool.or_true, Bool.false_eq_true, ↓reduceIte]
      rw [e21, hz]
      go_wp2_with (at_builtin; refine wpList_appBlk rfl _ _ 22 rfl slIntsS rfl hlw ho rfl hzb (by intro u hu; rw [List.mem_singleton.mp hu]; rfl) rfl (by show acc.length + 1 ≤ _; have := HAC.out; omega) (by decide) ?_; intro v' w' k1 k2 k3)
      exact ⟨by trivial, trivial, TwoI.appd2 OK.out hS (hdp 12 (by kernel_rfl)) (hdp 14 (by kernel_rfl)) hi (by decide) k1 k2 rfl rfl rfl rfl, trivial⟩
    · refine bifF rfl (FreeStep.mk rfl fun vs W hk hd => ?_)
      have e9 : vs 9 = (.pointer (some ⟨q, 0, none⟩)) := hd 0 (by kernel_rfl)
      clear hd
      obtain ⟨_, s, hS⟩ := hk
      clear hS
      simp only [fillA, fillL, dstL, List.take_succ_cons, List.take_zero, List.filterMap_cons, List.filterMap_nil, List.contains_cons, List.contains_nil, Nat.reduceAdd, Nat.zero_add, Nat.reduceBEq, Bool.or_false, Bool.or_true, Bool.false_eq_true, ↓reduceIte]
      rw [e9]
      go_wp2_with fail
      exact ⟨by trivial, World.grownBy.refl _ _, rfl⟩
    · refine bifF rfl (FreeStep.mk rfl fun vs W hk hd => ?_)
      have e25 : vs 25 = (.pointer (some ⟨q, 0, none⟩)) := hd 16 (by kernel_rfl)
      clear hd
      obtain ⟨_, s, hS⟩ := hk
      clear hS
      simp only [fillA, fillL, dstL, List.take_succ_cons, List.take_zero, List.filterMap_cons, List.filterMap_nil, List.contains_cons, List.contains_nil, Nat.reduceAdd, Nat.zero_add, Nat.reduceBEq, Bool.or_false, Bool.or_true, Bool.false_eq_true, ↓reduceIte]
      rw [e25]
      go_wp2_with fail
      exact ⟨by trivial, World.grownBy.refl _ _, rfl⟩
    · refine bifT rfl (MarkStep.mk rfl fun s vs W hS hi hdp hd => ?_)
      have e26 : vs 26 = (.pointer (some ⟨q, 1, none⟩)) := hd 17 (by kernel_rfl)
      clear hd
      obtain ⟨ao, nn, cap, hsa⟩ := TwoI.sl1 hS (hdp 8 (by kernel_rfl))
      replace hsa : vs 17 = .slice ao nn cap := hsa
      have hbk := hS.node
      have hk3 : ∃ u, W.cell? ⟨q, 1, none⟩ = some u := ⟨_, hbk.cell 1⟩
      obtain ⟨u3, hk3⟩ := hk3
      have hf3 : W.frozen? ⟨q, 1, none⟩ = false := hbk.free 1
      clear hbk
      simp only [fillA, fillL, dstL, List.take_succ_cons, List.take_zero, List.filterMap_cons, List.filterMap_nil, List.contains_cons, List.contains_nil, Nat.reduceAdd, Nat.zero_add, Nat.reduceBEq, Bool.or_false, Bool.or_true, Bool.false_eq_true, ↓reduceIte]
      rw [e26, hsa]
      go_wp2_with fail
      exact ⟨by trivial, trivial, TwoI.stored1 OK.out hS (hdp 8 (by kernel_rfl)) hi (by decide) (f := 1) (fun _ _ => rfl) (congrArg (fun u => W.setCell ⟨q, 1, none⟩ u) hsa.symm) rfl rfl rfl rfl, trivial⟩
    · refine bifF rfl (FreeStep.mk rfl fun vs W hk hd => ?_)
      have e10 : vs 10 = (.pointer (some ⟨q, 0, none⟩)) := hd 1 (by kernel_rfl)
      clear hd
      obtain ⟨_, s, hS⟩ := hk
      clear hS
      simp only [fillA, fillL, dstL, List.take_succ_cons, List.take_zero, List.filterMap_cons, List.filterMap_nil, List.contains_cons, List.contains_nil, Nat.reduceAdd, Nat.zero_add, Nat.reduceBEq, Bool.or_false, Bool.or_true, Bool.false_eq_true, ↓reduceIte]
      rw [e10]
      go_wp2_with fail
      exact ⟨by trivial, World.grownBy.refl _ _, rfl⟩
    · refine bifF rfl (FreeStep.mk rfl fun vs W hk hd => ?_)
      have e27 : vs 27 = (.pointer (some ⟨q, 0, none⟩)) := hd 19 (by kernel_rfl)
      clear hd
      obtain ⟨_, s, hS⟩ := hk
      clear hS
      simp only [fillA, fillL, dstL, List.take_succ_cons, List.take_zero, List.filterMap_cons, List.filterMap_nil, List.contains_cons, List.contains_nil, Nat.reduceAdd, Nat.zero_add, Nat.reduceBEq, Bool.or_false, Bool.or_true, Bool.false_eq_true, ↓reduceIte]
      rw [e27]
      go_wp2_with fail
      exact ⟨by trivial, World.grownBy.refl _ _, rfl⟩
    · refine bifT rfl (MarkStep.mk rfl fun s vs W hS hi hdp hd => ?_)
      have e28 : vs 28 = (.pointer (some ⟨q, 4, none⟩)) := hd 20 (by kernel_rfl)
      clear hd
      obtain ⟨ao, nn, cap, hsa⟩ := TwoI.sl2 hS (hdp 15 (by kernel_rfl))
      replace hsa : vs 24 = .slice ao nn cap := hsa
      have hbk := hS.node
      have hk3 : ∃ u, W.cell? ⟨q, 4, none⟩ = some u := ⟨_, hbk.cell 4⟩
      obtain ⟨u3, hk3⟩ := hk3
      have hf3 : W.frozen? ⟨q, 4, none⟩ = false := hbk.free 4
      clear hbk
      simp only [fillA, fillL, dstL, List.take_succ_cons, List.take_zero, List.filterMap_cons, List.filterMap_nil, List.contains_cons, List.contains_nil, Nat.reduceAdd, Nat.zero_add, Nat.reduceBEq, Bool.or_false, Bool.or_true, Bool.false_eq_true, ↓reduceIte]
      rw [e28, hsa]
      go_wp2_with fail
      exact ⟨by trivial, trivial, TwoI.stored2 OK.out hS (hdp 15 (by kernel_rfl)) hi (by decide) (f := 4) (fun _ _ => rfl) (congrArg (fun u => W.setCell ⟨q, 4, none⟩ u) hsa.symm) rfl rfl rfl rfl, trivial⟩
  · intro s vs w5 hall hs hS
    obtain ⟨hg5, hl5, hx5, h15, h25, hb5⟩ := TwoI.end_ hS (hs 18 rfl) (hs 21 rfl)
    have HG5 := Lib.hid hg5; have HX5 := Lib.hid hx5; have HL5 := Lib.hid hl5; have H15 := Lib.hid h15; have H25 := Lib.hid h25; have HB5 := Lib.hid hb5
    clear hg5 hx5 hl5 h15 h25 hb5 hS hs hall
    simp only [fillA, fillL, dstL, List.take_succ_cons, List.take_zero, List.filterMap_cons, List.filterMap_nil, List.contains_cons, List.contains_nil, Nat.reduceAdd, Nat.zero_add, Nat.reduceBEq, Bool.or_false, Bool.or_true, Bool.false_eq_true, ↓reduceIte]
    go_wp2_with fail
    go_end0
    refine LsGot.ok HR.out HX5.out.2.2 ⟨HG5.out, HX5.out.1, HX5.out.2.1, HL5.out, _, _, HB5.out, ?_, ?_⟩
    · have := H15.out; rw [List.length_append, List.map_append]; exact this
    · have := H25.out; rw [List.length_append, List.map_append]; exact this
end
end Go.Proofs.YtgnomhbbbcfehaaGreatDoor
