/- A call's parts are read, each by the closure: contract. Printed by wip/mksp.py. -/
import Derived.Test.YtgnomhbbbcfehaaGreatDoorSs8
namespace Go.Proofs.YtgnomhbbbcfehaaGreatDoor
open Go.RowKit Go.Att Go.Shelf
theorem slParts : SlT Tryz.prog 150 83 1 8 (.pointer none) := SlT.mk' Tryz.underlying150 (by kernel_rfl) (by decide)
def addC (w0 : World) (b q lo : Nat) (R : Nat → World → Prop) (X : World → Prop) (cs : Value → List Value) (kv : Value) (vs0 : List Value) (ks : List Tr) (vp : List Value) (tp : List Tr) (r : Ps Tr) (i sc sb sa : Nat) : AddC :=
  { w0 := w0, b := b, q := q, lo := lo, R := R, X := X, cs := cs, T := 152, E := 83, kv := kv, vs0 := vs0, ks := ks, vp := vp, tp := tp, r := r, i := i, sc := sc, sb := sb, sa := sa }
structure CallInv (w0 : World) (b q lo xb rb : Nat) (s : List UInt8) (p : Nat) (W : World) (acc : List Tr) : Prop where
  g : w0.grownBy W (some b)
  cx : W.cell? ⟨xb, 0, none⟩ = some (.pointer (some ⟨q, 0, none⟩))
  cr : W.cell? ⟨rb, 0, none⟩ = some (.pointer (some ⟨b, 0, none⟩))
  lw : lo ≤ W.heap.size
  node : ∃ kv vs, BlkOf W q (pcells 11 0 s kv p) 152 ∧ KidsIn 152 83 lo W kv vs acc
section
variable {wz w0 w : World} {b q lo xb rb : Nat} {L : List UInt8} {i lv : Nat} {s : List UInt8} {p : Nat}
set_option maxRecDepth 100000 in
set_option maxHeartbeats 16000000 in
theorem spart1_any {f : Nat → Ps Tr} (hE : ReadsBy wz 56 b L lv f) (hxz : Ext wz w0) (hwb : wz.heap.size ≤ b) (hbq : b ≠ q) (hqx : q < xb) (hrb : rb < q ∧ rb ≠ b) (hxl : xb < lo) (hbr : b < rb) (hw : w0.heap.size ≤ q) {acc : List Tr} (hac : acc.length ≤ 4000) (h : RdAt w b L i lv) (hI : CallInv w0 b q lo xb rb s p w acc) :
    Calls Tryz.prog 186 #[.pointer (some ⟨xb, 0, none⟩), .pointer (some ⟨rb, 0, none⟩)] w (LsGot w0 b L lv (fun w' x => CallInv w0 b q lo xb rb s p w' (acc ++ [x])) (f i)) := by
  obtain ⟨kv, vs0, hB, hKI⟩ := hI.node
  have OK : Hid (AddOk (addC w0 b q lo (fun j W => RdAt W b L j lv) (fun W => W.cell? ⟨xb, 0, none⟩ = some (.pointer (some ⟨q, 0, none⟩)) ∧ W.cell? ⟨rb, 0, none⟩ = some (.pointer (some ⟨b, 0, none⟩))) (fun u => pcells 11 0 s u p) kv vs0 acc [] [] (f i) i 8 9 10)) := Lib.hid ⟨fun W W' row hX hg hr => ⟨hg.cell hX.1 (fun e => by rcases hr _ e.symm with e | e | e <;> (dsimp only [addC] at e; omega)), hg.cell hX.2 (fun e => by rcases hr _ e.symm with e | e | e <;> (dsimp only [addC] at e; omega))⟩, fun j W W' row hR hg hr => ⟨BlkOf.grown hR.blk hg (fun e => hr _ e.symm rfl), hR.le⟩, hbq, by show b < lo; omega, by show q < lo; omega, hw, by show acc.length + 0 + 1 ≤ 65536; omega⟩
  have HAI0 : Hid (AddI (addC w0 b q lo (fun j W => RdAt W b L j lv) (fun W => W.cell? ⟨xb, 0, none⟩ = some (.pointer (some ⟨q, 0, none⟩)) ∧ W.cell? ⟨rb, 0, none⟩ = some (.pointer (some ⟨b, 0, none⟩))) (fun u => pcells 11 0 s u p) kv vs0 acc [] [] (f i) i 8 9 10) 4 6 7 8 11 (fun _ => false) (fun d => (#[.pointer (some ⟨xb, 0, none⟩), .pointer (some ⟨rb, 0, none⟩), undef, undef, undef, undef, undef, undef, undef, undef, undef, undef, undef] : Array Value).getD d undef) w.drew) := Lib.hid (by
    have hx := Ext.drew w
    refine ⟨fun h => (by cases h), fun h => (by cases h), fun h => (by cases h), fun h => (by cases h), grown_ext hI.g hx, Nat.le_trans hI.lw hx.size, ⟨hx.cell hI.cx, hx.cell hI.cr⟩, ?_⟩
    exact ⟨h.ext hx, hB.ext hx, hKI.kept (hx.grownBy none) (by simp), .nil⟩)
  have HE := Lib.hid hE; have HXZ := Lib.hid hxz; have HWB := Lib.hid hwb
  clear hE h hI hB hKI hxz hwb
  go_enter Tryz.func186, Tryz.ntmps186
  go_upto_region 0 with fail
  refine wp_region_halt (fun c w'' => LsGot w0 b L lv (fun w' x => CallInv w0 b q lo xb rb s p w' (acc ++ [x])) (f i) (.panicked c) w'') ?_ ?_
  · intro c a w'' hd hR
    go_wp2_with fail
    exact ⟨hd, hR⟩
  refine wp_region_mark 12 rfl (phiE [some (.pointer (some ⟨q, 0, none⟩)), some (.pointer (some ⟨q, 0, none⟩)), some (.pointer (some ⟨q, 0, none⟩)), some (.pointer (some ⟨q, 3, none⟩)), some kv, some (.pointer (some ⟨b, 0, none⟩)), none, none, none, some (.pointer (some ⟨q, 0, none⟩)), some (.pointer (some ⟨q, 3, none⟩)), none]) [4, 6, 7, 8, 11] (AddI (addC w0 b q lo (fun j W => RdAt W b L j lv) (fun W => W.cell? ⟨xb, 0, none⟩ = some (.pointer (some ⟨q, 0, none⟩)) ∧ W.cell? ⟨rb, 0, none⟩ = some (.pointer (some ⟨b, 0, none⟩))) (fun u => pcells 11 0 s u p) kv vs0 acc [] [] (f i) i 8 9 10) 4 6 7 8 11) (fun _ _ => True) (by kernel_rfl) (by kernel_rfl) (by kernel_rfl) (fun j _ u W W' hu _ => phiE_stab _ j u W W' hu) (fun j hj hd u W => by have hj2 : j = 4 ∨ j = 6 ∨ j = 7 ∨ j = 8 ∨ j = 11 := (by simpa using hj); rcases hj2 with rfl | rfl | rfl | rfl | rfl <;> first | exact phiE_top _ _ rfl _ _ | (simp at hd)) (fun s s' vs vs' W W' h hg hs hv => h.free OK.out hg (hs 4 rfl) (hs 6 rfl) (hs 7 rfl) (hs 8 rfl) (hs 11 rfl) (hv 6 rfl 8 rfl) (hv 7 rfl 9 rfl) (hv 8 rfl 10 rfl)) ?_ (by kernel_rfl) ?_ ?_
  · exact HAI0.out
  · refine ⟨?_, ?_, ?_, ?_, ?_, ?_, ?_, ?_, ?_, ?_, ?_, ?_, trivial⟩
    · refine bifF rfl (FreeStep.mk rfl fun vs W hk hd => ?_)
      clear hd
      obtain ⟨_, s, hS⟩ := hk
      have hc0 := hS.x.1
      clear hS
      simp only [fillA, fillL, dstL, List.take_succ_cons, List.take_zero, List.filterMap_cons, List.filterMap_nil, List.contains_cons, List.contains_nil, Nat.reduceAdd, Nat.zero_add, Nat.reduceBEq, Bool.or_false, Bool.or_true, Bool.false_eq_true, ↓reduceIte]
      go_wp2_with fail
      exact ⟨by trivial, World.grownBy.refl _ _, rfl⟩
    · refine bifF rfl (FreeStep.mk rfl fun vs W hk hd => ?_)
      clear hd
      obtain ⟨_, s, hS⟩ := hk
      have hc0 := hS.x.1
      clear hS
      simp only [fillA, fillL, dstL, List.take_succ_cons, List.take_zero, List.filterMap_cons, List.filterMap_nil, List.contains_cons, List.contains_nil, Nat.reduceAdd, Nat.zero_add, Nat.reduceBEq, Bool.or_false, Bool.or_true, Bool.false_eq_true, ↓reduceIte]
      go_wp2_with fail
      exact ⟨by trivial, World.grownBy.refl _ _, rfl⟩
    · refine bifF rfl (FreeStep.mk rfl fun vs W hk hd => ?_)
      have e3 : vs 3 = (.pointer (some ⟨q, 0, none⟩)) := hd 1 (by kernel_rfl)
      clear hd
      obtain ⟨_, s, hS⟩ := hk
      clear hS
      simp only [fillA, fillL, dstL, List.take_succ_cons, List.take_zero, List.filterMap_cons, List.filterMap_nil, List.contains_cons, List.contains_nil, Nat.reduceAdd, Nat.zero_add, Nat.reduceBEq, Bool.or_false, Bool.or_true, Bool.false_eq_true, ↓reduceIte]
      rw [e3]
      go_wp2_with fail
      exact ⟨by trivial, World.grownBy.refl _ _, rfl⟩
    · refine bifF rfl (FreeStep.mk rfl fun vs W hk hd => ?_)
      have e4 : vs 4 = (.pointer (some ⟨q, 0, none⟩)) := hd 2 (by kernel_rfl)
      clear hd
      obtain ⟨_, s, hS⟩ := hk
      clear hS
      simp only [fillA, fillL, dstL, List.take_succ_cons, List.take_zero, List.filterMap_cons, List.filterMap_nil, List.contains_cons, List.contains_nil, Nat.reduceAdd, Nat.zero_add, Nat.reduceBEq, Bool.or_false, Bool.or_true, Bool.false_eq_true, ↓reduceIte]
      rw [e4]
      go_wp2_with fail
      exact ⟨by trivial, World.grownBy.refl _ _, rfl⟩
    · refine bifT rfl (MarkStep.mk rfl fun s vs W hS hi hdp hd => ?_)
      have e5 : vs 5 = (.pointer (some ⟨q, 3, none⟩)) := hd 3 (by kernel_rfl)
      clear hd
      have hk3 : W.cell? ⟨q, 3, none⟩ = some kv := (AddI.node hS hi).cell 3
      simp only [fillA, fillL, dstL, List.take_succ_cons, List.take_zero, List.filterMap_cons, List.filterMap_nil, List.contains_cons, List.contains_nil, Nat.reduceAdd, Nat.zero_add, Nat.reduceBEq, Bool.or_false, Bool.or_true, Bool.false_eq_true, ↓reduceIte]
      rw [e5]
      go_wp2_with fail
      exact ⟨by trivial, trivial, AddI.loaded OK.out hS (by decide) (World.grownBy.refl _ _) rfl rfl rfl, rfl⟩
    · refine bifF rfl (FreeStep.mk rfl fun vs W hk hd => ?_)
      clear hd
      obtain ⟨_, s, hS⟩ := hk
      have hc1 := hS.x.2
      clear hS
      simp only [fillA, fillL, dstL, List.take_succ_cons, List.take_zero, List.filterMap_cons, List.filterMap_nil, List.contains_cons, List.contains_nil, Nat.reduceAdd, Nat.zero_add, Nat.reduceBEq, Bool.or_false, Bool.or_true, Bool.false_eq_true, ↓reduceIte]
      go_wp2_with fail
      exact ⟨by trivial, World.grownBy.refl _ _, rfl⟩
    · refine bifT rfl (MarkStep.mk rfl fun s vs W hS hi hdp hd => ?_)
      have e7 : vs 7 = (.pointer (some ⟨b, 0, none⟩)) := hd 5 (by kernel_rfl)
      clear hd
      have hg0 := hS.g
      simp only [fillA, fillL, dstL, List.take_succ_cons, List.take_zero, List.filterMap_cons, List.filterMap_nil, List.contains_cons, List.contains_nil, Nat.reduceAdd, Nat.zero_add, Nat.reduceBEq, Bool.or_false, Bool.or_true, Bool.false_eq_true, ↓reduceIte]
      rw [e7]
      go_wp2_with fail
      refine (HE.out W _ (AddI.place hS hi) (ext_turn HXZ.out hg0 HWB.out)).mono ?_
      intro e w3 h3
      rcases h3.cases with ⟨a, k, hr, he, hg⟩ | ⟨x, j, v, hr, rfl, hr1, hg1, ht1⟩
      · subst he
        go_wp2_with fail
        exact OrHalt.panic rfl (LsGot.bad hr ⟨rfl, grown_one hg0 hg⟩)
      · go_wp2_with fail
        exact ⟨by trivial, trivial, AddI.called OK.out hS hi (by decide) hr hr1 hg1 ht1 rfl, trivial⟩
    · refine bifT rfl (MarkStep.mk rfl fun s vs W hS hi hdp hd => ?_)
      clear hd
      obtain ⟨p1, hp1⟩ := hS.ptr (hdp 6 (by kernel_rfl)) hi rfl
      replace hp1 : vs 8 = .pointer (some ⟨p1, 0, none⟩) := hp1
      simp only [fillA, fillL, dstL, List.take_succ_cons, List.take_zero, List.filterMap_cons, List.filterMap_nil, List.contains_cons, List.contains_nil, Nat.reduceAdd, Nat.zero_add, Nat.reduceBEq, Bool.or_false, Bool.or_true, Bool.false_eq_true, ↓reduceIte]
      rw [hp1]
      go_wp2_with fail
      exact ⟨by trivial, trivial, AddI.built OK.out hS (hdp 6 (by kernel_rfl)) hi (by decide) (congrArg (fun u => W.alloc (.cells #[u] 83)) hp1.symm) rfl rfl, trivial⟩
    · refine bifT rfl (MarkStep.mk rfl fun s vs W hS hi hdp hd => ?_)
      have e6 : vs 6 = kv := hd 4 (by kernel_rfl)
      clear hd
      obtain ⟨ho, z, hz, hzb, h1⟩ := hS.row (hdp 7 (by kernel_rfl)) hi
      replace hz : vs 9 = _ := hz
      have hlw := hS.lw
      simp only [fillA, fillL, dstL, List.take_succ_cons, List.take_zero, List.filterMap_cons, List.filterMap_nil, List.contains_cons, List.contains_nil, Nat.reduceAdd, Nat.zero_add, Nat.reduceBEq, Bool.or_false, Bool.or_true, Bool.false_eq_true, ↓reduceIte]
      rw [e6, hz]
      go_wp2_with (at_builtin; refine wpList_appBlk rfl _ _ 150 rfl slParts rfl hlw ho rfl hzb h1 rfl (by have := OK.out.small; simp at this ⊢; omega) (by decide) ?_; intro v' w' k1 k2 k3)
      exact ⟨by trivial, trivial, AddI.appd OK.out hS (hdp 4 (by kernel_rfl)) (hdp 7 (by kernel_rfl)) hi (by decide) k1 k2 k3 rfl, trivial⟩
    · refine bifF rfl (FreeStep.mk rfl fun vs W hk hd => ?_)
      have e2 : vs 2 = (.pointer (some ⟨q, 0, none⟩)) := hd 0 (by kernel_rfl)
      clear hd
      obtain ⟨_, s, hS⟩ := hk
      clear hS
      simp only [fillA, fillL, dstL, List.take_succ_cons, List.take_zero, List.filterMap_cons, List.filterMap_nil, List.contains_cons, List.contains_nil, Nat.reduceAdd, Nat.zero_add, Nat.reduceBEq, Bool.or_false, Bool.or_true, Bool.false_eq_true, ↓reduceIte]
      rw [e2]
      go_wp2_with fail
      exact ⟨by trivial, World.grownBy.refl _ _, rfl⟩
    · refine bifF rfl (FreeStep.mk rfl fun vs W hk hd => ?_)
      have e11 : vs 11 = (.pointer (some ⟨q, 0, none⟩)) := hd 9 (by kernel_rfl)
      clear hd
      obtain ⟨_, s, hS⟩ := hk
      clear hS
      simp only [fillA, fillL, dstL, List.take_succ_cons, List.take_zero, List.filterMap_cons, List.filterMap_nil, List.contains_cons, List.contains_nil, Nat.reduceAdd, Nat.zero_add, Nat.reduceBEq, Bool.or_false, Bool.or_true, Bool.false_eq_true, ↓reduceIte]
      rw [e11]
      go_wp2_with fail
      exact ⟨by trivial, World.grownBy.refl _ _, rfl⟩
    · refine bifT rfl (MarkStep.mk rfl fun s vs W hS hi hdp hd => ?_)
      have e12 : vs 12 = (.pointer (some ⟨q, 3, none⟩)) := hd 10 (by kernel_rfl)
      clear hd
      obtain ⟨hbk, ao, nn, cap, hsa⟩ := hS.node3 (hdp 8 (by kernel_rfl)) hi
      replace hsa : vs 10 = .slice ao nn cap := hsa
      have hk3 : W.cell? ⟨q, 3, none⟩ = some kv := hbk.cell 3
      have hf3 : W.frozen? ⟨q, 3, none⟩ = false := hbk.free 3
      simp only [fillA, fillL, dstL, List.take_succ_cons, List.take_zero, List.filterMap_cons, List.filterMap_nil, List.contains_cons, List.contains_nil, Nat.reduceAdd, Nat.zero_add, Nat.reduceBEq, Bool.or_false, Bool.or_true, Bool.false_eq_true, ↓reduceIte]
      rw [e12, hsa]
      go_wp2_with fail
      exact ⟨by trivial, trivial, AddI.stored OK.out hS (hdp 8 (by kernel_rfl)) hi (by decide) (f := 3) (fun _ => rfl) (congrArg (fun u => W.setCell ⟨q, 3, none⟩ u) hsa.symm), trivial⟩
  · intro s vs w5 hall hs hS
    obtain ⟨hg5, hx5, hl5, y5, j5, us5, kv5, hr5, hR5, hB5, hK5⟩ := AddI.end_ hS (hs 11 rfl)
    have HG5 := Lib.hid hg5; have HX5 := Lib.hid hx5; have HL5 := Lib.hid hl5; have HR5 := Lib.hid hr5; have HRD5 := Lib.hid hR5; have HB5 := Lib.hid hB5; have HK5 := Lib.hid hK5
    clear hg5 hx5 hl5 hr5 hR5 hB5 hK5 hS hs hall
    refine OrHalt.normal ?_
    simp only [fillA, fillL, dstL, List.take_succ_cons, List.take_zero, List.filterMap_cons, List.filterMap_nil, List.contains_cons, List.contains_nil, Nat.reduceAdd, Nat.zero_add, Nat.reduceBEq, Bool.or_false, Bool.or_true, Bool.false_eq_true, ↓reduceIte]
    go_wp2_with fail
    go_end0
    exact LsGot.ok HR5.out HRD5.out ⟨HG5.out, HX5.out.1, HX5.out.2, HL5.out, kv5, us5, HB5.out, HK5.out⟩
end
end Go.Proofs.YtgnomhbbbcfehaaGreatDoor
