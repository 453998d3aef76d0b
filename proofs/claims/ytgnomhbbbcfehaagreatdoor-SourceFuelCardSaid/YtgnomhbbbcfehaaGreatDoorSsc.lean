/- A text's reader, the program's side: expressions: contracts. Printed by wip/mkex.py. -/
import Derived.Test.YtgnomhbbbcfehaaGreatDoorSsb
namespace Go.Proofs.YtgnomhbbbcfehaaGreatDoor
open Go.RowKit Go.Att Go.Shelf
section
variable {wz w : World} {b : Nat} {L : List UInt8} {i lv : Nat}
theorem add_ok {w : World} {b q : Nat} {L : List UInt8} {lv : Nat} (cs : Value → List Value) (kv : Value) (vs0 : List Value) (ks : List Tr) (vp : List Value) (tp : List Tr) (r : Ps Tr) (i sc sb sa : Nat) (hbq : b < q) (hw : w.heap.size ≤ q) (hs : ks.length + vp.length + 1 ≤ 65536) :
    AddOk (addC w b q (q + 1) (fun j W => RdAt W b L j (lv + 1)) (fun _ => True) cs kv vs0 ks vp tp r i sc sb sa) :=
  ⟨fun _ _ _ _ _ _ => trivial, fun _j _W _W' _row hR hg hr => ⟨BlkOf.grown hR.blk hg (fun e => hr _ e.symm rfl), hR.le⟩, Nat.ne_of_lt hbq, Nat.lt_succ_of_lt hbq, Nat.lt_succ_self q, hw, hs⟩
theorem add_i0 {w W : World} {b q : Nat} {L : List UInt8} {lv : Nat} {cs : Value → List Value} {kv : Value} {vs0 : List Value} {ks : List Tr} {vp : List Value} {tp : List Tr} {r : Ps Tr} {i sc sb sa : Nat} (iL iC iB iA iS : Nat) (hR : RdAt W b L i (lv + 1)) (hG : w.grownBy W (some b)) (hB : BlkOf W q (cs kv) 152) (hK : KidsIn 152 83 (q + 1) W kv vs0 ks) (hV : EachIn 152 83 (q + 1) W kv vp tp) (vs : Nat → Value) :
    AddI (addC w b q (q + 1) (fun j W => RdAt W b L j (lv + 1)) (fun _ => True) cs kv vs0 ks vp tp r i sc sb sa) iL iC iB iA iS (fun _ => false) vs W.drew :=
  ⟨fun h => (by cases h), fun h => (by cases h), fun h => (by cases h), fun h => (by cases h), grown_ext hG (Ext.drew _), hB.lt, trivial, ⟨hR.ext (Ext.drew _), hB.ext (Ext.drew _), hK.kept ((Ext.drew W).grownBy none) (by simp), hV.kept ((Ext.drew W).grownBy none) (by simp)⟩⟩

theorem size_set (w : World) (a : Addr) (v : Value) : (w.setCell a v).heap.size = w.heap.size := by simp [World.setCell]
theorem node6 {T E : TypeId} {w : World} {q ps : Nat} {v u : Value} {x y : Tr} (hB : BlkOf w q (pcells 0 0 [] (.slice none 0 0) ps) T) (hx : trAt T E x (q + 1) w.heap.size w v) (hy : trAt T E y (q + 1) w.heap.size w u) :
    trAt T E (.mk 6 0 [] [x, y] ps) q (((w.setCell ⟨q, 0, none⟩ (.int .i64 6)).setCell ⟨q, 3, none⟩ (.slice (some ⟨w.heap.size, 0, none⟩) 2 2)).alloc (.cells #[v, u] E)).heap.size (((w.setCell ⟨q, 0, none⟩ (.int .i64 6)).setCell ⟨q, 3, none⟩ (.slice (some ⟨w.heap.size, 0, none⟩) 2 2)).alloc (.cells #[v, u] E)) (.pointer (some ⟨q, 0, none⟩)) := by
  have hb6 := (BlkOf.set hB 0 (.int .i64 6)).set 3 (.slice (some ⟨w.heap.size, 0, none⟩) 2 2)
  have hz6 : ((w.setCell ⟨q, 0, none⟩ (.int .i64 6)).setCell ⟨q, 3, none⟩ (.slice (some ⟨w.heap.size, 0, none⟩) 2 2)).heap.size = w.heap.size := by rw [size_set, size_set]
  have hg : w.grownBy ((w.setCell ⟨q, 0, none⟩ (.int .i64 6)).setCell ⟨q, 3, none⟩ (.slice (some ⟨w.heap.size, 0, none⟩) 2 2)) (some q) := grown_one (setCell_grown _ _ _ _) (setCell_grown _ _ _ _)
  have hql := hB.lt
  generalize (w.setCell ⟨q, 0, none⟩ (.int .i64 6)).setCell ⟨q, 3, none⟩ (.slice (some ⟨w.heap.size, 0, none⟩) 2 2) = w6 at *
  have e7 := Ext.alloc w6 (.cells #[v, u] E)
  have ho := own_lit2 w6 v u E
  have hsz : (w6.alloc (.cells #[v, u] E)).heap.size = w6.heap.size + 1 := World.size_alloc _ _
  rw [hz6] at ho hsz
  refine trAt_mk.mpr ⟨q, _, [v, u], rfl, Nat.le_refl _, by omega, hb6.ext e7, own_from ho (by omega), fun A hA => ?_, .cons (((hx.kept hg (fun r e => by have := Option.some.inj e; omega)).ext e7).mono (by omega) (by omega)) (.cons (((hy.kept hg (fun r e => by have := Option.some.inj e; omega)).ext e7).mono (by omega) (by omega)) .nil)⟩
  have hA2 : w.heap.size = A := Option.some.inj hA
  omega
set_option maxRecDepth 100000 in
set_option maxHeartbeats 16000000 in
theorem sexpr_let {k : Nat} {S E S0 : Nat → Ps Tr} (hk : lv + k = 64) (hE : k ≠ 0 → ReadsBy wz 56 b L (lv + 1) E) (hL : L.length ≤ 4000) (hwb : wz.heap.size ≤ b) (h : RdAt w b L i lv) (hx : Ext wz w) (h0 : isT L i [108, 101, 116] = true) :
    Calls Tryz.prog 56 #[.pointer (some ⟨b, 0, none⟩)] w (PGot w b L lv (PTr w) (exprT L k S E S0 i)) := by
  have c3 : w.cell? ⟨b, 3, none⟩ = some (.int .i64 (tokN L i).pos) := BlkOf.cell h.blk 3
  have hbq := h.lt
  have e1 := Ext.alloc w (.cells #[.int .i64 0, .int .i64 0, .string ⟨#[]⟩, .slice none 0 0, .int .i64 (tokN L i).pos] 152)
  have HB := Lib.hid (BlkOf.new w (pcells 0 0 [] (.slice none 0 0) (tokN L i).pos) 152)
  replace HB : Hid (BlkOf (w.alloc (.cells #[.int .i64 0, .int .i64 0, .string ⟨#[]⟩, .slice none 0 0, .int .i64 (tokN L i).pos] 152)) w.heap.size (pcells 0 0 [] (.slice none 0 0) (tokN L i).pos) 152) := HB
  have HR := Lib.hid (h.ext e1)
  have HG := Lib.hid (e1.grownBy (some b))
  have HXZ := Lib.hid hx; have HWB := Lib.hid hwb
  generalize hR : exprT L k S E S0 i = R
  have HRR := Lib.hid hR.symm
  clear hR h hx hwb
  go_enter Tryz.func56, Tryz.ntmps56
  go_upto_region 7 with fail
  generalize w.alloc (.cells #[.int .i64 0, .int .i64 0, .string ⟨#[]⟩, .slice none 0 0, .int .i64 (tokN L i).pos] 152) = w2 at *
  obtain ⟨q, hq⟩ : ∃ q, w.heap.size = q := ⟨_, rfl⟩
  rw [hq] at HB hbq ⊢
  have HQ := Lib.hid hq
  clear hq e1 c3
  generalize (tokN L i).pos = ps at *
  have HS0 := Lib.hid (sis_any HR.out [108, 101, 116])
  rw [h0] at HS0
  have HRY := Lib.hid (show R = (enterT L k i).bind fun _ j => (nameT L j).bind fun s j => (mustT L j [61]).bind fun _ j => (E j).bind fun a j => (mustT L j [59]).bind fun _ j => (E j).bind fun b j => .ok (.mk 8 0 s.1 [a, b] s.2) j from by rw [HRR.out]; unfold exprT; rw [h0, if_pos rfl])
  have HEN := Lib.hid (senter_any HR.out hL hk)
  clear HRR h0
  go_upto_region 8 with (go_at_call 95; refine HS0.out.mono ?_; rintro e w9 ⟨rfl, rfl⟩)
  go_wp2_with fail
  refine (HEN.out).mono ?_
  intro e w3 h9
  rcases PGot.cases h9 with ⟨a, d, hr, he, hg⟩ | ⟨x, j, v, hr, rfl, hr3, hg3, rfl⟩
  · subst he
    go_wp2_with fail
    exact ⟨rfl, PGot.bad (HRY.out.trans (by rw [hr]; rfl)) ⟨rfl, grown_one HG.out hg⟩⟩
  · have hk0 := (enter_ok.mp hr).1
    have HRZ := Lib.hid (show R = (nameT L j).bind fun s j => (mustT L j [61]).bind fun _ j => (E j).bind fun a j => (mustT L j [59]).bind fun _ j => (E j).bind fun b j => .ok (.mk 8 0 s.1 [a, b] s.2) j from HRY.out.trans (by rw [hr]; rfl))
    have HB3 := Lib.hid (HB.out.grown hg3 (by simp; omega))
    have HR3 := Lib.hid hr3
    replace HG := Lib.hid (grown_one HG.out hg3)
    have k0 : w3.cell? ⟨q, 0, none⟩ = some (.int .i64 0) := HB3.out.cell 0
    have f0 : w3.frozen? ⟨q, 0, none⟩ = false := HB3.out.free 0
    clear hr hr3 hg3 h9 HRY HEN HR HB
    go_upto_region 10 with fail
    have hg4 := setCell_grown w3 q 0 (.int .i64 8)
    have HB4 := Lib.hid (show BlkOf (w3.setCell ⟨q, 0, none⟩ (.int .i64 8)) q (pcells 8 0 [] (.slice none 0 0) ps) 152 from BlkOf.set HB3.out 0 (.int .i64 8))
    have HR4 := Lib.hid (show RdAt (w3.setCell ⟨q, 0, none⟩ (.int .i64 8)) b L j (lv + 1) from ⟨BlkOf.grown HR3.out.blk hg4 (by simp; omega), HR3.out.le⟩)
    replace HG := Lib.hid (grown_new HG.out hg4 (by rw [HQ.out]; omega))
    clear HB3 HR3 hg4 k0 f0
    generalize w3.setCell ⟨q, 0, none⟩ (.int .i64 8) = w4 at *
    have HE3 := Lib.hid (hE hk0)
    go_wp2_with fail
    refine (sname_any HR4.out hL).mono ?_
    intro e w5 h9
    rcases PGot.cases h9 with ⟨a, d, hr, he, hg⟩ | ⟨x, m, v, hr, rfl, hr5, hg5, rfl⟩
    · subst he
      go_wp2_with fail
      exact ⟨rfl, PGot.bad (HRZ.out.trans (by rw [hr]; rfl)) ⟨rfl, grown_one HG.out hg⟩⟩
    · obtain ⟨nm, np⟩ := x
      have HRW := Lib.hid (show R = (mustT L m [61]).bind fun _ j => (E j).bind fun a j => (mustT L j [59]).bind fun _ j => (E j).bind fun b j => .ok (.mk 8 0 nm [a, b] np) j from HRZ.out.trans (by rw [hr]; rfl))
      have HB5 := Lib.hid (HB4.out.grown hg5 (by simp; omega))
      have k2 : w5.cell? ⟨q, 2, none⟩ = some (.string ⟨#[]⟩) := HB5.out.cell 2
      have k4 : w5.cell? ⟨q, 4, none⟩ = some (.int .i64 ps) := HB5.out.cell 4
      have f2 : w5.frozen? ⟨q, 2, none⟩ = false := HB5.out.free 2
      have f4 : w5.frozen? ⟨q, 4, none⟩ = false := HB5.out.free 4
      have HR5 := Lib.hid hr5
      replace HG := Lib.hid (grown_one HG.out hg5)
      clear hr hr5 hg5 h9 HRZ HR4 HB4
      go_upto_region 11 with fail
      have hg6 : w5.grownBy ((w5.setCell ⟨q, 2, none⟩ (.string ⟨nm.toArray⟩)).setCell ⟨q, 4, none⟩ (.int .i64 np)) (some q) := grown_one (setCell_grown _ _ _ _) (setCell_grown _ _ _ _)
      have HB6 := Lib.hid (show BlkOf ((w5.setCell ⟨q, 2, none⟩ (.string ⟨nm.toArray⟩)).setCell ⟨q, 4, none⟩ (.int .i64 np)) q (pcells 8 0 nm (.slice none 0 0) np) 152 from (BlkOf.set HB5.out 2 (.string ⟨nm.toArray⟩)).set 4 (.int .i64 np))
      have HR6 := Lib.hid (show RdAt ((w5.setCell ⟨q, 2, none⟩ (.string ⟨nm.toArray⟩)).setCell ⟨q, 4, none⟩ (.int .i64 np)) b L m (lv + 1) from ⟨BlkOf.grown HR5.out.blk hg6 (by simp; omega), HR5.out.le⟩)
      replace HG := Lib.hid (grown_new HG.out hg6 (by rw [HQ.out]; omega))
      clear HB5 HR5 hg6 k2 k4 f2 f4
      generalize (w5.setCell ⟨q, 2, none⟩ (.string ⟨nm.toArray⟩)).setCell ⟨q, 4, none⟩ (.int .i64 np) = w6 at *
      go_wp2_with fail
      refine (smust_any HR6.out hL [61]).mono ?_
      intro e w7 h9
      rcases PGot.cases h9 with ⟨a, d, hr, he, hg⟩ | ⟨x9, m9, v9, hr, rfl, hr9, hg9, rfl⟩
      · subst he
        go_wp2_with fail
        exact ⟨rfl, PGot.bad (HRW.out.trans (by rw [hr]; rfl)) ⟨rfl, grown_one HG.out hg⟩⟩
      · have HRV := Lib.hid (show R = (E m9).bind fun a j => (mustT L j [59]).bind fun _ j => (E j).bind fun b j => .ok (.mk 8 0 nm [a, b] np) j from HRW.out.trans (by rw [hr]; rfl))
        have HB6n := Lib.hid (HB6.out.grown hg9 (by simp; omega))
        have HR6n := Lib.hid hr9
        replace HG := Lib.hid (grown_one HG.out hg9)
        clear hr hr9 hg9 h9 HRW HB6 HR6
        have OKA := Lib.hid (add_ok (w := w) (b := b) (q := q) (L := L) (lv := lv) (fun u => pcells 8 0 nm u np) (.slice none 0 0) [] [] [] [] (E m9) m9 57 58 59 (by omega) (by rw [HQ.out]; omega) (by simp))
        have AIA := Lib.hid (fun vs => add_i0 (w := w) (b := b) (q := q) (L := L) (lv := lv) (cs := fun u => pcells 8 0 nm u np) (r := E m9) (sc := 57) (sb := 58) (sa := 59) 4 6 7 8 11 HR6n.out HG.out HB6n.out (KidsIn.nil _) .nil vs)
        go_upto_region 12 with fail
        refine wp_region_halt (fun c w'' => PGot w b L lv (PTr w) R (.panicked c) w'') ?_ ?_
        · intro c a w'' hd hR
          go_wp2_with fail
          exact ⟨hd, hR⟩
        refine wp_region_mark 12 rfl (phiE [some (.pointer (some ⟨q, 0, none⟩)), some (.pointer (some ⟨q, 0, none⟩)), some (.pointer (some ⟨q, 0, none⟩)), some (.pointer (some ⟨q, 3, none⟩)), some (.slice none 0 0), some (.pointer (some ⟨b, 0, none⟩)), none, none, none, some (.pointer (some ⟨q, 0, none⟩)), some (.pointer (some ⟨q, 3, none⟩)), none]) [4, 6, 7, 8, 11] (AddI (addC w b q (q + 1) (fun j W => RdAt W b L j (lv + 1)) (fun _ => True) (fun u => pcells 8 0 nm u np) (.slice none 0 0) [] [] [] [] (E m9) m9 57 58 59) 4 6 7 8 11) (fun _ _ => True) (by kernel_rfl) (by kernel_rfl) (by kernel_rfl) (fun j _ u W W' hu _ => phiE_stab _ j u W W' hu) (fun j hj hd u W => by have hj2 : j = 4 ∨ j = 6 ∨ j = 7 ∨ j = 8 ∨ j = 11 := (by simpa using hj); rcases hj2 with rfl | rfl | rfl | rfl | rfl <;> first | exact phiE_top _ _ rfl _ _ | (simp at hd)) (fun s s' vs vs' W W' h hg hs hv => h.free OKA.out hg (hs 4 rfl) (hs 6 rfl) (hs 7 rfl) (hs 8 rfl) (hs 11 rfl) (hv 6 rfl 57 rfl) (hv 7 rfl 58 rfl) (hv 8 rfl 59 rfl)) ?_ (by kernel_rfl) ?_ ?_
        · exact AIA.out _
        · refine ⟨?_, ?_, ?_, ?_, ?_, ?_, ?_, ?_, ?_, ?_, ?_, ?_, trivial⟩
          · refine bifF rfl (FreeStep.mk rfl fun vs W hk hd => ?_)
            clear hd
            obtain ⟨_, s, hS⟩ := hk
            clear hS
            simp only [fillA, fillL, dstL, List.take_succ_cons, List.take_zero, List.filterMap_cons, List.filterMap_nil, List.contains_cons, List.contains_nil, Nat.reduceAdd, Nat.zero_add, Nat.reduceBEq, Bool.or_false, Bool.or_true, Bool.false_eq_true, ↓reduceIte]
            go_wp2_with fail
            exact ⟨by trivial, World.grownBy.refl _ _, rfl⟩
          · refine bifF rfl (FreeStep.mk rfl fun vs W hk hd => ?_)
            clear hd
            obtain ⟨_, s, hS⟩ := hk
            clear hS
            simp only [fillA, fillL, dstL, List.take_succ_cons, List.take_zero, List.filterMap_cons, List.filterMap_nil, List.contains_cons, List.contains_nil, Nat.reduceAdd, Nat.zero_add, Nat.reduceBEq, Bool.or_false, Bool.or_true, Bool.false_eq_true, ↓reduceIte]
            go_wp2_with fail
            exact ⟨by trivial, World.grownBy.refl _ _, rfl⟩
          · refine bifF rfl (FreeStep.mk rfl fun vs W hk hd => ?_)
            have e52 : vs 52 = (.pointer (some ⟨q, 0, none⟩)) := hd 1 (by kernel_rfl)
            clear hd
            obtain ⟨_, s, hS⟩ := hk
            clear hS
            simp only [fillA, fillL, dstL, List.take_succ_cons, List.take_zero, List.filterMap_cons, List.filterMap_nil, List.contains_cons, List.contains_nil, Nat.reduceAdd, Nat.zero_add, Nat.reduceBEq, Bool.or_false, Bool.or_true, Bool.false_eq_true, ↓reduceIte]
            rw [e52]
            go_wp2_with fail
            exact ⟨by trivial, World.grownBy.refl _ _, rfl⟩
          · refine bifF rfl (FreeStep.mk rfl fun vs W hk hd => ?_)
            have e53 : vs 53 = (.pointer (some ⟨q, 0, none⟩)) := hd 2 (by kernel_rfl)
            clear hd
            obtain ⟨_, s, hS⟩ := hk
            clear hS
            simp only [fillA, fillL, dstL, List.take_succ_cons, List.take_zero, List.filterMap_cons, List.filterMap_nil, List.contains_cons, List.contains_nil, Nat.reduceAdd, Nat.zero_add, Nat.reduceBEq, Bool.or_false, Bool.or_true, Bool.false_eq_true, ↓reduceIte]
            rw [e53]
            go_wp2_with fail
            exact ⟨by trivial, World.grownBy.refl _ _, rfl⟩
          · refine bifT rfl (MarkStep.mk rfl fun s vs W hS hi hdp hd => ?_)
            have e54 : vs 54 = (.pointer (some ⟨q, 3, none⟩)) := hd 3 (by kernel_rfl)
            clear hd
            have hk3 : W.cell? ⟨q, 3, none⟩ = some (.slice none 0 0) := (AddI.node hS hi).cell 3
            simp only [fillA, fillL, dstL, List.take_succ_cons, List.take_zero, List.filterMap_cons, List.filterMap_nil, List.contains_cons, List.contains_nil, Nat.reduceAdd, Nat.zero_add, Nat.reduceBEq, Bool.or_false, Bool.or_true, Bool.false_eq_true, ↓reduceIte]
            rw [e54]
            go_wp2_with fail
            exact ⟨by trivial, trivial, AddI.loaded OKA.out hS (by decide) (World.grownBy.refl _ _) rfl rfl rfl, rfl⟩
          · refine bifF rfl (FreeStep.mk rfl fun vs W hk hd => ?_)
            clear hd
            obtain ⟨_, s, hS⟩ := hk
            clear hS
            simp only [fillA, fillL, dstL, List.take_succ_cons, List.take_zero, List.filterMap_cons, List.filterMap_nil, List.contains_cons, List.contains_nil, Nat.reduceAdd, Nat.zero_add, Nat.reduceBEq, Bool.or_false, Bool.or_true, Bool.false_eq_true, ↓reduceIte]
            go_wp2_with fail
            exact ⟨by trivial, World.grownBy.refl _ _, rfl⟩
          · refine bifT rfl (MarkStep.mk rfl fun s vs W hS hi hdp hd => ?_)
            have e56 : vs 56 = (.pointer (some ⟨b, 0, none⟩)) := hd 5 (by kernel_rfl)
            clear hd
            have hg0 := hS.g
            simp only [fillA, fillL, dstL, List.take_succ_cons, List.take_zero, List.filterMap_cons, List.filterMap_nil, List.contains_cons, List.contains_nil, Nat.reduceAdd, Nat.zero_add, Nat.reduceBEq, Bool.or_false, Bool.or_true, Bool.false_eq_true, ↓reduceIte]
            rw [e56]
            go_wp2_with fail
            refine (HE3.out W _ (AddI.place hS hi) (ext_turn HXZ.out hg0 HWB.out)).mono ?_
            intro e w3 h3
            rcases h3.cases with ⟨a, k, hr, he, hg⟩ | ⟨x, j, v, hr, rfl, hr1, hg1, ht1⟩
            · subst he
              go_wp2_with fail
              exact OrHalt.panic rfl (PGot.bad (HRV.out.trans (by rw [show E m9 = Ps.bad a k from hr]; rfl)) ⟨rfl, grown_one hg0 hg⟩)
            · go_wp2_with fail
              exact ⟨by trivial, trivial, AddI.called OKA.out hS hi (by decide) hr hr1 hg1 ht1 rfl, trivial⟩
          · refine bifT rfl (MarkStep.mk rfl fun s vs W hS hi hdp hd => ?_)
            clear hd
            obtain ⟨p1, hp1⟩ := hS.ptr (hdp 6 (by kernel_rfl)) hi rfl
            replace hp1 : vs 57 = .pointer (some ⟨p1, 0, none⟩) := hp1
            simp only [fillA, fillL, dstL, List.take_succ_cons, List.take_zero, List.filterMap_cons, List.filterMap_nil, List.contains_cons, List.contains_nil, Nat.reduceAdd, Nat.zero_add, Nat.reduceBEq, Bool.or_false, Bool.or_true, Bool.false_eq_true, ↓reduceIte]
            rw [hp1]
            go_wp2_with fail
            exact ⟨by trivial, trivial, AddI.built OKA.out hS (hdp 6 (by kernel_rfl)) hi (by decide) (congrArg (fun u => W.alloc (.cells #[u] 83)) hp1.symm) rfl rfl, trivial⟩
          · refine bifT rfl (MarkStep.mk rfl fun s vs W hS hi hdp hd => ?_)
            have e55 : vs 55 = (.slice none 0 0) := hd 4 (by kernel_rfl)
            clear hd
            obtain ⟨ho, z, hz, hzb, h1⟩ := hS.row (hdp 7 (by kernel_rfl)) hi
            replace hz : vs 58 = _ := hz
            have hlw := hS.lw
            simp only [fillA, fillL, dstL, List.take_succ_cons, List.take_zero, List.filterMap_cons, List.filterMap_nil, List.contains_cons, List.contains_nil, Nat.reduceAdd, Nat.zero_add, Nat.reduceBEq, Bool.or_false, Bool.or_true, Bool.false_eq_true, ↓reduceIte]
            rw [e55, hz]
            go_wp2_with (at_builtin; refine wpList_appBlk rfl _ _ 150 rfl slParts rfl hlw ho rfl hzb h1 rfl (by have := OKA.out.small; simp at this ⊢; omega) (by decide) ?_; intro v' w' k1 k2 k3)
            exact ⟨by trivial, trivial, AddI.appd OKA.out hS (hdp 4 (by kernel_rfl)) (hdp 7 (by kernel_rfl)) hi (by decide) k1 k2 k3 rfl, trivial⟩
          · refine bifF rfl (FreeStep.mk rfl fun vs W hk hd => ?_)
            have e51 : vs 51 = (.pointer (some ⟨q, 0, none⟩)) := hd 0 (by kernel_rfl)
            clear hd
            obtain ⟨_, s, hS⟩ := hk
            clear hS
            simp only [fillA, fillL, dstL, List.take_succ_cons, List.take_zero, List.filterMap_cons, List.filterMap_nil, List.contains_cons, List.contains_nil, Nat.reduceAdd, Nat.zero_add, Nat.reduceBEq, Bool.or_false, Bool.or_true, Bool.false_eq_true, ↓reduceIte]
            rw [e51]
            go_wp2_with fail
            exact ⟨by trivial, World.grownBy.refl _ _, rfl⟩
          · refine bifF rfl (FreeStep.mk rfl fun vs W hk hd => ?_)
            have e60 : vs 60 = (.pointer (some ⟨q, 0, none⟩)) := hd 9 (by kernel_rfl)
            clear hd
            obtain ⟨_, s, hS⟩ := hk
            clear hS
            simp only [fillA, fillL, dstL, List.take_succ_cons, List.take_zero, List.filterMap_cons, List.filterMap_nil, List.contains_cons, List.contains_nil, Nat.reduceAdd, Nat.zero_add, Nat.reduceBEq, Bool.or_false, Bool.or_true, Bool.false_eq_true, ↓reduceIte]
            rw [e60]
            go_wp2_with fail
            exact ⟨by trivial, World.grownBy.refl _ _, rfl⟩
          · refine bifT rfl (MarkStep.mk rfl fun s vs W hS hi hdp hd => ?_)
            have e61 : vs 61 = (.pointer (some ⟨q, 3, none⟩)) := hd 10 (by kernel_rfl)
            clear hd
            obtain ⟨hbk, ao, nn, cap, hsa⟩ := hS.node3 (hdp 8 (by kernel_rfl)) hi
            replace hsa : vs 59 = .slice ao nn cap := hsa
            have hk3 : W.cell? ⟨q, 3, none⟩ = some (.slice none 0 0) := hbk.cell 3
            have hf3 : W.frozen? ⟨q, 3, none⟩ = false := hbk.free 3
            simp only [fillA, fillL, dstL, List.take_succ_cons, List.take_zero, List.filterMap_cons, List.filterMap_nil, List.contains_cons, List.contains_nil, Nat.reduceAdd, Nat.zero_add, Nat.reduceBEq, Bool.or_false, Bool.or_true, Bool.false_eq_true, ↓reduceIte]
            rw [e61, hsa]
            go_wp2_with fail
            exact ⟨by trivial, trivial, AddI.stored OKA.out hS (hdp 8 (by kernel_rfl)) hi (by decide) (f := 3) (fun _ => rfl) (congrArg (fun u => W.setCell ⟨q, 3, none⟩ u) hsa.symm), trivial⟩
        · intro s vs wa hall hs hS
          obtain ⟨hga, hxa, hla, ya, ja, usa, kva, hra, hRa, hBa, hKa⟩ := AddI.end_ hS (hs 11 rfl)
          have HGa := Lib.hid hga; have HXa := Lib.hid hxa; have HLa := Lib.hid hla; have HRa := Lib.hid hra; have HRDa := Lib.hid hRa; have HBa := Lib.hid hBa; have HKa := Lib.hid hKa
          clear hga hxa hla hra hRa hBa hKa hS hs hall
          refine OrHalt.normal ?_
          simp only [fillA, fillL, dstL, List.take_succ_cons, List.take_zero, List.filterMap_cons, List.filterMap_nil, List.contains_cons, List.contains_nil, Nat.reduceAdd, Nat.zero_add, Nat.reduceBEq, Bool.or_false, Bool.or_true, Bool.false_eq_true, ↓reduceIte]
          have HKA := Lib.hid (show KidsIn 152 83 (q + 1) wa kva usa [ya] from HKa.out)
          have HRU := Lib.hid (show R = (mustT L ja [59]).bind fun _ j => (E j).bind fun b j => .ok (.mk 8 0 nm [ya, b] np) j from HRV.out.trans (by rw [show E m9 = Ps.ok ya ja from HRa.out]; rfl))
          have HBA := Lib.hid (show BlkOf wa q (pcells 8 0 nm kva np) 152 from HBa.out)
          have HRA := Lib.hid (show RdAt wa b L ja (lv + 1) from HRDa.out)
          replace HG := Lib.hid (show w.grownBy wa (some b) from HGa.out)
          clear HRa HBa HKa HRDa HGa HXa HLa HRV OKA AIA HR6n HB6n
          go_upto_region 13 with fail
          go_wp2_with fail
          refine (smust_any HRA.out hL [59]).mono ?_
          intro e w8 h9
          rcases PGot.cases h9 with ⟨a, d, hr, he, hg⟩ | ⟨x9, m9, v9, hr, rfl, hr9, hg9, rfl⟩
          · subst he
            go_wp2_with fail
            exact ⟨rfl, PGot.bad (HRU.out.trans (by rw [hr]; rfl)) ⟨rfl, grown_one HG.out hg⟩⟩
          · have HRT := Lib.hid (show R = (E m9).bind fun b j => .ok (.mk 8 0 nm [ya, b] np) j from HRU.out.trans (by rw [hr]; rfl))
            have HBAn := Lib.hid (HBA.out.grown hg9 (by simp; omega))
            have HKAn := Lib.hid (HKA.out.kept hg9 (fun r e => by have := Option.some.inj e; omega))
            have HRAn := Lib.hid hr9
            replace HG := Lib.hid (grown_one HG.out hg9)
            clear hr hr9 hg9 h9 HRU HBA HRA HKA
            have OKT := Lib.hid (add_ok (w := w) (b := b) (q := q) (L := L) (lv := lv) (fun u => pcells 8 0 nm u np) kva usa [ya] [] [] (E m9) m9 130 131 132 (by omega) (by rw [HQ.out]; omega) (by simp))
            have AIT := Lib.hid (fun vs => add_i0 (w := w) (b := b) (q := q) (L := L) (lv := lv) (cs := fun u => pcells 8 0 nm u np) (r := E m9) (sc := 130) (sb := 131) (sa := 132) 4 6 7 8 11 HRAn.out HG.out HBAn.out HKAn.out .nil vs)
            go_upto_region 28 with fail
            refine wp_region_halt (fun c w'' => PGot w b L lv (PTr w) R (.panicked c) w'') ?_ ?_
            · intro c a w'' hd hR
              go_wp2_with fail
              exact ⟨hd, hR⟩
            refine wp_region_mark 12 rfl (phiE [some (.pointer (some ⟨q, 0, none⟩)), some (.pointer (some ⟨q, 0, none⟩)), some (.pointer (some ⟨q, 0, none⟩)), some (.pointer (some ⟨q, 3, none⟩)), some kva, some (.pointer (some ⟨b, 0, none⟩)), none, none, none, some (.pointer (some ⟨q, 0, none⟩)), some (.pointer (some ⟨q, 3, none⟩)), none]) [4, 6, 7, 8, 11] (AddI (addC w b q (q + 1) (fun j W => RdAt W b L j (lv + 1)) (fun _ => True) (fun u => pcells 8 0 nm u np) kva usa [ya] [] [] (E m9) m9 130 131 132) 4 6 7 8 11) (fun _ _ => True) (by kernel_rfl) (by kernel_rfl) (by kernel_rfl) (fun j _ u W W' hu _ => phiE_stab _ j u W W' hu) (fun j hj hd u W => by have hj2 : j = 4 ∨ j = 6 ∨ j = 7 ∨ j = 8 ∨ j = 11 := (by simpa using hj); rcases hj2 with rfl | rfl | rfl | rfl | rfl <;> first | exact phiE_top _ _ rfl _ _ | (simp at hd)) (fun s s' vs vs' W W' h hg hs hv => h.free OKT.out hg (hs 4 rfl) (hs 6 rfl) (hs 7 rfl) (hs 8 rfl) (hs 11 rfl) (hv 6 rfl 130 rfl) (hv 7 rfl 131 rfl) (hv 8 rfl 132 rfl)) ?_ (by kernel_rfl) ?_ ?_
            · exact AIT.out _
            · refine ⟨?_, ?_, ?_, ?_, ?_, ?_, ?_, ?_, ?_, ?_, ?_, ?_, trivial⟩
              · refine bifF rfl (FreeStep.mk rfl fun vs W hk hd => ?_)
                clear hd
                obtain ⟨_, s, hS⟩ := hk
                clear hS
                simp only [fillA, fillL, dstL, List.take_succ_cons, List.take_zero, List.filterMap_cons, List.filterMap_nil, List.contains_cons, List.contains_nil, Nat.reduceAdd, Nat.zero_add, Nat.reduceBEq, Bool.or_false, Bool.or_true, Bool.false_eq_true, ↓reduceIte]
                go_wp2_with fail
                exact ⟨by trivial, World.grownBy.refl _ _, rfl⟩
              · refine bifF rfl (FreeStep.mk rfl fun vs W hk hd => ?_)
                clear hd
                obtain ⟨_, s, hS⟩ := hk
                clear hS
                simp only [fillA, fillL, dstL, List.take_succ_cons, List.take_zero, List.filterMap_cons, List.filterMap_nil, List.contains_cons, List.contains_nil, Nat.reduceAdd, Nat.zero_add, Nat.reduceBEq, Bool.or_false, Bool.or_true, Bool.false_eq_true, ↓reduceIte]
                go_wp2_with fail
                exact ⟨by trivial, World.grownBy.refl _ _, rfl⟩
              · refine bifF rfl (FreeStep.mk rfl fun vs W hk hd => ?_)
                have e125 : vs 125 = (.pointer (some ⟨q, 0, none⟩)) := hd 1 (by kernel_rfl)
                clear hd
                obtain ⟨_, s, hS⟩ := hk
                clear hS
                simp only [fillA, fillL, dstL, List.take_succ_cons, List.take_zero, List.filterMap_cons, List.filterMap_nil, List.contains_cons, List.contains_nil, Nat.reduceAdd, Nat.zero_add, Nat.reduceBEq, Bool.or_false, Bool.or_true, Bool.false_eq_true, ↓reduceIte]
                rw [e125]
                go_wp2_with fail
                exact ⟨by trivial, World.grownBy.refl _ _, rfl⟩
              · refine bifF rfl (FreeStep.mk rfl fun vs W hk hd => ?_)
                have e126 : vs 126 = (.pointer (some ⟨q, 0, none⟩)) := hd 2 (by kernel_rfl)
                clear hd
                obtain ⟨_, s, hS⟩ := hk
                clear hS
                simp only [fillA, fillL, dstL, List.take_succ_cons, List.take_zero, List.filterMap_cons, List.filterMap_nil, List.contains_cons, List.contains_nil, Nat.reduceAdd, Nat.zero_add, Nat.reduceBEq, Bool.or_false, Bool.or_true, Bool.false_eq_true, ↓reduceIte]
                rw [e126]
                go_wp2_with fail
                exact ⟨by trivial, World.grownBy.refl _ _, rfl⟩
              · refine bifT rfl (MarkStep.mk rfl fun s vs W hS hi hdp hd => ?_)
                have e127 : vs 127 = (.pointer (some ⟨q, 3, none⟩)) := hd 3 (by kernel_rfl)
                clear hd
                have hk3 : W.cell? ⟨q, 3, none⟩ = some kva := (AddI.node hS hi).cell 3
                simp only [fillA, fillL, dstL, List.take_succ_cons, List.take_zero, List.filterMap_cons, List.filterMap_nil, List.contains_cons, List.contains_nil, Nat.reduceAdd, Nat.zero_add, Nat.reduceBEq, Bool.or_false, Bool.or_true, Bool.false_eq_true, ↓reduceIte]
                rw [e127]
                go_wp2_with fail
                exact ⟨by trivial, trivial, AddI.loaded OKT.out hS (by decide) (World.grownBy.refl _ _) rfl rfl rfl, rfl⟩
              · refine bifF rfl (FreeStep.mk rfl fun vs W hk hd => ?_)
                clear hd
                obtain ⟨_, s, hS⟩ := hk
                clear hS
                simp only [fillA, fillL, dstL, List.take_succ_cons, List.take_zero, List.filterMap_cons, List.filterMap_nil, List.contains_cons, List.contains_nil, Nat.reduceAdd, Nat.zero_add, Nat.reduceBEq, Bool.or_false, Bool.or_true, Bool.false_eq_true, ↓reduceIte]
                go_wp2_with fail
                exact ⟨by trivial, World.grownBy.refl _ _, rfl⟩
              · refine bifT rfl (MarkStep.mk rfl fun s vs W hS hi hdp hd => ?_)
                have e129 : vs 129 = (.pointer (some ⟨b, 0, none⟩)) := hd 5 (by kernel_rfl)
                clear hd
                have hg0 := hS.g
                simp only [fillA, fillL, dstL, List.take_succ_cons, List.take_zero, List.filterMap_cons, List.filterMap_nil, List.contains_cons, List.contains_nil, Nat.reduceAdd, Nat.zero_add, Nat.reduceBEq, Bool.or_false, Bool.or_true, Bool.false_eq_true, ↓reduceIte]
                rw [e129]
                go_wp2_with fail
                refine (HE3.out W _ (AddI.place hS hi) (ext_turn HXZ.out hg0 HWB.out)).mono ?_
                intro e w3 h3
                rcases h3.cases with ⟨a, k, hr, he, hg⟩ | ⟨x, j, v, hr, rfl, hr1, hg1, ht1⟩
                · subst he
                  go_wp2_with fail
                  exact OrHalt.panic rfl (PGot.bad (HRT.out.trans (by rw [show E m9 = Ps.bad a k from hr]; rfl)) ⟨rfl, grown_one hg0 hg⟩)
                · go_wp2_with fail
                  exact ⟨by trivial, trivial, AddI.called OKT.out hS hi (by decide) hr hr1 hg1 ht1 rfl, trivial⟩
              · refine bifT rfl (MarkStep.mk rfl fun s vs W hS hi hdp hd => ?_)
                clear hd
                obtain ⟨p1, hp1⟩ := hS.ptr (hdp 6 (by kernel_rfl)) hi rfl
                replace hp1 : vs 130 = .pointer (some ⟨p1, 0, none⟩) := hp1
                simp only [fillA, fillL, dstL, List.take_succ_cons, List.take_zero, List.filterMap_cons, List.filterMap_nil, List.contains_cons, List.contains_nil, Nat.reduceAdd, Nat.zero_add, Nat.reduceBEq, Bool.or_false, Bool.or_true, Bool.false_eq_true, ↓reduceIte]
                rw [hp1]
                go_wp2_with fail
                exact ⟨by trivial, trivial, AddI.built OKT.out hS (hdp 6 (by kernel_rfl)) hi (by decide) (congrArg (fun u => W.alloc (.cells #[u] 83)) hp1.symm) rfl rfl, trivial⟩
              · refine bifT rfl (MarkStep.mk rfl fun s vs W hS hi hdp hd => ?_)
                have e128 : vs 128 = kva := hd 4 (by kernel_rfl)
                clear hd
                obtain ⟨ho, z, hz, hzb, h1⟩ := hS.row (hdp 7 (by kernel_rfl)) hi
                replace hz : vs 131 = _ := hz
                have hlw := hS.lw
                simp only [fillA, fillL, dstL, List.take_succ_cons, List.take_zero, List.filterMap_cons, List.filterMap_nil, List.contains_cons, List.contains_nil, Nat.reduceAdd, Nat.zero_add, Nat.reduceBEq, Bool.or_false, Bool.or_true, Bool.false_eq_true, ↓reduceIte]
                rw [e128, hz]
                go_wp2_with (at_builtin; refine wpList_appBlk rfl _ _ 150 rfl slParts rfl hlw ho rfl hzb h1 rfl (by have := OKT.out.small; simp at this ⊢; omega) (by decide) ?_; intro v' w' k1 k2 k3)
                exact ⟨by trivial, trivial, AddI.appd OKT.out hS (hdp 4 (by kernel_rfl)) (hdp 7 (by kernel_rfl)) hi (by decide) k1 k2 k3 rfl, trivial⟩
              · refine bifF rfl (FreeStep.mk rfl fun vs W hk hd => ?_)
                have e124 : vs 124 = (.pointer (some ⟨q, 0, none⟩)) := hd 0 (by kernel_rfl)
                clear hd
                obtain ⟨_, s, hS⟩ := hk
                clear hS
                simp only [fillA, fillL, dstL, List.take_succ_cons, List.take_zero, List.filterMap_cons, List.filterMap_nil, List.contains_cons, List.contains_nil, Nat.reduceAdd, Nat.zero_add, Nat.reduceBEq, Bool.or_false, Bool.or_true, Bool.false_eq_true, ↓reduceIte]
                rw [e124]
                go_wp2_with fail
                exact ⟨by trivial, World.grownBy.refl _ _, rfl⟩
              · refine bifF rfl (FreeStep.mk rfl fun vs W hk hd => ?_)
                have e133 : vs 133 = (.pointer (some ⟨q, 0, none⟩)) := hd 9 (by kernel_rfl)
                clear hd
                obtain ⟨_, s, hS⟩ := hk
                clear hS
                simp only [fillA, fillL, dstL, List.take_succ_cons, List.take_zero, List.filterMap_cons, List.filterMap_nil, List.contains_cons, List.contains_nil, Nat.reduceAdd, Nat.zero_add, Nat.reduceBEq, Bool.or_false, Bool.or_true, Bool.false_eq_true, ↓reduceIte]
                rw [e133]
                go_wp2_with fail
                exact ⟨by trivial, World.grownBy.refl _ _, rfl⟩
              · refine bifT rfl (MarkStep.mk rfl fun s vs W hS hi hdp hd => ?_)
                have e134 : vs 134 = (.pointer (some ⟨q, 3, none⟩)) := hd 10 (by kernel_rfl)
                clear hd
                obtain ⟨hbk, ao, nn, cap, hsa⟩ := hS.node3 (hdp 8 (by kernel_rfl)) hi
                replace hsa : vs 132 = .slice ao nn cap := hsa
                have hk3 : W.cell? ⟨q, 3, none⟩ = some kva := hbk.cell 3
                have hf3 : W.frozen? ⟨q, 3, none⟩ = false := hbk.free 3
                simp only [fillA, fillL, dstL, List.take_succ_cons, List.take_zero, List.filterMap_cons, List.filterMap_nil, List.contains_cons, List.contains_nil, Nat.reduceAdd, Nat.zero_add, Nat.reduceBEq, Bool.or_false, Bool.or_true, Bool.false_eq_true, ↓reduceIte]
                rw [e134, hsa]
                go_wp2_with fail
                exact ⟨by trivial, trivial, AddI.stored OKT.out hS (hdp 8 (by kernel_rfl)) hi (by decide) (f := 3) (fun _ => rfl) (congrArg (fun u => W.setCell ⟨q, 3, none⟩ u) hsa.symm), trivial⟩
            · intro s vs wt hall hs hS
              obtain ⟨hgt, hxt, hlt, yt, jt, ust, kvt, hrt, hRt, hBt, hKt⟩ := AddI.end_ hS (hs 11 rfl)
              have HGt := Lib.hid hgt; have HXt := Lib.hid hxt; have HLt := Lib.hid hlt; have HRt := Lib.hid hrt; have HRDt := Lib.hid hRt; have HBt := Lib.hid hBt; have HKt := Lib.hid hKt
              clear hgt hxt hlt hrt hRt hBt hKt hS hs hall
              refine OrHalt.normal ?_
              simp only [fillA, fillL, dstL, List.take_succ_cons, List.take_zero, List.filterMap_cons, List.filterMap_nil, List.contains_cons, List.contains_nil, Nat.reduceAdd, Nat.zero_add, Nat.reduceBEq, Bool.or_false, Bool.or_true, Bool.false_eq_true, ↓reduceIte]
              have HRQ := Lib.hid (show RdAt wt b L jt (lv + 1) from HRDt.out)
              have HKQ := Lib.hid (show KidsIn 152 83 (q + 1) wt kvt ust [ya, yt] from HKt.out)
              have HBQ := Lib.hid (show BlkOf wt q (pcells 8 0 nm kvt np) 152 from HBt.out)
              have HGQ := Lib.hid (show w.grownBy wt (some b) from HGt.out)
              have k5 := HRQ.out.lev
              have f5 := BlkOf.free HRQ.out.blk 5
              go_wp2_with fail
              go_ret
              exact PGot.ok (HRT.out.trans (by rw [show E m9 = Ps.ok yt jt from HRt.out]; rfl)) (HRQ.out.back (by omega)) (grown_one HGQ.out (setCell_grown _ _ _ _)) ((HKQ.out.kept (setCell_grown _ _ _ _) (fun r e => by have := Option.some.inj e; omega)).done (by rw [HQ.out]; omega) (by rw [HQ.out]; omega) (HBQ.out.grown (setCell_grown _ _ _ _) (by simp; omega)))
set_option maxRecDepth 100000 in
set_option maxHeartbeats 16000000 in
theorem sexpr_need {k : Nat} {S E S0 : Nat → Ps Tr} (hk : lv + k = 64) (hS : k ≠ 0 → ReadsBy wz 97 b L (lv + 1) S) (hE : k ≠ 0 → ReadsBy wz 56 b L (lv + 1) E) (hL : L.length ≤ 4000) (hwb : wz.heap.size ≤ b) (h : RdAt w b L i lv) (hx : Ext wz w) (h0 : isT L i [108, 101, 116] = false) (h1 : isT L i [110, 101, 101, 100] = true) :
    Calls Tryz.prog 56 #[.pointer (some ⟨b, 0, none⟩)] w (PGot w b L lv (PTr w) (exprT L k S E S0 i)) := by
  have c3 : w.cell? ⟨b, 3, none⟩ = some (.int .i64 (tokN L i).pos) := BlkOf.cell h.blk 3
  have hbq := h.lt
  have e1 := Ext.alloc w (.cells #[.int .i64 0, .int .i64 0, .string ⟨#[]⟩, .slice none 0 0, .int .i64 (tokN L i).pos] 152)
  have HB := Lib.hid (BlkOf.new w (pcells 0 0 [] (.slice none 0 0) (tokN L i).pos) 152)
  replace HB : Hid (BlkOf (w.alloc (.cells #[.int .i64 0, .int .i64 0, .string ⟨#[]⟩, .slice none 0 0, .int .i64 (tokN L i).pos] 152)) w.heap.size (pcells 0 0 [] (.slice none 0 0) (tokN L i).pos) 152) := HB
  have HR := Lib.hid (h.ext e1)
  have HG := Lib.hid (e1.grownBy (some b))
  have HXZ := Lib.hid hx; have HWB := Lib.hid hwb
  generalize hR : exprT L k S E S0 i = R
  have HRR := Lib.hid hR.symm
  clear hR h hx hwb
  go_enter Tryz.func56, Tryz.ntmps56
  go_upto_region 7 with fail
  generalize w.alloc (.cells #[.int .i64 0, .int .i64 0, .string ⟨#[]⟩, .slice none 0 0, .int .i64 (tokN L i).pos] 152) = w2 at *
  obtain ⟨q, hq⟩ : ∃ q, w.heap.size = q := ⟨_, rfl⟩
  rw [hq] at HB hbq ⊢
  have HQ := Lib.hid hq
  clear hq e1 c3
  obtain ⟨ps, hps⟩ : ∃ ps, (tokN L i).pos = ps := ⟨_, rfl⟩
  rw [hps] at HB
  simp only [hps]
  have HS0 := Lib.hid (sis_any HR.out [108, 101, 116])
  rw [h0] at HS0
  have HS1 := Lib.hid (sis_any HR.out [110, 101, 101, 100])
  rw [h1] at HS1
  have HRY := Lib.hid (show R = (enterT L k i).bind fun _ j => (S j).bind fun a j => (mustT L j [61, 61]).bind fun _ j => (S j).bind fun b j => (mustT L j [59]).bind fun _ j => (E j).bind fun c j => .ok (.mk 9 0 [] [a, b, c] ps) j from by rw [HRR.out]; unfold exprT; rw [h0, if_neg (by simp), h1, if_pos rfl]; rw [hps])
  have HEN := Lib.hid (senter_any HR.out hL hk)
  clear HRR h0 h1 hps
  go_upto_region 14 with (go_at_call 95; refine HS0.out.mono ?_; rintro e w9 ⟨rfl, rfl⟩)
  go_upto_region 15 with (go_at_call 95; refine HS1.out.mono ?_; rintro e w9 ⟨rfl, rfl⟩)
  go_wp2_with fail
  refine (HEN.out).mono ?_
  intro e w3 h9
  rcases PGot.cases h9 with ⟨a, d, hr, he, hg⟩ | ⟨x, j, v, hr, rfl, hr3, hg3, rfl⟩
  · subst he
    go_wp2_with fail
    exact ⟨rfl, PGot.bad (HRY.out.trans (by rw [hr]; rfl)) ⟨rfl, grown_one HG.out hg⟩⟩
  · have hk0 := (enter_ok.mp hr).1
    have HRZ := Lib.hid (show R = (S j).bind fun a j => (mustT L j [61, 61]).bind fun _ j => (S j).bind fun b j => (mustT L j [59]).bind fun _ j => (E j).bind fun c j => .ok (.mk 9 0 [] [a, b, c] ps) j from HRY.out.trans (by rw [hr]; rfl))
    have HB3 := Lib.hid (HB.out.grown hg3 (by simp; omega))
    have HR3 := Lib.hid hr3
    replace HG := Lib.hid (grown_one HG.out hg3)
    have k0 : w3.cell? ⟨q, 0, none⟩ = some (.int .i64 0) := HB3.out.cell 0
    have f0 : w3.frozen? ⟨q, 0, none⟩ = false := HB3.out.free 0
    clear hr hr3 hg3 h9 HRY HEN HR HB
    go_upto_region 17 with fail
    have hg4 := setCell_grown w3 q 0 (.int .i64 9)
    have HB4 := Lib.hid (show BlkOf (w3.setCell ⟨q, 0, none⟩ (.int .i64 9)) q (pcells 9 0 [] (.slice none 0 0) ps) 152 from BlkOf.set HB3.out 0 (.int .i64 9))
    have HR4 := Lib.hid (show RdAt (w3.setCell ⟨q, 0, none⟩ (.int .i64 9)) b L j (lv + 1) from ⟨BlkOf.grown HR3.out.blk hg4 (by simp; omega), HR3.out.le⟩)
    replace HG := Lib.hid (grown_new HG.out hg4 (by rw [HQ.out]; omega))
    clear HB3 HR3 hg4 k0 f0
    generalize w3.setCell ⟨q, 0, none⟩ (.int .i64 9) = w4 at *
    have HE3 := Lib.hid (hE hk0)
    have HSM := Lib.hid (hS hk0)
    go_wp2_with fail
    refine (HSM.out w4 _ HR4.out (ext_turn HXZ.out HG.out HWB.out)).mono ?_
    intro e w5 h9
    rcases PGot.cases h9 with ⟨a, d, hr, he, hg⟩ | ⟨x1, m1, v, hr, rfl, hr5, hg5, ht5⟩
    · subst he
      go_wp2_with fail
      exact ⟨rfl, PGot.bad (HRZ.out.trans (by rw [hr]; rfl)) ⟨rfl, grown_one HG.out hg⟩⟩
    · obtain ⟨qa, rfl, -, -⟩ := trAt.ptr ht5
      have HRW := Lib.hid (show R = (mustT L m1 [61, 61]).bind fun _ j => (S j).bind fun b j => (mustT L j [59]).bind fun _ j => (E j).bind fun c j => .ok (.mk 9 0 [] [x1, b, c] ps) j from HRZ.out.trans (by rw [hr]; rfl))
      have HB5 := Lib.hid (HB4.out.grown hg5 (by simp; omega))
      have HLO := Lib.hid (show q + 1 ≤ w4.heap.size from HB4.out.lt)
      have HTA := Lib.hid (show trAt 152 83 x1 w4.heap.size w5.heap.size w5 (.pointer (some ⟨qa, 0, none⟩)) from ht5)
      have HR5 := Lib.hid hr5
      replace HG := Lib.hid (grown_one HG.out hg5)
      clear hr hr5 hg5 h9 HRZ HR4 HB4 ht5
      go_upto_region 18 with fail
      go_wp2_with fail
      refine (smust_any HR5.out hL [61, 61]).mono ?_
      intro e w6 h9
      rcases PGot.cases h9 with ⟨a, d, hr, he, hg⟩ | ⟨x9, m9, v9, hr, rfl, hr9, hg9, rfl⟩
      · subst he
        go_wp2_with fail
        exact ⟨rfl, PGot.bad (HRW.out.trans (by rw [hr]; rfl)) ⟨rfl, grown_one HG.out hg⟩⟩
      · have HRV := Lib.hid (show R = (S m9).bind fun b j => (mustT L j [59]).bind fun _ j => (E j).bind fun c j => .ok (.mk 9 0 [] [x1, b, c] ps) j from HRW.out.trans (by rw [hr]; rfl))
        have HB5n := Lib.hid (HB5.out.grown hg9 (by simp; omega))
        have HTAn := Lib.hid ((⟨HTA.out.kept hg9 (fun r e => by have := HLO.out; have := Option.some.inj e; omega), hg9.size⟩ : trAt 152 83 x1 w4.heap.size w5.heap.size w6 (.pointer (some ⟨qa, 0, none⟩)) ∧ w5.heap.size ≤ w6.heap.size))
        have HR5n := Lib.hid hr9
        replace HG := Lib.hid (grown_one HG.out hg9)
        clear hr hr9 hg9 h9 HRW HB5 HR5 HTA
        have OKA := Lib.hid (add_ok (w := w) (b := b) (q := q) (L := L) (lv := lv) (fun u => pcells 9 0 [] u ps) (.slice none 0 0) [] [] [(.pointer (some ⟨qa, 0, none⟩))] [x1] (S m9) m9 83 84 85 (by omega) (by rw [HQ.out]; omega) (by simp))
        have AIA := Lib.hid (fun vs => add_i0 (w := w) (b := b) (q := q) (L := L) (lv := lv) (cs := fun u => pcells 9 0 [] u ps) (r := S m9) (sc := 83) (sb := 84) (sa := 85) 4 7 8 9 12 HR5n.out HG.out HB5n.out (KidsIn.nil _) (.cons ⟨_, _, HLO.out, HTAn.out.2, HTAn.out.1, fun A hA => (by cases hA)⟩ .nil) vs)
        go_upto_region 19 with fail
        refine wp_region_halt (fun c w'' => PGot w b L lv (PTr w) R (.panicked c) w'') ?_ ?_
        · intro c a w'' hd hR
          go_wp2_with fail
          exact ⟨hd, hR⟩
        refine wp_region_mark 13 rfl (phiE [some (.pointer (some ⟨q, 0, none⟩)), some (.pointer (some ⟨q, 0, none⟩)), some (.pointer (some ⟨q, 0, none⟩)), some (.pointer (some ⟨q, 3, none⟩)), some (.slice none 0 0), some (.pointer (some ⟨qa, 0, none⟩)), some (.pointer (some ⟨b, 0, none⟩)), none, none, none, some (.pointer (some ⟨q, 0, none⟩)), some (.pointer (some ⟨q, 3, none⟩)), none]) [4, 7, 8, 9, 12] (AddI (addC w b q (q + 1) (fun j W => RdAt W b L j (lv + 1)) (fun _ => True) (fun u => pcells 9 0 [] u ps) (.slice none 0 0) [] [] [(.pointer (some ⟨qa, 0, none⟩))] [x1] (S m9) m9 83 84 85) 4 7 8 9 12) (fun _ _ => True) (by kernel_rfl) (by kernel_rfl) (by kernel_rfl) (fun j _ u W W' hu _ => phiE_stab _ j u W W' hu) (fun j hj hd u W => by have hj2 : j = 4 ∨ j = 7 ∨ j = 8 ∨ j = 9 ∨ j = 12 := (by simpa using hj); rcases hj2 with rfl | rfl | rfl | rfl | rfl <;> first | exact phiE_top _ _ rfl _ _ | (simp at hd)) (fun s s' vs vs' W W' h hg hs hv => h.free OKA.out hg (hs 4 rfl) (hs 7 rfl) (hs 8 rfl) (hs 9 rfl) (hs 12 rfl) (hv 7 rfl 83 rfl) (hv 8 rfl 84 rfl) (hv 9 rfl 85 rfl)) ?_ (by kernel_rfl) ?_ ?_
        · exact AIA.out _
        · refine ⟨?_, ?_, ?_, ?_, ?_, ?_, ?_, ?_, ?_, ?_, ?_, ?_, ?_, trivial⟩
          · refine bifF rfl (FreeStep.mk rfl fun vs W hk hd => ?_)
            clear hd
            obtain ⟨_, s, hS⟩ := hk
            clear hS
            simp only [fillA, fillL, dstL, List.take_succ_cons, List.take_zero, List.filterMap_cons, List.filterMap_nil, List.contains_cons, List.contains_nil, Nat.reduceAdd, Nat.zero_add, Nat.reduceBEq, Bool.or_false, Bool.or_true, Bool.false_eq_true, ↓reduceIte]
            go_wp2_with fail
            exact ⟨by trivial, World.grownBy.refl _ _, rfl⟩
          · refine bifF rfl (FreeStep.mk rfl fun vs W hk hd => ?_)
            clear hd
            obtain ⟨_, s, hS⟩ := hk
            clear hS
            simp only [fillA, fillL, dstL, List.take_succ_cons, List.take_zero, List.filterMap_cons, List.filterMap_nil, List.contains_cons, List.contains_nil, Nat.reduceAdd, Nat.zero_add, Nat.reduceBEq, Bool.or_false, Bool.or_true, Bool.false_eq_true, ↓reduceIte]
            go_wp2_with fail
            exact ⟨by trivial, World.grownBy.refl _ _, rfl⟩
          · refine bifF rfl (FreeStep.mk rfl fun vs W hk hd => ?_)
            have e77 : vs 77 = (.pointer (some ⟨q, 0, none⟩)) := hd 1 (by kernel_rfl)
            clear hd
            obtain ⟨_, s, hS⟩ := hk
            clear hS
            simp only [fillA, fillL, dstL, List.take_succ_cons, List.take_zero, List.filterMap_cons, List.filterMap_nil, List.contains_cons, List.contains_nil, Nat.reduceAdd, Nat.zero_add, Nat.reduceBEq, Bool.or_false, Bool.or_true, Bool.false_eq_true, ↓reduceIte]
            rw [e77]
            go_wp2_with fail
            exact ⟨by trivial, World.grownBy.refl _ _, rfl⟩
          · refine bifF rfl (FreeStep.mk rfl fun vs W hk hd => ?_)
            have e78 : vs 78 = (.pointer (some ⟨q, 0, none⟩)) := hd 2 (by kernel_rfl)
            clear hd
            obtain ⟨_, s, hS⟩ := hk
            clear hS
            simp only [fillA, fillL, dstL, List.take_succ_cons, List.take_zero, List.filterMap_cons, List.filterMap_nil, List.contains_cons, List.contains_nil, Nat.reduceAdd, Nat.zero_add, Nat.reduceBEq, Bool.or_false, Bool.or_true, Bool.false_eq_true, ↓reduceIte]
            rw [e78]
            go_wp2_with fail
            exact ⟨by trivial, World.grownBy.refl _ _, rfl⟩
          · refine bifT rfl (MarkStep.mk rfl fun s vs W hS hi hdp hd => ?_)
            have e79 : vs 79 = (.pointer (some ⟨q, 3, none⟩)) := hd 3 (by kernel_rfl)
            clear hd
            have hk3 : W.cell? ⟨q, 3, none⟩ = some (.slice none 0 0) := (AddI.node hS hi).cell 3
            simp only [fillA, fillL, dstL, List.take_succ_cons, List.take_zero, List.filterMap_cons, List.filterMap_nil, List.contains_cons, List.contains_nil, Nat.reduceAdd, Nat.zero_add, Nat.reduceBEq, Bool.or_false, Bool.or_true, Bool.false_eq_true, ↓reduceIte]
            rw [e79]
            go_wp2_with fail
            exact ⟨by trivial, trivial, AddI.loaded OKA.out hS (by decide) (World.grownBy.refl _ _) rfl rfl rfl, rfl⟩
          · refine bifF rfl (FreeStep.mk rfl fun vs W hk hd => ?_)
            clear hd
            obtain ⟨_, s, hS⟩ := hk
            clear hS
            simp only [fillA, fillL, dstL, List.take_succ_cons, List.take_zero, List.filterMap_cons, List.filterMap_nil, List.contains_cons, List.contains_nil, Nat.reduceAdd, Nat.zero_add, Nat.reduceBEq, Bool.or_false, Bool.or_true, Bool.false_eq_true, ↓reduceIte]
            go_wp2_with fail
            exact ⟨by trivial, World.grownBy.refl _ _, rfl⟩
          · refine bifF rfl (FreeStep.mk rfl fun vs W hk hd => ?_)
            clear hd
            obtain ⟨_, s, hS⟩ := hk
            clear hS
            simp only [fillA, fillL, dstL, List.take_succ_cons, List.take_zero, List.filterMap_cons, List.filterMap_nil, List.contains_cons, List.contains_nil, Nat.reduceAdd, Nat.zero_add, Nat.reduceBEq, Bool.or_false, Bool.or_true, Bool.false_eq_true, ↓reduceIte]
            go_wp2_with fail
            exact ⟨by trivial, World.grownBy.refl _ _, rfl⟩
          · refine bifT rfl (MarkStep.mk rfl fun s vs W hS hi hdp hd => ?_)
            have e82 : vs 82 = (.pointer (some ⟨b, 0, none⟩)) := hd 6 (by kernel_rfl)
            clear hd
            have hg0 := hS.g
            simp only [fillA, fillL, dstL, List.take_succ_cons, List.take_zero, List.filterMap_cons, List.filterMap_nil, List.contains_cons, List.contains_nil, Nat.reduceAdd, Nat.zero_add, Nat.reduceBEq, Bool.or_false, Bool.or_true, Bool.false_eq_true, ↓reduceIte]
            rw [e82]
            go_wp2_with fail
            refine (HSM.out W _ (AddI.place hS hi) (ext_turn HXZ.out hg0 HWB.out)).mono ?_
            intro e w3 h3
            rcases h3.cases with ⟨a, k, hr, he, hg⟩ | ⟨x, j, v, hr, rfl, hr1, hg1, ht1⟩
            · subst he
              go_wp2_with fail
              exact OrHalt.panic rfl (PGot.bad (HRV.out.trans (by rw [show S m9 = Ps.bad a k from hr]; rfl)) ⟨rfl, grown_one hg0 hg⟩)
            · go_wp2_with fail
              exact ⟨by trivial, trivial, AddI.called OKA.out hS hi (by decide) hr hr1 hg1 ht1 rfl, trivial⟩
          · refine bifT rfl (MarkStep.mk rfl fun s vs W hS hi hdp hd => ?_)
            have e81 : vs 81 = (.pointer (some ⟨qa, 0, none⟩)) := hd 5 (by kernel_rfl)
            clear hd
            obtain ⟨p1, hp1⟩ := hS.ptr (hdp 7 (by kernel_rfl)) hi rfl
            replace hp1 : vs 83 = .pointer (some ⟨p1, 0, none⟩) := hp1
            simp only [fillA, fillL, dstL, List.take_succ_cons, List.take_zero, List.filterMap_cons, List.filterMap_nil, List.contains_cons, List.contains_nil, Nat.reduceAdd, Nat.zero_add, Nat.reduceBEq, Bool.or_false, Bool.or_true, Bool.false_eq_true, ↓reduceIte]
            rw [hp1, e81]
            go_wp2_with fail
            exact ⟨by trivial, trivial, AddI.built OKA.out hS (hdp 7 (by kernel_rfl)) hi (by decide) (congrArg (fun u => W.alloc (.cells #[(.pointer (some ⟨qa, 0, none⟩)), u] 83)) hp1.symm) rfl rfl, trivial⟩
          · refine bifT rfl (MarkStep.mk rfl fun s vs W hS hi hdp hd => ?_)
            have e80 : vs 80 = (.slice none 0 0) := hd 4 (by kernel_rfl)
            clear hd
            obtain ⟨ho, z, hz, hzb, h1⟩ := hS.row (hdp 8 (by kernel_rfl)) hi
            replace hz : vs 84 = _ := hz
            have hlw := hS.lw
            simp only [fillA, fillL, dstL, List.take_succ_cons, List.take_zero, List.filterMap_cons, List.filterMap_nil, List.contains_cons, List.contains_nil, Nat.reduceAdd, Nat.zero_add, Nat.reduceBEq, Bool.or_false, Bool.or_true, Bool.false_eq_true, ↓reduceIte]
            rw [e80, hz]
            go_wp2_with (at_builtin; refine wpList_appBlk rfl _ _ 150 rfl slParts rfl hlw ho rfl hzb h1 rfl (by have := OKA.out.small; simp at this ⊢; omega) (by decide) ?_; intro v' w' k1 k2 k3)
            exact ⟨by trivial, trivial, AddI.appd OKA.out hS (hdp 4 (by kernel_rfl)) (hdp 8 (by kernel_rfl)) hi (by decide) k1 k2 k3 rfl, trivial⟩
          · refine bifF rfl (FreeStep.mk rfl fun vs W hk hd => ?_)
            have e76 : vs 76 = (.pointer (some ⟨q, 0, none⟩)) := hd 0 (by kernel_rfl)
            clear hd
            obtain ⟨_, s, hS⟩ := hk
            clear hS
            simp only [fillA, fillL, dstL, List.take_succ_cons, List.take_zero, List.filterMap_cons, List.filterMap_nil, List.contains_cons, List.contains_nil, Nat.reduceAdd, Nat.zero_add, Nat.reduceBEq, Bool.or_false, Bool.or_true, Bool.false_eq_true, ↓reduceIte]
            rw [e76]
            go_wp2_with fail
            exact ⟨by trivial, World.grownBy.refl _ _, rfl⟩
          · refine bifF rfl (FreeStep.mk rfl fun vs W hk hd => ?_)
            have e86 : vs 86 = (.pointer (some ⟨q, 0, none⟩)) := hd 10 (by kernel_rfl)
            clear hd
            obtain ⟨_, s, hS⟩ := hk
            clear hS
            simp only [fillA, fillL, dstL, List.take_succ_cons, List.take_zero, List.filterMap_cons, List.filterMap_nil, List.contains_cons, List.contains_nil, Nat.reduceAdd, Nat.zero_add, Nat.reduceBEq, Bool.or_false, Bool.or_true, Bool.false_eq_true, ↓reduceIte]
            rw [e86]
            go_wp2_with fail
            exact ⟨by trivial, World.grownBy.refl _ _, rfl⟩
          · refine bifT rfl (MarkStep.mk rfl fun s vs W hS hi hdp hd => ?_)
            have e87 : vs 87 = (.pointer (some ⟨q, 3, none⟩)) := hd 11 (by kernel_rfl)
            clear hd
            obtain ⟨hbk, ao, nn, cap, hsa⟩ := hS.node3 (hdp 9 (by kernel_rfl)) hi
            replace hsa : vs 85 = .slice ao nn cap := hsa
            have hk3 : W.cell? ⟨q, 3, none⟩ = some (.slice none 0 0) := hbk.cell 3
            have hf3 : W.frozen? ⟨q, 3, none⟩ = false := hbk.free 3
            simp only [fillA, fillL, dstL, List.take_succ_cons, List.take_zero, List.filterMap_cons, List.filterMap_nil, List.contains_cons, List.contains_nil, Nat.reduceAdd, Nat.zero_add, Nat.reduceBEq, Bool.or_false, Bool.or_true, Bool.false_eq_true, ↓reduceIte]
            rw [e87, hsa]
            go_wp2_with fail
            exact ⟨by trivial, trivial, AddI.stored OKA.out hS (hdp 9 (by kernel_rfl)) hi (by decide) (f := 3) (fun _ => rfl) (congrArg (fun u => W.setCell ⟨q, 3, none⟩ u) hsa.symm), trivial⟩
        · intro s vs wa hall hs hS
          obtain ⟨hga, hxa, hla, ya, ja, usa, kva, hra, hRa, hBa, hKa⟩ := AddI.end_ hS (hs 12 rfl)
          have HGa := Lib.hid hga; have HXa := Lib.hid hxa; have HLa := Lib.hid hla; have HRa := Lib.hid hra; have HRDa := Lib.hid hRa; have HBa := Lib.hid hBa; have HKa := Lib.hid hKa
          clear hga hxa hla hra hRa hBa hKa hS hs hall
          refine OrHalt.normal ?_
          simp only [fillA, fillL, dstL, List.take_succ_cons, List.take_zero, List.filterMap_cons, List.filterMap_nil, List.contains_cons, List.contains_nil, Nat.reduceAdd, Nat.zero_add, Nat.reduceBEq, Bool.or_false, Bool.or_true, Bool.false_eq_true, ↓reduceIte]
          have HKa2 := Lib.hid (show KidsIn 152 83 (q + 1) wa kva usa [x1, ya] from HKa.out)
          have HRU := Lib.hid (show R = (mustT L ja [59]).bind fun _ j => (E j).bind fun c j => .ok (.mk 9 0 [] [x1, ya, c] ps) j from HRV.out.trans (by rw [show S m9 = Ps.ok ya ja from HRa.out]; rfl))
          have HBa2 := Lib.hid (show BlkOf wa q (pcells 9 0 [] kva ps) 152 from HBa.out)
          have HRa2 := Lib.hid (show RdAt wa b L ja (lv + 1) from HRDa.out)
          replace HG := Lib.hid (show w.grownBy wa (some b) from HGa.out)
          clear HRa HBa HKa HRDa HGa HXa HLa HRV OKA AIA HR5n HB5n HTAn HLO
          go_upto_region 20 with fail
          go_wp2_with fail
          refine (smust_any HRa2.out hL [59]).mono ?_
          intro e w8 h9
          rcases PGot.cases h9 with ⟨a, d, hr, he, hg⟩ | ⟨x9, m9, v9, hr, rfl, hr9, hg9, rfl⟩
          · subst he
            go_wp2_with fail
            exact ⟨rfl, PGot.bad (HRU.out.trans (by rw [hr]; rfl)) ⟨rfl, grown_one HG.out hg⟩⟩
          · have HRT := Lib.hid (show R = (E m9).bind fun c j => .ok (.mk 9 0 [] [x1, ya, c] ps) j from HRU.out.trans (by rw [hr]; rfl))
            have HBa2n := Lib.hid (HBa2.out.grown hg9 (by simp; omega))
            have HKa2n := Lib.hid (HKa2.out.kept hg9 (fun r e => by have := Option.some.inj e; omega))
            have HRa2n := Lib.hid hr9
            replace HG := Lib.hid (grown_one HG.out hg9)
            clear hr hr9 hg9 h9 HRU HBa2 HRa2 HKa2
            have OKT := Lib.hid (add_ok (w := w) (b := b) (q := q) (L := L) (lv := lv) (fun u => pcells 9 0 [] u ps) kva usa [x1, ya] [] [] (E m9) m9 130 131 132 (by omega) (by rw [HQ.out]; omega) (by simp))
            have AIT := Lib.hid (fun vs => add_i0 (w := w) (b := b) (q := q) (L := L) (lv := lv) (cs := fun u => pcells 9 0 [] u ps) (r := E m9) (sc := 130) (sb := 131) (sa := 132) 4 6 7 8 11 HRa2n.out HG.out HBa2n.out HKa2n.out .nil vs)
            go_upto_region 28 with fail
            refine wp_region_halt (fun c w'' => PGot w b L lv (PTr w) R (.panicked c) w'') ?_ ?_
            · intro c a w'' hd hR
              go_wp2_with fail
              exact ⟨hd, hR⟩
            refine wp_region_mark 12 rfl (phiE [some (.pointer (some ⟨q, 0, none⟩)), some (.pointer (some ⟨q, 0, none⟩)), some (.pointer (some ⟨q, 0, none⟩)), some (.pointer (some ⟨q, 3, none⟩)), some kva, some (.pointer (some ⟨b, 0, none⟩)), none, none, none, some (.pointer (some ⟨q, 0, none⟩)), some (.pointer (some ⟨q, 3, none⟩)), none]) [4, 6, 7, 8, 11] (AddI (addC w b q (q + 1) (fun j W => RdAt W b L j (lv + 1)) (fun _ => True) (fun u => pcells 9 0 [] u ps) kva usa [x1, ya] [] [] (E m9) m9 130 131 132) 4 6 7 8 11) (fun _ _ => True) (by kernel_rfl) (by kernel_rfl) (by kernel_rfl) (fun j _ u W W' hu _ => phiE_stab _ j u W W' hu) (fun j hj hd u W => by have hj2 : j = 4 ∨ j = 6 ∨ j = 7 ∨ j = 8 ∨ j = 11 := (by simpa using hj); rcases hj2 with rfl | rfl | rfl | rfl | rfl <;> first | exact phiE_top _ _ rfl _ _ | (simp at hd)) (fun s s' vs vs' W W' h hg hs hv => h.free OKT.out hg (hs 4 rfl) (hs 6 rfl) (hs 7 rfl) (hs 8 rfl) (hs 11 rfl) (hv 6 rfl 130 rfl) (hv 7 rfl 131 rfl) (hv 8 rfl 132 rfl)) ?_ (by kernel_rfl) ?_ ?_
            · exact AIT.out _
            · refine ⟨?_, ?_, ?_, ?_, ?_, ?_, ?_, ?_, ?_, ?_, ?_, ?_, trivial⟩
              · refine bifF rfl (FreeStep.mk rfl fun vs W hk hd => ?_)
                clear hd
                obtain ⟨_, s, hS⟩ := hk
                clear hS
                simp only [fillA, fillL, dstL, List.take_succ_cons, List.take_zero, List.filterMap_cons, List.filterMap_nil, List.contains_cons, List.contains_nil, Nat.reduceAdd, Nat.zero_add, Nat.reduceBEq, Bool.or_false, Bool.or_true, Bool.false_eq_true, ↓reduceIte]
                go_wp2_with fail
                exact ⟨by trivial, World.grownBy.refl _ _, rfl⟩
              · refine bifF rfl (FreeStep.mk rfl fun vs W hk hd => ?_)
                clear hd
                obtain ⟨_, s, hS⟩ := hk
                clear hS
                simp only [fillA, fillL, dstL, List.take_succ_cons, List.take_zero, List.filterMap_cons, List.filterMap_nil, List.contains_cons, List.contains_nil, Nat.reduceAdd, Nat.zero_add, Nat.reduceBEq, Bool.or_false, Bool.or_true, Bool.false_eq_true, ↓reduceIte]
                go_wp2_with fail
                exact ⟨by trivial, World.grownBy.refl _ _, rfl⟩
              · refine bifF rfl (FreeStep.mk rfl fun vs W hk hd => ?_)
                have e125 : vs 125 = (.pointer (some ⟨q, 0, none⟩)) := hd 1 (by kernel_rfl)
                clear hd
                obtain ⟨_, s, hS⟩ := hk
                clear hS
                simp only [fillA, fillL, dstL, List.take_succ_cons, List.take_zero, List.filterMap_cons, List.filterMap_nil, List.contains_cons, List.contains_nil, Nat.reduceAdd, Nat.zero_add, Nat.reduceBEq, Bool.or_false, Bool.or_true, Bool.false_eq_true, ↓reduceIte]
                rw [e125]
                go_wp2_with fail
                exact ⟨by trivial, World.grownBy.refl _ _, rfl⟩
              · refine bifF rfl (FreeStep.mk rfl fun vs W hk hd => ?_)
                have e126 : vs 126 = (.pointer (some ⟨q, 0, none⟩)) := hd 2 (by kernel_rfl)
                clear hd
                obtain ⟨_, s, hS⟩ := hk
                clear hS
                simp only [fillA, fillL, dstL, List.take_succ_cons, List.take_zero, List.filterMap_cons, List.filterMap_nil, List.contains_cons, List.contains_nil, Nat.reduceAdd, Nat.zero_add, Nat.reduceBEq, Bool.or_false, Bool.or_true, Bool.false_eq_true, ↓reduceIte]
                rw [e126]
                go_wp2_with fail
                exact ⟨by trivial, World.grownBy.refl _ _, rfl⟩
              · refine bifT rfl (MarkStep.mk rfl fun s vs W hS hi hdp hd => ?_)
                have e127 : vs 127 = (.pointer (some ⟨q, 3, none⟩)) := hd 3 (by kernel_rfl)
                clear hd
                have hk3 : W.cell? ⟨q, 3, none⟩ = some kva := (AddI.node hS hi).cell 3
                simp only [fillA, fillL, dstL, List.take_succ_cons, List.take_zero, List.filterMap_cons, List.filterMap_nil, List.contains_cons, List.contains_nil, Nat.reduceAdd, Nat.zero_add, Nat.reduceBEq, Bool.or_false, Bool.or_true, Bool.false_eq_true, ↓reduceIte]
                rw [e127]
                go_wp2_with fail
                exact ⟨by trivial, trivial, AddI.loaded OKT.out hS (by decide) (World.grownBy.refl _ _) rfl rfl rfl, rfl⟩
              · refine bifF rfl (FreeStep.mk rfl fun vs W hk hd => ?_)
                clear hd
                obtain ⟨_, s, hS⟩ := hk
                clear hS
                simp only [fillA, fillL, dstL, List.take_succ_cons, List.take_zero, List.filterMap_cons, List.filterMap_nil, List.contains_cons, List.contains_nil, Nat.reduceAdd, Nat.zero_add, Nat.reduceBEq, Bool.or_false, Bool.or_true, Bool.false_eq_true, ↓reduceIte]
                go_wp2_with fail
                exact ⟨by trivial, World.grownBy.refl _ _, rfl⟩
              · refine bifT rfl (MarkStep.mk rfl fun s vs W hS hi hdp hd => ?_)
                have e129 : vs 129 = (.pointer (some ⟨b, 0, none⟩)) := hd 5 (by kernel_rfl)
                clear hd
                have hg0 := hS.g
                simp only [fillA, fillL, dstL, List.take_succ_cons, List.take_zero, List.filterMap_cons, List.filterMap_nil, List.contains_cons, List.contains_nil, Nat.reduceAdd, Nat.zero_add, Nat.reduceBEq, Bool.or_false, Bool.or_true, Bool.false_eq_true, ↓reduceIte]
                rw [e129]
                go_wp2_with fail
                refine (HE3.out W _ (AddI.place hS hi) (ext_turn HXZ.out hg0 HWB.out)).mono ?_
                intro e w3 h3
                rcases h3.cases with ⟨a, k, hr, he, hg⟩ | ⟨x, j, v, hr, rfl, hr1, hg1, ht1⟩
                · subst he
                  go_wp2_with fail
                  exact OrHalt.panic rfl (PGot.bad (HRT.out.trans (by rw [show E m9 = Ps.bad a k from hr]; rfl)) ⟨rfl, grown_one hg0 hg⟩)
                · go_wp2_with fail
                  exact ⟨by trivial, trivial, AddI.called OKT.out hS hi (by decide) hr hr1 hg1 ht1 rfl, trivial⟩
              · refine bifT rfl (MarkStep.mk rfl fun s vs W hS hi hdp hd => ?_)
                clear hd
                obtain ⟨p1, hp1⟩ := hS.ptr (hdp 6 (by kernel_rfl)) hi rfl
                replace hp1 : vs 130 = .pointer (some ⟨p1, 0, none⟩) := hp1
                simp only [fillA, fillL, dstL, List.take_succ_cons, List.take_zero, List.filterMap_cons, List.filterMap_nil, List.contains_cons, List.contains_nil, Nat.reduceAdd, Nat.zero_add, Nat.reduceBEq, Bool.or_false, Bool.or_true, Bool.false_eq_true, ↓reduceIte]
                rw [hp1]
                go_wp2_with fail
                exact ⟨by trivial, trivial, AddI.built OKT.out hS (hdp 6 (by kernel_rfl)) hi (by decide) (congrArg (fun u => W.alloc (.cells #[u] 83)) hp1.symm) rfl rfl, trivial⟩
              · refine bifT rfl (MarkStep.mk rfl fun s vs W hS hi hdp hd => ?_)
                have e128 : vs 128 = kva := hd 4 (by kernel_rfl)
                clear hd
                obtain ⟨ho, z, hz, hzb, h1⟩ := hS.row (hdp 7 (by kernel_rfl)) hi
                replace hz : vs 131 = _ := hz
                have hlw := hS.lw
                simp only [fillA, fillL, dstL, List.take_succ_cons, List.take_zero, List.filterMap_cons, List.filterMap_nil, List.contains_cons, List.contains_nil, Nat.reduceAdd, Nat.zero_add, Nat.reduceBEq, Bool.or_false, Bool.or_true, Bool.false_eq_true, ↓reduceIte]
                rw [e128, hz]
                go_wp2_with (at_builtin; refine wpList_appBlk rfl _ _ 150 rfl slParts rfl hlw ho rfl hzb h1 rfl (by have := OKT.out.small; simp at this ⊢; omega) (by decide) ?_; intro v' w' k1 k2 k3)
                exact ⟨by trivial, trivial, AddI.appd OKT.out hS (hdp 4 (by kernel_rfl)) (hdp 7 (by kernel_rfl)) hi (by decide) k1 k2 k3 rfl, trivial⟩
              · refine bifF rfl (FreeStep.mk rfl fun vs W hk hd => ?_)
                have e124 : vs 124 = (.pointer (some ⟨q, 0, none⟩)) := hd 0 (by kernel_rfl)
                clear hd
                obtain ⟨_, s, hS⟩ := hk
                clear hS
                simp only [fillA, fillL, dstL, List.take_succ_cons, List.take_zero, List.filterMap_cons, List.filterMap_nil, List.contains_cons, List.contains_nil, Nat.reduceAdd, Nat.zero_add, Nat.reduceBEq, Bool.or_false, Bool.or_true, Bool.false_eq_true, ↓reduceIte]
                rw [e124]
                go_wp2_with fail
                exact ⟨by trivial, World.grownBy.refl _ _, rfl⟩
              · refine bifF rfl (FreeStep.mk rfl fun vs W hk hd => ?_)
                have e133 : vs 133 = (.pointer (some ⟨q, 0, none⟩)) := hd 9 (by kernel_rfl)
                clear hd
                obtain ⟨_, s, hS⟩ := hk
                clear hS
                simp only [fillA, fillL, dstL, List.take_succ_cons, List.take_zero, List.filterMap_cons, List.filterMap_nil, List.contains_cons, List.contains_nil, Nat.reduceAdd, Nat.zero_add, Nat.reduceBEq, Bool.or_false, Bool.or_true, Bool.false_eq_true, ↓reduceIte]
                rw [e133]
                go_wp2_with fail
                exact ⟨by trivial, World.grownBy.refl _ _, rfl⟩
              · refine bifT rfl (MarkStep.mk rfl fun s vs W hS hi hdp hd => ?_)
                have e134 : vs 134 = (.pointer (some ⟨q, 3, none⟩)) := hd 10 (by kernel_rfl)
                clear hd
                obtain ⟨hbk, ao, nn, cap, hsa⟩ := hS.node3 (hdp 8 (by kernel_rfl)) hi
                replace hsa : vs 132 = .slice ao nn cap := hsa
                have hk3 : W.cell? ⟨q, 3, none⟩ = some kva := hbk.cell 3
                have hf3 : W.frozen? ⟨q, 3, none⟩ = false := hbk.free 3
                simp only [fillA, fillL, dstL, List.take_succ_cons, List.take_zero, List.filterMap_cons, List.filterMap_nil, List.contains_cons, List.contains_nil, Nat.reduceAdd, Nat.zero_add, Nat.reduceBEq, Bool.or_false, Bool.or_true, Bool.false_eq_true, ↓reduceIte]
                rw [e134, hsa]
                go_wp2_with fail
                exact ⟨by trivial, trivial, AddI.stored OKT.out hS (hdp 8 (by kernel_rfl)) hi (by decide) (f := 3) (fun _ => rfl) (congrArg (fun u => W.setCell ⟨q, 3, none⟩ u) hsa.symm), trivial⟩
            · intro s vs wt hall hs hS
              obtain ⟨hgt, hxt, hlt, yt, jt, ust, kvt, hrt, hRt, hBt, hKt⟩ := AddI.end_ hS (hs 11 rfl)
              have HGt := Lib.hid hgt; have HXt := Lib.hid hxt; have HLt := Lib.hid hlt; have HRt := Lib.hid hrt; have HRDt := Lib.hid hRt; have HBt := Lib.hid hBt; have HKt := Lib.hid hKt
              clear hgt hxt hlt hrt hRt hBt hKt hS hs hall
              refine OrHalt.normal ?_
              simp only [fillA, fillL, dstL, List.take_succ_cons, List.take_zero, List.filterMap_cons, List.filterMap_nil, List.contains_cons, List.contains_nil, Nat.reduceAdd, Nat.zero_add, Nat.reduceBEq, Bool.or_false, Bool.or_true, Bool.false_eq_true, ↓reduceIte]
              have HRQ := Lib.hid (show RdAt wt b L jt (lv + 1) from HRDt.out)
              have HKQ := Lib.hid (show KidsIn 152 83 (q + 1) wt kvt ust [x1, ya, yt] from HKt.out)
              have HBQ := Lib.hid (show BlkOf wt q (pcells 9 0 [] kvt ps) 152 from HBt.out)
              have HGQ := Lib.hid (show w.grownBy wt (some b) from HGt.out)
              have k5 := HRQ.out.lev
              have f5 := BlkOf.free HRQ.out.blk 5
              go_wp2_with fail
              go_ret
              exact PGot.ok (HRT.out.trans (by rw [show E m9 = Ps.ok yt jt from HRt.out]; rfl)) (HRQ.out.back (by omega)) (grown_one HGQ.out (setCell_grown _ _ _ _)) ((HKQ.out.kept (setCell_grown _ _ _ _) (fun r e => by have := Option.some.inj e; omega)).done (by rw [HQ.out]; omega) (by rw [HQ.out]; omega) (HBQ.out.grown (setCell_grown _ _ _ _) (by simp; omega)))
set_option maxRecDepth 100000 in
set_option maxHeartbeats 16000000 in
theorem sexpr_if {k : Nat} {S E S0 : Nat → Ps Tr} (hk : lv + k = 64) (hE : k ≠ 0 → ReadsBy wz 56 b L (lv + 1) E) (hL : L.length ≤ 4000) (hwb : wz.heap.size ≤ b) (h : RdAt w b L i lv) (hx : Ext wz w) (h0 : isT L i [108, 101, 116] = false) (h1 : isT L i [110, 101, 101, 100] = false) (h2 : isT L i [105, 102] = true) :
    Calls Tryz.prog 56 #[.pointer (some ⟨b, 0, none⟩)] w (PGot w b L lv (PTr w) (exprT L k S E S0 i)) := by
  have c3 : w.cell? ⟨b, 3, none⟩ = some (.int .i64 (tokN L i).pos) := BlkOf.cell h.blk 3
  have hbq := h.lt
  have e1 := Ext.alloc w (.cells #[.int .i64 0, .int .i64 0, .string ⟨#[]⟩, .slice none 0 0, .int .i64 (tokN L i).pos] 152)
  have HB := Lib.hid (BlkOf.new w (pcells 0 0 [] (.slice none 0 0) (tokN L i).pos) 152)
  replace HB : Hid (BlkOf (w.alloc (.cells #[.int .i64 0, .int .i64 0, .string ⟨#[]⟩, .slice none 0 0, .int .i64 (tokN L i).pos] 152)) w.heap.size (pcells 0 0 [] (.slice none 0 0) (tokN L i).pos) 152) := HB
  have HR := Lib.hid (h.ext e1)
  have HG := Lib.hid (e1.grownBy (some b))
  have HXZ := Lib.hid hx; have HWB := Lib.hid hwb
  generalize hR : exprT L k S E S0 i = R
  have HRR := Lib.hid hR.symm
  clear hR h hx hwb
  go_enter Tryz.func56, Tryz.ntmps56
  go_upto_region 7 with fail
  generalize w.alloc (.cells #[.int .i64 0, .int .i64 0, .string ⟨#[]⟩, .slice none 0 0, .int .i64 (tokN L i).pos] 152) = w2 at *
  obtain ⟨q, hq⟩ : ∃ q, w.heap.size = q := ⟨_, rfl⟩
  rw [hq] at HB hbq ⊢
  have HQ := Lib.hid hq
  clear hq e1 c3
  obtain ⟨ps, hps⟩ : ∃ ps, (tokN L i).pos = ps := ⟨_, rfl⟩
  rw [hps] at HB
  simp only [hps]
  have HS0 := Lib.hid (sis_any HR.out [108, 101, 116])
  rw [h0] at HS0
  have HS1 := Lib.hid (sis_any HR.out [110, 101, 101, 100])
  rw [h1] at HS1
  have HS2 := Lib.hid (sis_any HR.out [105, 102])
  rw [h2] at HS2
  have HRY := Lib.hid (show R = (enterT L k i).bind fun _ j => (E j).bind fun a j => (mustT L j [116, 104, 101, 110]).bind fun _ j => (E j).bind fun b j => (mustT L j [101, 108, 115, 101]).bind fun _ j => (E j).bind fun c j => .ok (.mk 10 0 [] [a, b, c] ps) j from by rw [HRR.out]; unfold exprT; rw [h0, if_neg (by simp), h1, if_neg (by simp), h2, if_pos rfl]; rw [hps])
  have HEN := Lib.hid (senter_any HR.out hL hk)
  clear HRR h0 h1 h2 hps
  go_upto_region 14 with (go_at_call 95; refine HS0.out.mono ?_; rintro e w9 ⟨rfl, rfl⟩)
  go_upto_region 21 with (go_at_call 95; refine HS1.out.mono ?_; rintro e w9 ⟨rfl, rfl⟩)
  go_upto_region 22 with (go_at_call 95; refine HS2.out.mono ?_; rintro e w9 ⟨rfl, rfl⟩)
  go_wp2_with fail
  refine (HEN.out).mono ?_
  intro e w3 h9
  rcases PGot.cases h9 with ⟨a, d, hr, he, hg⟩ | ⟨x, j, v, hr, rfl, hr3, hg3, rfl⟩
  · subst he
    go_wp2_with fail
    exact ⟨rfl, PGot.bad (HRY.out.trans (by rw [hr]; rfl)) ⟨rfl, grown_one HG.out hg⟩⟩
  · have hk0 := (enter_ok.mp hr).1
    have HRZ := Lib.hid (show R = (E j).bind fun a j => (mustT L j [116, 104, 101, 110]).bind fun _ j => (E j).bind fun b j => (mustT L j [101, 108, 115, 101]).bind fun _ j => (E j).bind fun c j => .ok (.mk 10 0 [] [a, b, c] ps) j from HRY.out.trans (by rw [hr]; rfl))
    have HB3 := Lib.hid (HB.out.grown hg3 (by simp; omega))
    have HR3 := Lib.hid hr3
    replace HG := Lib.hid (grown_one HG.out hg3)
    have k0 : w3.cell? ⟨q, 0, none⟩ = some (.int .i64 0) := HB3.out.cell 0
    have f0 : w3.frozen? ⟨q, 0, none⟩ = false := HB3.out.free 0
    clear hr hr3 hg3 h9 HRY HEN HR HB
    go_upto_region 24 with fail
    have hg4 := setCell_grown w3 q 0 (.int .i64 10)
    have HB4 := Lib.hid (show BlkOf (w3.setCell ⟨q, 0, none⟩ (.int .i64 10)) q (pcells 10 0 [] (.slice none 0 0) ps) 152 from BlkOf.set HB3.out 0 (.int .i64 10))
    have HR4 := Lib.hid (show RdAt (w3.setCell ⟨q, 0, none⟩ (.int .i64 10)) b L j (lv + 1) from ⟨BlkOf.grown HR3.out.blk hg4 (by simp; omega), HR3.out.le⟩)
    replace HG := Lib.hid (grown_new HG.out hg4 (by rw [HQ.out]; omega))
    clear HB3 HR3 hg4 k0 f0
    generalize w3.setCell ⟨q, 0, none⟩ (.int .i64 10) = w4 at *
    have HE3 := Lib.hid (hE hk0)
    have OKA := Lib.hid (add_ok (w := w) (b := b) (q := q) (L := L) (lv := lv) (fun u => pcells 10 0 [] u ps) (.slice none 0 0) [] [] [] [] (E j) j 104 105 106 (by omega) (by rw [HQ.out]; omega) (by simp))
    have AIA := Lib.hid (fun vs => add_i0 (w := w) (b := b) (q := q) (L := L) (lv := lv) (cs := fun u => pcells 10 0 [] u ps) (r := E j) (sc := 104) (sb := 105) (sa := 106) 4 6 7 8 11 HR4.out HG.out HB4.out (KidsIn.nil _) .nil vs)
    go_upto_region 24 with fail
    refine wp_region_halt (fun c w'' => PGot w b L lv (PTr w) R (.panicked c) w'') ?_ ?_
    · intro c a w'' hd hR
      go_wp2_with fail
      exact ⟨hd, hR⟩
    refine wp_region_mark 12 rfl (phiE [some (.pointer (some ⟨q, 0, none⟩)), some (.pointer (some ⟨q, 0, none⟩)), some (.pointer (some ⟨q, 0, none⟩)), some (.pointer (some ⟨q, 3, none⟩)), some (.slice none 0 0), some (.pointer (some ⟨b, 0, none⟩)), none, none, none, some (.pointer (some ⟨q, 0, none⟩)), some (.pointer (some ⟨q, 3, none⟩)), none]) [4, 6, 7, 8, 11] (AddI (addC w b q (q + 1) (fun j W => RdAt W b L j (lv + 1)) (fun _ => True) (fun u => pcells 10 0 [] u ps) (.slice none 0 0) [] [] [] [] (E j) j 104 105 106) 4 6 7 8 11) (fun _ _ => True) (by kernel_rfl) (by kernel_rfl) (by kernel_rfl) (fun j _ u W W' hu _ => phiE_stab _ j u W W' hu) (fun j hj hd u W => by have hj2 : j = 4 ∨ j = 6 ∨ j = 7 ∨ j = 8 ∨ j = 11 := (by simpa using hj); rcases hj2 with rfl | rfl | rfl | rfl | rfl <;> first | exact phiE_top _ _ rfl _ _ | (simp at hd)) (fun s s' vs vs' W W' h hg hs hv => h.free OKA.out hg (hs 4 rfl) (hs 6 rfl) (hs 7 rfl) (hs 8 rfl) (hs 11 rfl) (hv 6 rfl 104 rfl) (hv 7 rfl 105 rfl) (hv 8 rfl 106 rfl)) ?_ (by kernel_rfl) ?_ ?_
    · exact AIA.out _
    · refine ⟨?_, ?_, ?_, ?_, ?_, ?_, ?_, ?_, ?_, ?_, ?_, ?_, trivial⟩
      · refine bifF rfl (FreeStep.mk rfl fun vs W hk hd => ?_)
        clear hd
        obtain ⟨_, s, hS⟩ := hk
        clear hS
        simp only [fillA, fillL, dstL, List.take_succ_cons, List.take_zero, List.filterMap_cons, List.filterMap_nil, List.contains_cons, List.contains_nil, Nat.reduceAdd, Nat.zero_add, Nat.reduceBEq, Bool.or_false, Bool.or_true, Bool.false_eq_true, ↓reduceIte]
        go_wp2_with fail
        exact ⟨by trivial, World.grownBy.refl _ _, rfl⟩
      · refine bifF rfl (FreeStep.mk rfl fun vs W hk hd => ?_)
        clear hd
        obtain ⟨_, s, hS⟩ := hk
        clear hS
        simp only [fillA, fillL, dstL, List.take_succ_cons, List.take_zero, List.filterMap_cons, List.filterMap_nil, List.contains_cons, List.contains_nil, Nat.reduceAdd, Nat.zero_add, Nat.reduceBEq, Bool.or_false, Bool.or_true, Bool.false_eq_true, ↓reduceIte]
        go_wp2_with fail
        exact ⟨by trivial, World.grownBy.refl _ _, rfl⟩
      · refine bifF rfl (FreeStep.mk rfl fun vs W hk hd => ?_)
        have e99 : vs 99 = (.pointer (some ⟨q, 0, none⟩)) := hd 1 (by kernel_rfl)
        clear hd
        obtain ⟨_, s, hS⟩ := hk
        clear hS
        simp only [fillA, fillL, dstL, List.take_succ_cons, List.take_zero, List.filterMap_cons, List.filterMap_nil, List.contains_cons, List.contains_nil, Nat.reduceAdd, Nat.zero_add, Nat.reduceBEq, Bool.or_false, Bool.or_true, Bool.false_eq_true, ↓reduceIte]
        rw [e99]
        go_wp2_with fail
        exact ⟨by trivial, World.grownBy.refl _ _, rfl⟩
      · refine bifF rfl (FreeStep.mk rfl fun vs W hk hd => ?_)
        have e100 : vs 100 = (.pointer (some ⟨q, 0, none⟩)) := hd 2 (by kernel_rfl)
        clear hd
        obtain ⟨_, s, hS⟩ := hk
        clear hS
        simp only [fillA, fillL, dstL, List.take_succ_cons, List.take_zero, List.filterMap_cons, List.filterMap_nil, List.contains_cons, List.contains_nil, Nat.reduceAdd, Nat.zero_add, Nat.reduceBEq, Bool.or_false, Bool.or_true, Bool.false_eq_true, ↓reduceIte]
        rw [e100]
        go_wp2_with fail
        exact ⟨by trivial, World.grownBy.refl _ _, rfl⟩
      · refine bifT rfl (MarkStep.mk rfl fun s vs W hS hi hdp hd => ?_)
        have e101 : vs 101 = (.pointer (some ⟨q, 3, none⟩)) := hd 3 (by kernel_rfl)
        clear hd
        have hk3 : W.cell? ⟨q, 3, none⟩ = some (.slice none 0 0) := (AddI.node hS hi).cell 3
        simp only [fillA, fillL, dstL, List.take_succ_cons, List.take_zero, List.filterMap_cons, List.filterMap_nil, List.contains_cons, List.contains_nil, Nat.reduceAdd, Nat.zero_add, Nat.reduceBEq, Bool.or_false, Bool.or_true, Bool.false_eq_true, ↓reduceIte]
        rw [e101]
        go_wp2_with fail
        exact ⟨by trivial, trivial, AddI.loaded OKA.out hS (by decide) (World.grownBy.refl _ _) rfl rfl rfl, rfl⟩
      · refine bifF rfl (FreeStep.mk rfl fun vs W hk hd => ?_)
        clear hd
        obtain ⟨_, s, hS⟩ := hk
        clear hS
        simp only [fillA, fillL, dstL, List.take_succ_cons, List.take_zero, List.filterMap_cons, List.filterMap_nil, List.contains_cons, List.contains_nil, Nat.reduceAdd, Nat.zero_add, Nat.reduceBEq, Bool.or_false, Bool.or_true, Bool.false_eq_true, ↓reduceIte]
        go_wp2_with fail
        exact ⟨by trivial, World.grownBy.refl _ _, rfl⟩
      · refine bifT rfl (MarkStep.mk rfl fun s vs W hS hi hdp hd => ?_)
        have e103 : vs 103 = (.pointer (some ⟨b, 0, none⟩)) := hd 5 (by kernel_rfl)
        clear hd
        have hg0 := hS.g
        simp only [fillA, fillL, dstL, List.take_succ_cons, List.take_zero, List.filterMap_cons, List.filterMap_nil, List.contains_cons, List.contains_nil, Nat.reduceAdd, Nat.zero_add, Nat.reduceBEq, Bool.or_false, Bool.or_true, Bool.false_eq_true, ↓reduceIte]
        rw [e103]
        go_wp2_with fail
        refine (HE3.out W _ (AddI.place hS hi) (ext_turn HXZ.out hg0 HWB.out)).mono ?_
        intro e w3 h3
        rcases h3.cases with ⟨a, k, hr, he, hg⟩ | ⟨x, j, v, hr, rfl, hr1, hg1, ht1⟩
        · subst he
          go_wp2_with fail
          exact OrHalt.panic rfl (PGot.bad (HRZ.out.trans (by rw [show E j = Ps.bad a k from hr]; rfl)) ⟨rfl, grown_one hg0 hg⟩)
        · go_wp2_with fail
          exact ⟨by trivial, trivial, AddI.called OKA.out hS hi (by decide) hr hr1 hg1 ht1 rfl, trivial⟩
      · refine bifT rfl (MarkStep.mk rfl fun s vs W hS hi hdp hd => ?_)
        clear hd
        obtain ⟨p1, hp1⟩ := hS.ptr (hdp 6 (by kernel_rfl)) hi rfl
        replace hp1 : vs 104 = .pointer (some ⟨p1, 0, none⟩) := hp1
        simp only [fillA, fillL, dstL, List.take_succ_cons, List.take_zero, List.filterMap_cons, List.filterMap_nil, List.contains_cons, List.contains_nil, Nat.reduceAdd, Nat.zero_add, Nat.reduceBEq, Bool.or_false, Bool.or_true, Bool.false_eq_true, ↓reduceIte]
        rw [hp1]
        go_wp2_with fail
        exact ⟨by trivial, trivial, AddI.built OKA.out hS (hdp 6 (by kernel_rfl)) hi (by decide) (congrArg (fun u => W.alloc (.cells #[u] 83)) hp1.symm) rfl rfl, trivial⟩
      · refine bifT rfl (MarkStep.mk rfl fun s vs W hS hi hdp hd => ?_)
        have e102 : vs 102 = (.slice none 0 0) := hd 4 (by kernel_rfl)
        clear hd
        obtain ⟨ho, z, hz, hzb, h1⟩ := hS.row (hdp 7 (by kernel_rfl)) hi
        replace hz : vs 105 = _ := hz
        have hlw := hS.lw
        simp only [fillA, fillL, dstL, List.take_succ_cons, List.take_zero, List.filterMap_cons, List.filterMap_nil, List.contains_cons, List.contains_nil, Nat.reduceAdd, Nat.zero_add, Nat.reduceBEq, Bool.or_false, Bool.or_true, Bool.false_eq_true, ↓reduceIte]
        rw [e102, hz]
        go_wp2_with (at_builtin; refine wpList_appBlk rfl _ _ 150 rfl slParts rfl hlw ho rfl hzb h1 rfl (by have := OKA.out.small; simp at this ⊢; omega) (by decide) ?_; intro v' w' k1 k2 k3)
        exact ⟨by trivial, trivial, AddI.appd OKA.out hS (hdp 4 (by kernel_rfl)) (hdp 7 (by kernel_rfl)) hi (by decide) k1 k2 k3 rfl, trivial⟩
      · refine bifF rfl (FreeStep.mk rfl fun vs W hk hd => ?_)
        have e98 : vs 98 = (.pointer (some ⟨q, 0, none⟩)) := hd 0 (by kernel_rfl)
        clear hd
        obtain ⟨_, s, hS⟩ := hk
        clear hS
        simp only [fillA, fillL, dstL, List.take_succ_cons, List.take_zero, List.filterMap_cons, List.filterMap_nil, List.contains_cons, List.contains_nil, Nat.reduceAdd, Nat.zero_add, Nat.reduceBEq, Bool.or_false, Bool.or_true, Bool.false_eq_true, ↓reduceIte]
        rw [e98]
        go_wp2_with fail
        exact ⟨by trivial, World.grownBy.refl _ _, rfl⟩
      · refine bifF rfl (FreeStep.mk rfl fun vs W hk hd => ?_)
        have e107 : vs 107 = (.pointer (some ⟨q, 0, none⟩)) := hd 9 (by kernel_rfl)
        clear hd
        obtain ⟨_, s, hS⟩ := hk
        clear hS
        simp only [fillA, fillL, dstL, List.take_succ_cons, List.take_zero, List.filterMap_cons, List.filterMap_nil, List.contains_cons, List.contains_nil, Nat.reduceAdd, Nat.zero_add, Nat.reduceBEq, Bool.or_false, Bool.or_true, Bool.false_eq_true, ↓reduceIte]
        rw [e107]
        go_wp2_with fail
        exact ⟨by trivial, World.grownBy.refl _ _, rfl⟩
      · refine bifT rfl (MarkStep.mk rfl fun s vs W hS hi hdp hd => ?_)
        have e108 : vs 108 = (.pointer (some ⟨q, 3, none⟩)) := hd 10 (by kernel_rfl)
        clear hd
        obtain ⟨hbk, ao, nn, cap, hsa⟩ := hS.node3 (hdp 8 (by kernel_rfl)) hi
        replace hsa : vs 106 = .slice ao nn cap := hsa
        have hk3 : W.cell? ⟨q, 3, none⟩ = some (.slice none 0 0) := hbk.cell 3
        have hf3 : W.frozen? ⟨q, 3, none⟩ = false := hbk.free 3
        simp only [fillA, fillL, dstL, List.take_succ_cons, List.take_zero, List.filterMap_cons, List.filterMap_nil, List.contains_cons, List.contains_nil, Nat.reduceAdd, Nat.zero_add, Nat.reduceBEq, Bool.or_false, Bool.or_true, Bool.false_eq_true, ↓reduceIte]
        rw [e108, hsa]
        go_wp2_with fail
        exact ⟨by trivial, trivial, AddI.stored OKA.out hS (hdp 8 (by kernel_rfl)) hi (by decide) (f := 3) (fun _ => rfl) (congrArg (fun u => W.setCell ⟨q, 3, none⟩ u) hsa.symm), trivial⟩
    · intro s vs wa hall hs hS
      obtain ⟨hga, hxa, hla, ya, ja, usa, kva, hra, hRa, hBa, hKa⟩ := AddI.end_ hS (hs 11 rfl)
      have HGa := Lib.hid hga; have HXa := Lib.hid hxa; have HLa := Lib.hid hla; have HRa := Lib.hid hra; have HRDa := Lib.hid hRa; have HBa := Lib.hid hBa; have HKa := Lib.hid hKa
      clear hga hxa hla hra hRa hBa hKa hS hs hall
      refine OrHalt.normal ?_
      simp only [fillA, fillL, dstL, List.take_succ_cons, List.take_zero, List.filterMap_cons, List.filterMap_nil, List.contains_cons, List.contains_nil, Nat.reduceAdd, Nat.zero_add, Nat.reduceBEq, Bool.or_false, Bool.or_true, Bool.false_eq_true, ↓reduceIte]
      have HKa2 := Lib.hid (show KidsIn 152 83 (q + 1) wa kva usa [ya] from HKa.out)
      have HRW := Lib.hid (show R = (mustT L ja [116, 104, 101, 110]).bind fun _ j => (E j).bind fun b j => (mustT L j [101, 108, 115, 101]).bind fun _ j => (E j).bind fun c j => .ok (.mk 10 0 [] [ya, b, c] ps) j from HRZ.out.trans (by rw [show E j = Ps.ok ya ja from HRa.out]; rfl))
      have HBa2 := Lib.hid (show BlkOf wa q (pcells 10 0 [] kva ps) 152 from HBa.out)
      have HRa2 := Lib.hid (show RdAt wa b L ja (lv + 1) from HRDa.out)
      replace HG := Lib.hid (show w.grownBy wa (some b) from HGa.out)
      clear HRa HBa HKa HRDa HGa HXa HLa HRZ OKA AIA HR4 HB4
      go_upto_region 25 with fail
      go_wp2_with fail
      refine (smust_any HRa2.out hL [116, 104, 101, 110]).mono ?_
      intro e w6 h9
      rcases PGot.cases h9 with ⟨a, d, hr, he, hg⟩ | ⟨x9, m9, v9, hr, rfl, hr9, hg9, rfl⟩
      · subst he
        go_wp2_with fail
        exact ⟨rfl, PGot.bad (HRW.out.trans (by rw [hr]; rfl)) ⟨rfl, grown_one HG.out hg⟩⟩
      · have HRV := Lib.hid (show R = (E m9).bind fun b j => (mustT L j [101, 108, 115, 101]).bind fun _ j => (E j).bind fun c j => .ok (.mk 10 0 [] [ya, b, c] ps) j from HRW.out.trans (by rw [hr]; rfl))
        have HBa2n := Lib.hid (HBa2.out.grown hg9 (by simp; omega))
        have HKa2n := Lib.hid (HKa2.out.kept hg9 (fun r e => by have := Option.some.inj e; omega))
        have HRa2n := Lib.hid hr9
        replace HG := Lib.hid (grown_one HG.out hg9)
        clear hr hr9 hg9 h9 HRW HBa2 HRa2 HKa2
        have OKB := Lib.hid (add_ok (w := w) (b := b) (q := q) (L := L) (lv := lv) (fun u => pcells 10 0 [] u ps) kva usa [ya] [] [] (E m9) m9 117 118 119 (by omega) (by rw [HQ.out]; omega) (by simp))
        have AIB := Lib.hid (fun vs => add_i0 (w := w) (b := b) (q := q) (L := L) (lv := lv) (cs := fun u => pcells 10 0 [] u ps) (r := E m9) (sc := 117) (sb := 118) (sa := 119) 4 6 7 8 11 HRa2n.out HG.out HBa2n.out HKa2n.out .nil vs)
        go_upto_region 26 with fail
        refine wp_region_halt (fun c w'' => PGot w b L lv (PTr w) R (.panicked c) w'') ?_ ?_
        · intro c a w'' hd hR
          go_wp2_with fail
          exact ⟨hd, hR⟩
        refine wp_region_mark 12 rfl (phiE [some (.pointer (some ⟨q, 0, none⟩)), some (.pointer (some ⟨q, 0, none⟩)), some (.pointer (some ⟨q, 0, none⟩)), some (.pointer (some ⟨q, 3, none⟩)), some kva, some (.pointer (some ⟨b, 0, none⟩)), none, none, none, some (.pointer (some ⟨q, 0, none⟩)), some (.pointer (some ⟨q, 3, none⟩)), none]) [4, 6, 7, 8, 11] (AddI (addC w b q (q + 1) (fun j W => RdAt W b L j (lv + 1)) (fun _ => True) (fun u => pcells 10 0 [] u ps) kva usa [ya] [] [] (E m9) m9 117 118 119) 4 6 7 8 11) (fun _ _ => True) (by kernel_rfl) (by kernel_rfl) (by kernel_rfl) (fun j _ u W W' hu _ => phiE_stab _ j u W W' hu) (fun j hj hd u W => by have hj2 : j = 4 ∨ j = 6 ∨ j = 7 ∨ j = 8 ∨ j = 11 := (by simpa using hj); rcases hj2 with rfl | rfl | rfl | rfl | rfl <;> first | exact phiE_top _ _ rfl _ _ | (simp at hd)) (fun s s' vs vs' W W' h hg hs hv => h.free OKB.out hg (hs 4 rfl) (hs 6 rfl) (hs 7 rfl) (hs 8 rfl) (hs 11 rfl) (hv 6 rfl 117 rfl) (hv 7 rfl 118 rfl) (hv 8 rfl 119 rfl)) ?_ (by kernel_rfl) ?_ ?_
        · exact AIB.out _
        · refine ⟨?_, ?_, ?_, ?_, ?_, ?_, ?_, ?_, ?_, ?_, ?_, ?_, trivial⟩
          · refine bifF rfl (FreeStep.mk rfl fun vs W hk hd => ?_)
            clear hd
            obtain ⟨_, s, hS⟩ := hk
            clear hS
            simp only [fillA, fillL, dstL, List.take_succ_cons, List.take_zero, List.filterMap_cons, List.filterMap_nil, List.contains_cons, List.contains_nil, Nat.reduceAdd, Nat.zero_add, Nat.reduceBEq, Bool.or_false, Bool.or_true, Bool.false_eq_true, ↓reduceIte]
            go_wp2_with fail
            exact ⟨by trivial, World.grownBy.refl _ _, rfl⟩
          · refine bifF rfl (FreeStep.mk rfl fun vs W hk hd => ?_)
            clear hd
            obtain ⟨_, s, hS⟩ := hk
            clear hS
            simp only [fillA, fillL, dstL, List.take_succ_cons, List.take_zero, List.filterMap_cons, List.filterMap_nil, List.contains_cons, List.contains_nil, Nat.reduceAdd, Nat.zero_add, Nat.reduceBEq, Bool.or_false, Bool.or_true, Bool.false_eq_true, ↓reduceIte]
            go_wp2_with fail
            exact ⟨by trivial, World.grownBy.refl _ _, rfl⟩
          · refine bifF rfl (FreeStep.mk rfl fun vs W hk hd => ?_)
            have e112 : vs 112 = (.pointer (some ⟨q, 0, none⟩)) := hd 1 (by kernel_rfl)
            clear hd
            obtain ⟨_, s, hS⟩ := hk
            clear hS
            simp only [fillA, fillL, dstL, List.take_succ_cons, List.take_zero, List.filterMap_cons, List.filterMap_nil, List.contains_cons, List.contains_nil, Nat.reduceAdd, Nat.zero_add, Nat.reduceBEq, Bool.or_false, Bool.or_true, Bool.false_eq_true, ↓reduceIte]
            rw [e112]
            go_wp2_with fail
            exact ⟨by trivial, World.grownBy.refl _ _, rfl⟩
          · refine bifF rfl (FreeStep.mk rfl fun vs W hk hd => ?_)
            have e113 : vs 113 = (.pointer (some ⟨q, 0, none⟩)) := hd 2 (by kernel_rfl)
            clear hd
            obtain ⟨_, s, hS⟩ := hk
            clear hS
            simp only [fillA, fillL, dstL, List.take_succ_cons, List.take_zero, List.filterMap_cons, List.filterMap_nil, List.contains_cons, List.contains_nil, Nat.reduceAdd, Nat.zero_add, Nat.reduceBEq, Bool.or_false, Bool.or_true, Bool.false_eq_true, ↓reduceIte]
            rw [e113]
            go_wp2_with fail
            exact ⟨by trivial, World.grownBy.refl _ _, rfl⟩
          · refine bifT rfl (MarkStep.mk rfl fun s vs W hS hi hdp hd => ?_)
            have e114 : vs 114 = (.pointer (some ⟨q, 3, none⟩)) := hd 3 (by kernel_rfl)
            clear hd
            have hk3 : W.cell? ⟨q, 3, none⟩ = some kva := (AddI.node hS hi).cell 3
            simp only [fillA, fillL, dstL, List.take_succ_cons, List.take_zero, List.filterMap_cons, List.filterMap_nil, List.contains_cons, List.contains_nil, Nat.reduceAdd, Nat.zero_add, Nat.reduceBEq, Bool.or_false, Bool.or_true, Bool.false_eq_true, ↓reduceIte]
            rw [e114]
            go_wp2_with fail
            exact ⟨by trivial, trivial, AddI.loaded OKB.out hS (by decide) (World.grownBy.refl _ _) rfl rfl rfl, rfl⟩
          · refine bifF rfl (FreeStep.mk rfl fun vs W hk hd => ?_)
            clear hd
            obtain ⟨_, s, hS⟩ := hk
            clear hS
            simp only [fillA, fillL, dstL, List.take_succ_cons, List.take_zero, List.filterMap_cons, List.filterMap_nil, List.contains_cons, List.contains_nil, Nat.reduceAdd, Nat.zero_add, Nat.reduceBEq, Bool.or_false, Bool.or_true, Bool.false_eq_true, ↓reduceIte]
            go_wp2_with fail
            exact ⟨by trivial, World.grownBy.refl _ _, rfl⟩
          · refine bifT rfl (MarkStep.mk rfl fun s vs W hS hi hdp hd => ?_)
            have e116 : vs 116 = (.pointer (some ⟨b, 0, none⟩)) := hd 5 (by kernel_rfl)
            clear hd
            have hg0 := hS.g
            simp only [fillA, fillL, dstL, List.take_succ_cons, List.take_zero, List.filterMap_cons, List.filterMap_nil, List.contains_cons, List.contains_nil, Nat.reduceAdd, Nat.zero_add, Nat.reduceBEq, Bool.or_false, Bool.or_true, Bool.false_eq_true, ↓reduceIte]
            rw [e116]
            go_wp2_with fail
            refine (HE3.out W _ (AddI.place hS hi) (ext_turn HXZ.out hg0 HWB.out)).mono ?_
            intro e w3 h3
            rcases h3.cases with ⟨a, k, hr, he, hg⟩ | ⟨x, j, v, hr, rfl, hr1, hg1, ht1⟩
            · subst he
              go_wp2_with fail
              exact OrHalt.panic rfl (PGot.bad (HRV.out.trans (by rw [show E m9 = Ps.bad a k from hr]; rfl)) ⟨rfl, grown_one hg0 hg⟩)
            · go_wp2_with fail
              exact ⟨by trivial, trivial, AddI.called OKB.out hS hi (by decide) hr hr1 hg1 ht1 rfl, trivial⟩
          · refine bifT rfl (MarkStep.mk rfl fun s vs W hS hi hdp hd => ?_)
            clear hd
            obtain ⟨p1, hp1⟩ := hS.ptr (hdp 6 (by kernel_rfl)) hi rfl
            replace hp1 : vs 117 = .pointer (some ⟨p1, 0, none⟩) := hp1
            simp only [fillA, fillL, dstL, List.take_succ_cons, List.take_zero, List.filterMap_cons, List.filterMap_nil, List.contains_cons, List.contains_nil, Nat.reduceAdd, Nat.zero_add, Nat.reduceBEq, Bool.or_false, Bool.or_true, Bool.false_eq_true, ↓reduceIte]
            rw [hp1]
            go_wp2_with fail
            exact ⟨by trivial, trivial, AddI.built OKB.out hS (hdp 6 (by kernel_rfl)) hi (by decide) (congrArg (fun u => W.alloc (.cells #[u] 83)) hp1.symm) rfl rfl, trivial⟩
          · refine bifT rfl (MarkStep.mk rfl fun s vs W hS hi hdp hd => ?_)
            have e115 : vs 115 = kva := hd 4 (by kernel_rfl)
            clear hd
            obtain ⟨ho, z, hz, hzb, h1⟩ := hS.row (hdp 7 (by kernel_rfl)) hi
            replace hz : vs 118 = _ := hz
            have hlw := hS.lw
            simp only [fillA, fillL, dstL, List.take_succ_cons, List.take_zero, List.filterMap_cons, List.filterMap_nil, List.contains_cons, List.contains_nil, Nat.reduceAdd, Nat.zero_add, Nat.reduceBEq, Bool.or_false, Bool.or_true, Bool.false_eq_true, ↓reduceIte]
            rw [e115, hz]
            go_wp2_with (at_builtin; refine wpList_appBlk rfl _ _ 150 rfl slParts rfl hlw ho rfl hzb h1 rfl (by have := OKB.out.small; simp at this ⊢; omega) (by decide) ?_; intro v' w' k1 k2 k3)
            exact ⟨by trivial, trivial, AddI.appd OKB.out hS (hdp 4 (by kernel_rfl)) (hdp 7 (by kernel_rfl)) hi (by decide) k1 k2 k3 rfl, trivial⟩
          · refine bifF rfl (FreeStep.mk rfl fun vs W hk hd => ?_)
            have e111 : vs 111 = (.pointer (some ⟨q, 0, none⟩)) := hd 0 (by kernel_rfl)
            clear hd
            obtain ⟨_, s, hS⟩ := hk
            clear hS
            simp only [fillA, fillL, dstL, List.take_succ_cons, List.take_zero, List.filterMap_cons, List.filterMap_nil, List.contains_cons, List.contains_nil, Nat.reduceAdd, Nat.zero_add, Nat.reduceBEq, Bool.or_false, Bool.or_true, Bool.false_eq_true, ↓reduceIte]
            rw [e111]
            go_wp2_with fail
            exact ⟨by trivial, World.grownBy.refl _ _, rfl⟩
          · refine bifF rfl (FreeStep.mk rfl fun vs W hk hd => ?_)
            have e120 : vs 120 = (.pointer (some ⟨q, 0, none⟩)) := hd 9 (by kernel_rfl)
            clear hd
            obtain ⟨_, s, hS⟩ := hk
            clear hS
            simp only [fillA, fillL, dstL, List.take_succ_cons, List.take_zero, List.filterMap_cons, List.filterMap_nil, List.contains_cons, List.contains_nil, Nat.reduceAdd, Nat.zero_add, Nat.reduceBEq, Bool.or_false, Bool.or_true, Bool.false_eq_true, ↓reduceIte]
            rw [e120]
            go_wp2_with fail
            exact ⟨by trivial, World.grownBy.refl _ _, rfl⟩
          · refine bifT rfl (MarkStep.mk rfl fun s vs W hS hi hdp hd => ?_)
            have e121 : vs 121 = (.pointer (some ⟨q, 3, none⟩)) := hd 10 (by kernel_rfl)
            clear hd
            obtain ⟨hbk, ao, nn, cap, hsa⟩ := hS.node3 (hdp 8 (by kernel_rfl)) hi
            replace hsa : vs 119 = .slice ao nn cap := hsa
            have hk3 : W.cell? ⟨q, 3, none⟩ = some kva := hbk.cell 3
            have hf3 : W.frozen? ⟨q, 3, none⟩ = false := hbk.free 3
            simp only [fillA, fillL, dstL, List.take_succ_cons, List.take_zero, List.filterMap_cons, List.filterMap_nil, List.contains_cons, List.contains_nil, Nat.reduceAdd, Nat.zero_add, Nat.reduceBEq, Bool.or_false, Bool.or_true, Bool.false_eq_true, ↓reduceIte]
            rw [e121, hsa]
            go_wp2_with fail
            exact ⟨by trivial, trivial, AddI.stored OKB.out hS (hdp 8 (by kernel_rfl)) hi (by decide) (f := 3) (fun _ => rfl) (congrArg (fun u => W.setCell ⟨q, 3, none⟩ u) hsa.symm), trivial⟩
        · intro s vs wb hall hs hS
          obtain ⟨hgb, hxb, hlb, yb, jb, usb, kvb, hrb, hRb, hBb, hKb⟩ := AddI.end_ hS (hs 11 rfl)
          have HGb := Lib.hid hgb; have HXb := Lib.hid hxb; have HLb := Lib.hid hlb; have HRb := Lib.hid hrb; have HRDb := Lib.hid hRb; have HBb := Lib.hid hBb; have HKb := Lib.hid hKb
          clear hgb hxb hlb hrb hRb hBb hKb hS hs hall
          refine OrHalt.normal ?_
          simp only [fillA, fillL, dstL, List.take_succ_cons, List.take_zero, List.filterMap_cons, List.filterMap_nil, List.contains_cons, List.contains_nil, Nat.reduceAdd, Nat.zero_add, Nat.reduceBEq, Bool.or_false, Bool.or_true, Bool.false_eq_true, ↓reduceIte]
          have HKb2 := Lib.hid (show KidsIn 152 83 (q + 1) wb kvb usb [ya, yb] from HKb.out)
          have HRU := Lib.hid (show R = (mustT L jb [101, 108, 115, 101]).bind fun _ j => (E j).bind fun c j => .ok (.mk 10 0 [] [ya, yb, c] ps) j from HRV.out.trans (by rw [show E m9 = Ps.ok yb jb from HRb.out]; rfl))
          have HBb2 := Lib.hid (show BlkOf wb q (pcells 10 0 [] kvb ps) 152 from HBb.out)
          have HRb2 := Lib.hid (show RdAt wb b L jb (lv + 1) from HRDb.out)
          replace HG := Lib.hid (show w.grownBy wb (some b) from HGb.out)
          clear HRb HBb HKb HRDb HGb HXb HLb HRV OKB AIB HRa2n HBa2n HKa2n
          go_upto_region 27 with fail
          go_wp2_with fail
          refine (smust_any HRb2.out hL [101, 108, 115, 101]).mono ?_
          intro e w8 h9
          rcases PGot.cases h9 with ⟨a, d, hr, he, hg⟩ | ⟨x9, m9, v9, hr, rfl, hr9, hg9, rfl⟩
          · subst he
            go_wp2_with fail
            exact ⟨rfl, PGot.bad (HRU.out.trans (by rw [hr]; rfl)) ⟨rfl, grown_one HG.out hg⟩⟩
          · have HRT := Lib.hid (show R = (E m9).bind fun c j => .ok (.mk 10 0 [] [ya, yb, c] ps) j from HRU.out.trans (by rw [hr]; rfl))
            have HBb2n := Lib.hid (HBb2.out.grown hg9 (by simp; omega))
            have HKb2n := Lib.hid (HKb2.out.kept hg9 (fun r e => by have := Option.some.inj e; omega))
            have HRb2n := Lib.hid hr9
            replace HG := Lib.hid (grown_one HG.out hg9)
            clear hr hr9 hg9 h9 HRU HBb2 HRb2 HKb2
            have OKT := Lib.hid (add_ok (w := w) (b := b) (q := q) (L := L) (lv := lv) (fun u => pcells 10 0 [] u ps) kvb usb [ya, yb] [] [] (E m9) m9 130 131 132 (by omega) (by rw [HQ.out]; omega) (by simp))
            have AIT := Lib.hid (fun vs => add_i0 (w := w) (b := b) (q := q) (L := L) (lv := lv) (cs := fun u => pcells 10 0 [] u ps) (r := E m9) (sc := 130) (sb := 131) (sa := 132) 4 6 7 8 11 HRb2n.out HG.out HBb2n.out HKb2n.out .nil vs)
            go_upto_region 28 with fail
            refine wp_region_halt (fun c w'' => PGot w b L lv (PTr w) R (.panicked c) w'') ?_ ?_
            · intro c a w'' hd hR
              go_wp2_with fail
              exact ⟨hd, hR⟩
            refine wp_region_mark 12 rfl (phiE [some (.pointer (some ⟨q, 0, none⟩)), some (.pointer (some ⟨q, 0, none⟩)), some (.pointer (some ⟨q, 0, none⟩)), some (.pointer (some ⟨q, 3, none⟩)), some kvb, some (.pointer (some ⟨b, 0, none⟩)), none, none, none, some (.pointer (some ⟨q, 0, none⟩)), some (.pointer (some ⟨q, 3, none⟩)), none]) [4, 6, 7, 8, 11] (AddI (addC w b q (q + 1) (fun j W => RdAt W b L j (lv + 1)) (fun _ => True) (fun u => pcells 10 0 [] u ps) kvb usb [ya, yb] [] [] (E m9) m9 130 131 132) 4 6 7 8 11) (fun _ _ => True) (by kernel_rfl) (by kernel_rfl) (by kernel_rfl) (fun j _ u W W' hu _ => phiE_stab _ j u W W' hu) (fun j hj hd u W => by have hj2 : j = 4 ∨ j = 6 ∨ j = 7 ∨ j = 8 ∨ j = 11 := (by simpa using hj); rcases hj2 with rfl | rfl | rfl | rfl | rfl <;> first | exact phiE_top _ _ rfl _ _ | (simp at hd)) (fun s s' vs vs' W W' h hg hs hv => h.free OKT.out hg (hs 4 rfl) (hs 6 rfl) (hs 7 rfl) (hs 8 rfl) (hs 11 rfl) (hv 6 rfl 130 rfl) (hv 7 rfl 131 rfl) (hv 8 rfl 132 rfl)) ?_ (by kernel_rfl) ?_ ?_
            · exact AIT.out _
            · refine ⟨?_, ?_, ?_, ?_, ?_, ?_, ?_, ?_, ?_, ?_, ?_, ?_, trivial⟩
              · refine bifF rfl (FreeStep.mk rfl fun vs W hk hd => ?_)
                clear hd
                obtain ⟨_, s, hS⟩ := hk
                clear hS
                simp only [fillA, fillL, dstL, List.take_succ_cons, List.take_zero, List.filterMap_cons, List.filterMap_nil, List.contains_cons, List.contains_nil, Nat.reduceAdd, Nat.zero_add, Nat.reduceBEq, Bool.or_false, Bool.or_true, Bool.false_eq_true, ↓reduceIte]
                go_wp2_with fail
                exact ⟨by trivial, World.grownBy.refl _ _, rfl⟩
              · refine bifF rfl (FreeStep.mk rfl fun vs W hk hd => ?_)
                clear hd
                obtain ⟨_, s, hS⟩ := hk
                clear hS
                simp only [fillA, fillL, dstL, List.take_succ_cons, List.take_zero, List.filterMap_cons, List.filterMap_nil, List.contains_cons, List.contains_nil, Nat.reduceAdd, Nat.zero_add, Nat.reduceBEq, Bool.or_false, Bool.or_true, Bool.false_eq_true, ↓reduceIte]
                go_wp2_with fail
                exact ⟨by trivial, World.grownBy.refl _ _, rfl⟩
              · refine bifF rfl (FreeStep.mk rfl fun vs W hk hd => ?_)
                have e125 : vs 125 = (.pointer (some ⟨q, 0, none⟩)) := hd 1 (by kernel_rfl)
                clear hd
                obtain ⟨_, s, hS⟩ := hk
                clear hS
                simp only [fillA, fillL, dstL, List.take_succ_cons, List.take_zero, List.filterMap_cons, List.filterMap_nil, List.contains_cons, List.contains_nil, Nat.reduceAdd, Nat.zero_add, Nat.reduceBEq, Bool.or_false, Bool.or_true, Bool.false_eq_true, ↓reduceIte]
                rw [e125]
                go_wp2_with fail
                exact ⟨by trivial, World.grownBy.refl _ _, rfl⟩
              · refine bifF rfl (FreeStep.mk rfl fun vs W hk hd => ?_)
                have e126 : vs 126 = (.pointer (some ⟨q, 0, none⟩)) := hd 2 (by kernel_rfl)
                clear hd
                obtain ⟨_, s, hS⟩ := hk
                clear hS
                simp only [fillA, fillL, dstL, List.take_succ_cons, List.take_zero, List.filterMap_cons, List.filterMap_nil, List.contains_cons, List.contains_nil, Nat.reduceAdd, Nat.zero_add, Nat.reduceBEq, Bool.or_false, Bool.or_true, Bool.false_eq_true, ↓reduceIte]
                rw [e126]
                go_wp2_with fail
                exact ⟨by trivial, World.grownBy.refl _ _, rfl⟩
              · refine bifT rfl (MarkStep.mk rfl fun s vs W hS hi hdp hd => ?_)
                have e127 : vs 127 = (.pointer (some ⟨q, 3, none⟩)) := hd 3 (by kernel_rfl)
                clear hd
                have hk3 : W.cell? ⟨q, 3, none⟩ = some kvb := (AddI.node hS hi).cell 3
                simp only [fillA, fillL, dstL, List.take_succ_cons, List.take_zero, List.filterMap_cons, List.filterMap_nil, List.contains_cons, List.contains_nil, Nat.reduceAdd, Nat.zero_add, Nat.reduceBEq, Bool.or_false, Bool.or_true, Bool.false_eq_true, ↓reduceIte]
                rw [e127]
                go_wp2_with fail
                exact ⟨by trivial, trivial, AddI.loaded OKT.out hS (by decide) (World.grownBy.refl _ _) rfl rfl rfl, rfl⟩
              · refine bifF rfl (FreeStep.mk rfl fun vs W hk hd => ?_)
                clear hd
                obtain ⟨_, s, hS⟩ := hk
                clear hS
                simp only [fillA, fillL, dstL, List.take_succ_cons, List.take_zero, List.filterMap_cons, List.filterMap_nil, List.contains_cons, List.contains_nil, Nat.reduceAdd, Nat.zero_add, Nat.reduceBEq, Bool.or_false, Bool.or_true, Bool.false_eq_true, ↓reduceIte]
                go_wp2_with fail
                exact ⟨by trivial, World.grownBy.refl _ _, rfl⟩
              · refine bifT rfl (MarkStep.mk rfl fun s vs W hS hi hdp hd => ?_)
                have e129 : vs 129 = (.pointer (some ⟨b, 0, none⟩)) := hd 5 (by kernel_rfl)
                clear hd
                have hg0 := hS.g
                simp only [fillA, fillL, dstL, List.take_succ_cons, List.take_zero, List.filterMap_cons, List.filterMap_nil, List.contains_cons, List.contains_nil, Nat.reduceAdd, Nat.zero_add, Nat.reduceBEq, Bool.or_false, Bool.or_true, Bool.false_eq_true, ↓reduceIte]
                rw [e129]
                go_wp2_with fail
                refine (HE3.out W _ (AddI.place hS hi) (ext_turn HXZ.out hg0 HWB.out)).mono ?_
                intro e w3 h3
                rcases h3.cases with ⟨a, k, hr, he, hg⟩ | ⟨x, j, v, hr, rfl, hr1, hg1, ht1⟩
                · subst he
                  go_wp2_with fail
                  exact OrHalt.panic rfl (PGot.bad (HRT.out.trans (by rw [show E m9 = Ps.bad a k from hr]; rfl)) ⟨rfl, grown_one hg0 hg⟩)
                · go_wp2_with fail
                  exact ⟨by trivial, trivial, AddI.called OKT.out hS hi (by decide) hr hr1 hg1 ht1 rfl, trivial⟩
              · refine bifT rfl (MarkStep.mk rfl fun s vs W hS hi hdp hd => ?_)
                clear hd
                obtain ⟨p1, hp1⟩ := hS.ptr (hdp 6 (by kernel_rfl)) hi rfl
                replace hp1 : vs 130 = .pointer (some ⟨p1, 0, none⟩) := hp1
                simp only [fillA, fillL, dstL, List.take_succ_cons, List.take_zero, List.filterMap_cons, List.filterMap_nil, List.contains_cons, List.contains_nil, Nat.reduceAdd, Nat.zero_add, Nat.reduceBEq, Bool.or_false, Bool.or_true, Bool.false_eq_true, ↓reduceIte]
                rw [hp1]
                go_wp2_with fail
                exact ⟨by trivial, trivial, AddI.built OKT.out hS (hdp 6 (by kernel_rfl)) hi (by decide) (congrArg (fun u => W.alloc (.cells #[u] 83)) hp1.symm) rfl rfl, trivial⟩
              · refine bifT rfl (MarkStep.mk rfl fun s vs W hS hi hdp hd => ?_)
                have e128 : vs 128 = kvb := hd 4 (by kernel_rfl)
                clear hd
                obtain ⟨ho, z, hz, hzb, h1⟩ := hS.row (hdp 7 (by kernel_rfl)) hi
                replace hz : vs 131 = _ := hz
                have hlw := hS.lw
                simp only [fillA, fillL, dstL, List.take_succ_cons, List.take_zero, List.filterMap_cons, List.filterMap_nil, List.contains_cons, List.contains_nil, Nat.reduceAdd, Nat.zero_add, Nat.reduceBEq, Bool.or_false, Bool.or_true, Bool.false_eq_true, ↓reduceIte]
                rw [e128, hz]
                go_wp2_with (at_builtin; refine wpList_appBlk rfl _ _ 150 rfl slParts rfl hlw ho rfl hzb h1 rfl (by have := OKT.out.small; simp at this ⊢; omega) (by decide) ?_; intro v' w' k1 k2 k3)
                exact ⟨by trivial, trivial, AddI.appd OKT.out hS (hdp 4 (by kernel_rfl)) (hdp 7 (by kernel_rfl)) hi (by decide) k1 k2 k3 rfl, trivial⟩
              · refine bifF rfl (FreeStep.mk rfl fun vs W hk hd => ?_)
                have e124 : vs 124 = (.pointer (some ⟨q, 0, none⟩)) := hd 0 (by kernel_rfl)
                clear hd
                obtain ⟨_, s, hS⟩ := hk
                clear hS
                simp only [fillA, fillL, dstL, List.take_succ_cons, List.take_zero, List.filterMap_cons, List.filterMap_nil, List.contains_cons, List.contains_nil, Nat.reduceAdd, Nat.zero_add, Nat.reduceBEq, Bool.or_false, Bool.or_true, Bool.false_eq_true, ↓reduceIte]
                rw [e124]
                go_wp2_with fail
                exact ⟨by trivial, World.grownBy.refl _ _, rfl⟩
              · refine bifF rfl (FreeStep.mk rfl fun vs W hk hd => ?_)
                have e133 : vs 133 = (.pointer (some ⟨q, 0, none⟩)) := hd 9 (by kernel_rfl)
                clear hd
                obtain ⟨_, s, hS⟩ := hk
                clear hS
                simp only [fillA, fillL, dstL, List.take_succ_cons, List.take_zero, List.filterMap_cons, List.filterMap_nil, List.contains_cons, List.contains_nil, Nat.reduceAdd, Nat.zero_add, Nat.reduceBEq, Bool.or_false, Bool.or_true, Bool.false_eq_true, ↓reduceIte]
                rw [e133]
                go_wp2_with fail
                exact ⟨by trivial, World.grownBy.refl _ _, rfl⟩
              · refine bifT rfl (MarkStep.mk rfl fun s vs W hS hi hdp hd => ?_)
                have e134 : vs 134 = (.pointer (some ⟨q, 3, none⟩)) := hd 10 (by kernel_rfl)
                clear hd
                obtain ⟨hbk, ao, nn, cap, hsa⟩ := hS.node3 (hdp 8 (by kernel_rfl)) hi
                replace hsa : vs 132 = .slice ao nn cap := hsa
                have hk3 : W.cell? ⟨q, 3, none⟩ = some kvb := hbk.cell 3
                have hf3 : W.frozen? ⟨q, 3, none⟩ = false := hbk.free 3
                simp only [fillA, fillL, dstL, List.take_succ_cons, List.take_zero, List.filterMap_cons, List.filterMap_nil, List.contains_cons, List.contains_nil, Nat.reduceAdd, Nat.zero_add, Nat.reduceBEq, Bool.or_false, Bool.or_true, Bool.false_eq_true, ↓reduceIte]
                rw [e134, hsa]
                go_wp2_with fail
                exact ⟨by trivial, trivial, AddI.stored OKT.out hS (hdp 8 (by kernel_rfl)) hi (by decide) (f := 3) (fun _ => rfl) (congrArg (fun u => W.setCell ⟨q, 3, none⟩ u) hsa.symm), trivial⟩
            · intro s vs wt hall hs hS
              obtain ⟨hgt, hxt, hlt, yt, jt, ust, kvt, hrt, hRt, hBt, hKt⟩ := AddI.end_ hS (hs 11 rfl)
              have HGt := Lib.hid hgt; have HXt := Lib.hid hxt; have HLt := Lib.hid hlt; have HRt := Lib.hid hrt; have HRDt := Lib.hid hRt; have HBt := Lib.hid hBt; have HKt := Lib.hid hKt
              clear hgt hxt hlt hrt hRt hBt hKt hS hs hall
              refine OrHalt.normal ?_
              simp only [fillA, fillL, dstL, List.take_succ_cons, List.take_zero, List.filterMap_cons, List.filterMap_nil, List.contains_cons, List.contains_nil, Nat.reduceAdd, Nat.zero_add, Nat.reduceBEq, Bool.or_false, Bool.or_true, Bool.false_eq_true, ↓reduceIte]
              have HRQ := Lib.hid (show RdAt wt b L jt (lv + 1) from HRDt.out)
              have HKQ := Lib.hid (show KidsIn 152 83 (q + 1) wt kvt ust [ya, yb, yt] from HKt.out)
              have HBQ := Lib.hid (show BlkOf wt q (pcells 10 0 [] kvt ps) 152 from HBt.out)
              have HGQ := Lib.hid (show w.grownBy wt (some b) from HGt.out)
              have k5 := HRQ.out.lev
              have f5 := BlkOf.free HRQ.out.blk 5
              go_wp2_with fail
              go_ret
              exact PGot.ok (HRT.out.trans (by rw [show E m9 = Ps.ok yt jt from HRt.out]; rfl)) (HRQ.out.back (by omega)) (grown_one HGQ.out (setCell_grown _ _ _ _)) ((HKQ.out.kept (setCell_grown _ _ _ _) (fun r e => by have := Option.some.inj e; omega)).done (by rw [HQ.out]; omega) (by rw [HQ.out]; omega) (HBQ.out.grown (setCell_grown _ _ _ _) (by simp; omega)))
set_option maxRecDepth 100000 in
set_option maxHeartbeats 16000000 in
theorem sexpr_def {k : Nat} {S E S0 : Nat → Ps Tr} (_hk : lv + k = 64) (hS0 : ReadsBy wz 97 b L lv S0) (hL : L.length ≤ 4000) (hwb : wz.heap.size ≤ b) (h : RdAt w b L i lv) (hx : Ext wz w) (h0 : isT L i [108, 101, 116] = false) (h1 : isT L i [110, 101, 101, 100] = false) (h2 : isT L i [105, 102] = false) :
    Calls Tryz.prog 56 #[.pointer (some ⟨b, 0, none⟩)] w (PGot w b L lv (PTr w) (exprT L k S E S0 i)) := by
  have c3 : w.cell? ⟨b, 3, none⟩ = some (.int .i64 (tokN L i).pos) := BlkOf.cell h.blk 3
  have hbq := h.lt
  have e1 := Ext.alloc w (.cells #[.int .i64 0, .int .i64 0, .string ⟨#[]⟩, .slice none 0 0, .int .i64 (tokN L i).pos] 152)
  have HB := Lib.hid (BlkOf.new w (pcells 0 0 [] (.slice none 0 0) (tokN L i).pos) 152)
  replace HB : Hid (BlkOf (w.alloc (.cells #[.int .i64 0, .int .i64 0, .string ⟨#[]⟩, .slice none 0 0, .int .i64 (tokN L i).pos] 152)) w.heap.size (pcells 0 0 [] (.slice none 0 0) (tokN L i).pos) 152) := HB
  have HR := Lib.hid (h.ext e1)
  have HG := Lib.hid (e1.grownBy (some b))
  have HXZ := Lib.hid hx; have HWB := Lib.hid hwb
  generalize hR : exprT L k S E S0 i = R
  have HRR := Lib.hid hR.symm
  clear hR h hx hwb
  go_enter Tryz.func56, Tryz.ntmps56
  go_upto_region 7 with fail
  generalize w.alloc (.cells #[.int .i64 0, .int .i64 0, .string ⟨#[]⟩, .slice none 0 0, .int .i64 (tokN L i).pos] 152) = w2 at *
  obtain ⟨q, hq⟩ : ∃ q, w.heap.size = q := ⟨_, rfl⟩
  rw [hq] at HB hbq ⊢
  have HQ := Lib.hid hq
  clear hq e1 c3
  obtain ⟨ps, hps⟩ : ∃ ps, (tokN L i).pos = ps := ⟨_, rfl⟩
  rw [hps] at HB
  simp only [hps]
  have HS0 := Lib.hid (sis_any HR.out [108, 101, 116])
  rw [h0] at HS0
  have HS1 := Lib.hid (sis_any HR.out [110, 101, 101, 100])
  rw [h1] at HS1
  have HS2 := Lib.hid (sis_any HR.out [105, 102])
  rw [h2] at HS2
  have HRY := Lib.hid (show R = (S0 i).bind fun a j => if isT L j [61, 61] then (S0 (nxtN L j)).bind fun b j => .ok (.mk 6 0 [] [a, b] ps) j else .ok a j from by rw [HRR.out]; unfold exprT; rw [h0, if_neg (by simp), h1, if_neg (by simp), h2, if_neg (by simp)]; rw [hps])
  clear HRR h0 h1 h2 hps
  have HSM := Lib.hid hS0
  go_upto_region 14 with (go_at_call 95; refine HS0.out.mono ?_; rintro e w9 ⟨rfl, rfl⟩)
  go_upto_region 21 with (go_at_call 95; refine HS1.out.mono ?_; rintro e w9 ⟨rfl, rfl⟩)
  go_upto_region 2 with (go_at_call 95; refine HS2.out.mono ?_; rintro e w9 ⟨rfl, rfl⟩)
  go_wp2_with fail
  refine (HSM.out w2 _ HR.out (ext_turn HXZ.out HG.out HWB.out)).mono ?_
  intro e w3 h9
  rcases PGot.cases h9 with ⟨a, d, hr, he, hg⟩ | ⟨x1, m1, v, hr, rfl, hr3, hg3, ht3⟩
  · subst he
    go_wp2_with fail
    exact ⟨rfl, PGot.bad (HRY.out.trans (by rw [hr]; rfl)) ⟨rfl, grown_one HG.out hg⟩⟩
  · obtain ⟨qa, rfl, -, -⟩ := trAt.ptr ht3
    have HRZ := Lib.hid (show R = if isT L m1 [61, 61] then (S0 (nxtN L m1)).bind fun b j => .ok (.mk 6 0 [] [x1, b] ps) j else .ok x1 m1 from HRY.out.trans (by rw [hr]; rfl))
    have HB3 := Lib.hid (HB.out.grown hg3 (by simp; omega))
    have HLO := Lib.hid (show q + 1 ≤ w2.heap.size from HB.out.lt)
    have HTA := Lib.hid (show trAt 152 83 x1 w2.heap.size w3.heap.size w3 (.pointer (some ⟨qa, 0, none⟩)) from ht3)
    have HR3 := Lib.hid hr3
    have HG23 := Lib.hid hg3
    replace HG := Lib.hid (grown_one HG.out hg3)
    clear hr hr3 hg3 h9 HRY HR HB ht3 HS0 HS1 HS2
    cases e61 : isT L m1 [61, 61] with
    | false =>
      have HRV := Lib.hid (show R = .ok x1 m1 from HRZ.out.trans (by rw [e61, if_neg (by simp)]))
      have HSK := Lib.hid (sskd_no HR3.out hL e61)
      clear e61 HRZ
      go_wp2_with (go_at_call 92; refine HSK.out.mono ?_; rintro e w4 ⟨rfl, hr4, hg4⟩)
      go_ret
      exact PGot.ok HRV.out hr4 (grown_one HG.out hg4) ((HTA.out.kept hg4 (fun r e => by have := HLO.out; have := Option.some.inj e; omega)).mono (by rw [HQ.out]; have := HLO.out; omega) hg4.size)
    | true =>
      have HRV := Lib.hid (show R = (S0 (nxtN L m1)).bind fun b j => .ok (.mk 6 0 [] [x1, b] ps) j from HRZ.out.trans (by rw [e61, if_pos rfl]))
      have HSK := Lib.hid (sskd_yes HR3.out hL e61)
      clear e61 HRZ
      go_upto_region 5 with (go_at_call 92; refine HSK.out.mono ?_; rintro e w4 ⟨rfl, hr4, hg4⟩; have HR4 := Lib.hid hr4; have HG34 := Lib.hid hg4; clear hr4 hg4)
      replace HG := Lib.hid (grown_one HG.out HG34.out)
      go_wp2_with fail
      refine (HSM.out w4 _ HR4.out (ext_turn HXZ.out HG.out HWB.out)).mono ?_
      intro e w5 h9
      rcases PGot.cases h9 with ⟨a, d, hr, he, hg⟩ | ⟨x2, m2, v, hr, rfl, hr5, hg5, ht5⟩
      · subst he
        go_wp2_with fail
        exact ⟨rfl, PGot.bad (HRV.out.trans (by rw [hr]; rfl)) ⟨rfl, grown_one HG.out hg⟩⟩
      · obtain ⟨qb, rfl, -, -⟩ := trAt.ptr ht5
        have HRU := Lib.hid (show R = .ok (.mk 6 0 [] [x1, x2] ps) m2 from HRV.out.trans (by rw [hr]; rfl))
        have hgA := grown_one HG34.out hg5
        have HTA5 := Lib.hid ((HTA.out.kept hgA (fun r e => by have := HLO.out; have := Option.some.inj e; omega)).mono (lo' := q + 1) HLO.out hgA.size)
        have hsz := Nat.le_trans HG23.out.size HG34.out.size
        have HTB5 := Lib.hid (show trAt 152 83 x2 (q + 1) w5.heap.size w5 (.pointer (some ⟨qb, 0, none⟩)) from trAt.mono ht5 (Nat.le_trans HLO.out hsz) (Nat.le_refl _))
        have HB5 := Lib.hid (HB3.out.grown hgA (by simp; omega))
        have HR5 := Lib.hid hr5
        replace HG := Lib.hid (grown_one HG.out hg5)
        clear hr hr5 hg5 h9 ht5 HR4 HB3 HR3 HTA hgA hsz HRV HSK
        have k0 : w5.cell? ⟨q, 0, none⟩ = some (.int .i64 0) := HB5.out.cell 0
        have k3 : w5.cell? ⟨q, 3, none⟩ = some (.slice none 0 0) := HB5.out.cell 3
        have f0 : w5.frozen? ⟨q, 0, none⟩ = false := HB5.out.free 0
        have f3 : w5.frozen? ⟨q, 3, none⟩ = false := HB5.out.free 3
        have hql : q < w5.heap.size := HB5.out.lt
        have hq1 : q ≠ w5.heap.size := Nat.ne_of_lt hql
        have hq2 : w5.heap.size ≠ q := fun e => hq1 e.symm
        go_wp2_with fail
        go_ret
        have hgz : w5.grownBy ((w5.setCell ⟨q, 0, none⟩ (.int .i64 6)).setCell ⟨q, 3, none⟩ (.slice (some ⟨w5.heap.size, 0, none⟩) 2 2)) (some q) := grown_one (setCell_grown _ _ _ _) (setCell_grown _ _ _ _)
        exact PGot.ok HRU.out (RdAt.ext ⟨BlkOf.grown HR5.out.blk hgz (by simp; omega), HR5.out.le⟩ (Ext.alloc _ _)) (grown_ext (grown_new HG.out hgz (by rw [HQ.out]; omega)) (Ext.alloc _ _)) ((node6 HB5.out HTA5.out HTB5.out).mono (by rw [HQ.out]; omega) (Nat.le_refl _))
theorem sexpr_any {k : Nat} {S E S0 : Nat → Ps Tr} (hk : lv + k = 64) (hS : k ≠ 0 → ReadsBy wz 97 b L (lv + 1) S) (hE : k ≠ 0 → ReadsBy wz 56 b L (lv + 1) E) (hS0 : ReadsBy wz 97 b L lv S0) (hL : L.length ≤ 4000) (hwb : wz.heap.size ≤ b) :
    ReadsBy wz 56 b L lv (exprT L k S E S0) := fun w i h hx => by
  cases h0 : isT L i [108, 101, 116] with
  | true => exact sexpr_let hk hE hL hwb h hx h0
  | false =>
    cases h1 : isT L i [110, 101, 101, 100] with
    | true => exact sexpr_need hk hS hE hL hwb h hx h0 h1
    | false =>
      cases h2 : isT L i [105, 102] with
      | true => exact sexpr_if hk hE hL hwb h hx h0 h1 h2
      | false => exact sexpr_def hk hS0 hL hwb h hx h0 h1 h2
theorem sread_any (hL : L.length ≤ 4000) (hwb : wz.heap.size ≤ b) (herr : ErrR wz) : ∀ (k : Nat) {lv : Nat}, lv + k = 64 → ReadsBy wz 164 b L lv (readT L (k + 1)).1 ∧ ReadsBy wz 56 b L lv (readT L (k + 1)).2
  | 0, lv, hk => by
    have hp : ReadsBy wz 164 b L lv (readT L 1).1 := spart_any (mono_read 0).2 (prog_read 0).2 hk (fun h => absurd rfl h) (fun h => absurd rfl h) hL hwb herr
    exact ⟨hp, sexpr_any hk (fun h => absurd rfl h) (fun h => absurd rfl h) (ssum_any (mono_read 1).1 (prog_read 1).1 hp hL hwb) hL hwb⟩
  | k + 1, lv, hk => by
    obtain ⟨h1, h2⟩ := sread_any hL hwb herr k (lv := lv + 1) (by omega)
    have hp : ReadsBy wz 164 b L lv (readT L (k + 2)).1 := spart_any (mono_read (k + 1)).2 (prog_read (k + 1)).2 hk (fun _ => h1) (fun _ => h2) hL hwb herr
    exact ⟨hp, sexpr_any hk (fun _ => ssum_any (mono_read (k + 1)).1 (prog_read (k + 1)).1 h1 hL hwb) (fun _ => h2) (ssum_any (mono_read (k + 2)).1 (prog_read (k + 2)).1 hp hL hwb) hL hwb⟩
end
end Go.Proofs.YtgnomhbbbcfehaaGreatDoor
