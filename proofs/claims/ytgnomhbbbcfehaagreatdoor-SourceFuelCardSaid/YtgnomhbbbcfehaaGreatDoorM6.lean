/- The program's machine: call, back. -/
import Derived.Test.YtgnomhbbbcfehaaGreatDoorZx14
namespace Go.Att
open Go.RowKit
theorem call_no1 {p : Int} {s : Ms} {x : In4} (h : ¬ s.may s.ap s.fp) : s.call p x = .no 7 := by unfold Ms.call; rw [tell_no_eq h]; rfl
theorem call_no2 {p : Int} {s : Ms} {x : In4} (h : s.may s.ap s.fp) (h2 : ¬ (s.told s.ap s.fp).may (fadd p s.ap 1) (fadd p s.pc 1)) : s.call p x = .no 7 := by
  unfold Ms.call; rw [tell_yes_eq h]; show Rs.bind (Ms.tell (s.told _ _) (fadd p s.ap 1) (fadd p s.pc 1)) _ = _; rw [tell_no_eq h2]; rfl
def Ms.into (s t : Ms) (p : Int) (x : In4) : Ms := { t with fp := fadd p s.ap 2, ap := fadd p (fadd p s.ap 2) x.b, pc := fof p x.a }
theorem call_yes {p : Int} {s : Ms} {x : In4} (h : s.may s.ap s.fp) (h2 : (s.told s.ap s.fp).may (fadd p s.ap 1) (fadd p s.pc 1)) : s.call p x = .go 0 (s.into ((s.told s.ap s.fp).told (fadd p s.ap 1) (fadd p s.pc 1)) p x) := by
  unfold Ms.call; rw [tell_yes_eq h]; show Rs.bind (Ms.tell (s.told _ _) (fadd p s.ap 1) (fadd p s.pc 1)) _ = _; rw [tell_yes_eq h2]; rfl
theorem back_no1 {p : Int} {s : Ms} {x : In4} (h : lk s.mem (fadd p s.fp (-2)) = none) : s.back p x = .no 10 := by unfold Ms.back; rw [look_no_eq h]; rfl
theorem back_no2 {p : Int} {s : Ms} {x : In4} {f : Int} (h : lk s.mem (fadd p s.fp (-2)) = some f) (h2 : lk s.mem (fadd p s.fp (-1)) = none) : s.back p x = .no 10 := by
  unfold Ms.back; rw [look_yes_eq h]; show Rs.bind (Ms.look (s.noted _ _) (fadd p s.fp (-1))) _ = _; rw [look_no_eq (s := s.noted (fadd p s.fp (-2)) f) h2]; rfl
theorem back_no3 {p : Int} {s : Ms} {x : In4} {f q : Int} (h : lk s.mem (fadd p s.fp (-2)) = some f) (h2 : lk s.mem (fadd p s.fp (-1)) = some q) (h3 : lk s.mem (fadd p s.fp x.a) = none) : s.back p x = .no 10 := by
  unfold Ms.back; rw [look_yes_eq h]; show Rs.bind (Ms.look (s.noted _ _) (fadd p s.fp (-1))) _ = _; rw [look_yes_eq (s := s.noted (fadd p s.fp (-2)) f) h2]
  show Rs.bind (Ms.look ((s.noted _ _).noted _ _) (fadd p s.fp x.a)) _ = _; rw [look_no_eq (s := (s.noted (fadd p s.fp (-2)) f).noted (fadd p s.fp (-1)) q) h3]; rfl
def Ms.outof (s : Ms) (p : Int) (x : In4) (f q r : Int) : Ms := { ((s.noted (fadd p s.fp (-2)) f).noted (fadd p s.fp (-1)) q).noted (fadd p s.fp x.a) r with rv := r, fp := f, pc := q }
theorem back_yes {p : Int} {s : Ms} {x : In4} {f q r : Int} (h : lk s.mem (fadd p s.fp (-2)) = some f) (h2 : lk s.mem (fadd p s.fp (-1)) = some q) (h3 : lk s.mem (fadd p s.fp x.a) = some r) : s.back p x = .go 0 (s.outof p x f q r) := by
  unfold Ms.back; rw [look_yes_eq h]; show Rs.bind (Ms.look (s.noted _ _) (fadd p s.fp (-1))) _ = _; rw [look_yes_eq (s := s.noted (fadd p s.fp (-2)) f) h2]
  show Rs.bind (Ms.look ((s.noted _ _).noted _ _) (fadd p s.fp x.a)) _ = _; rw [look_yes_eq (s := (s.noted (fadd p s.fp (-2)) f).noted (fadd p s.fp (-1)) q) h3]; rfl
end Go.Att
namespace Go.Proofs.YtgnomhbbbcfehaaGreatDoor
open Go.RowKit Go.Att Go.Maps
attribute [local go_sem ↓] Go.wp_at_zero Go.wp_at_succ
section
variable {w0 w w' : World} {b mb : Nat} {f : Value} {p g : Int} {fs : List Int} {sz : Int} {lv : Value} {cd : List In4} {s s' : Ms} {n : Int} {sv : Value} {dn : Int}
theorem MAt.more (h : MAt w0 w b mb f p g fs sz lv cd s n sv dn) {m : Int} (hm : n ≤ m) : MAt w0 w b mb f p g fs sz lv cd s m sv dn :=
  ⟨h.blk, h.told.mono hm, h.ext, h.fld, h.code, h.nb, h.nm, h.ne, h.ok, h.dnb⟩
set_option maxRecDepth 100000 in
set_option maxHeartbeats 4000000 in
theorem mcall_any (h : MAt w0 w b mb f p g fs sz lv cd s n sv dn) (x : In4) (h2 : s.acc.length = 0) (hn : n < 9223372036854775806) : Calls Tryz.prog 175 #[.pointer (some ⟨b, 0, none⟩), insV x] w (MGot w0 w b mb f p g fs sz lv cd (s.call p x) (fun _ => .tuple #[]) (n + 2) sv dn) := by
  have hx1 := Ext.alloc w (.cells (insCs x).toArray 111)
  have hb1 := BlkOf.new w (insCs x) 111
  have h1 := h.to hx1
  have hz1 : w.heap.size ≠ b := by have := h.blk.lt; omega
  have hz2 : w.heap.size ≠ mb := by have := h.told.lt; omega
  obtain ⟨bf, rfl⟩ := h.fld.ptr
  have hp := h.fld.hi
  have ht1 : Turned b mb w (w.alloc (.cells (insCs x).toArray 111)) := Turned.of_ext hx1
  have HOK := Lib.hid h.ok
  have H2 := Lib.hid h2; have HN := Lib.hid hn; have HT1 := Lib.hid ht1; have HB := Lib.hid hb1; have H1 := Lib.hid h1; have HZ1 := Lib.hid hz1; have HZ2 := Lib.hid hz2
  have HFL := Lib.hid h.fld
  clear h2 hn ht1 hb1 h1 hz1 hz2 h hx1
  unfold insV
  go_enter Tryz.func175, Tryz.ntmps175
  go_wp2_with fail
  change Hid (BlkOf (w.alloc (.cells #[.int .i64 x.op, .int .i64 x.a, .int .i64 x.b, .int .i64 x.c] 111)) _ _ _) at HB
  change Hid (MAt _ (w.alloc (.cells #[.int .i64 x.op, .int .i64 x.a, .int .i64 x.b, .int .i64 x.c] 111)) _ _ _ _ _ _ _ _ _ _ _ _ _) at H1
  change Hid (Turned _ _ _ (w.alloc (.cells #[.int .i64 x.op, .int .i64 x.a, .int .i64 x.b, .int .i64 x.c] 111))) at HT1
  generalize w.alloc (.cells #[.int .i64 x.op, .int .i64 x.a, .int .i64 x.b, .int .i64 x.c] 111) = w1 at *
  generalize hzb : w.heap.size = zb at *
  clear hzb
  have c5 : w1.cell? ⟨b, 5, none⟩ = some (.int .i64 s.fp) := H1.out.blk.cell 5
  have c6 : w1.cell? ⟨b, 6, none⟩ = some (.int .i64 s.ap) := H1.out.blk.cell 6
  refine wp_region_stop (fun c w'' => MGot w0 w b mb (.pointer (some ⟨bf, 0, none⟩)) p g fs sz lv cd (s.call p x) (fun _ => .tuple #[]) (n + 2) sv dn (.panicked c) w'') ?_ ?_
  · intro c a w'' hd hR
    go_wp2_with fail
    exact ⟨hd, hR⟩
  go_region_held (fun w' => w'.cell? ⟨b, 5, none⟩ = some (.int .i64 s.fp) ∧ w'.cell? ⟨b, 6, none⟩ = some (.int .i64 s.ap)) (first | exact ⟨hm3.blk.cell 5, hm3.blk.cell 6⟩ | exact ⟨c5, c6⟩) (first | (go_at_call 174; ((with_reducible refine (mtell_any (H1.out.to (Ext.drew w1)) HOK.out.ap HOK.out.fp (by rw [H2.out]; omega) (by have := HN.out; omega)).mono ?_)); intro e w3 h3; rcases mgot_tell h3 with ⟨hr, rfl, hx⟩ | ⟨hr, rfl, hm3, ht3⟩; (exact OrStop.panic rfl (mgot_no (call_no1 hr) ⟨rfl, hx⟩)); clear h3; have HT2 := (Turned.of_ext (Ext.drew w1)).trans ht3))
  refine OrStop.normal ?_
  have HM3 := Lib.hid hm3; have HR := Lib.hid hr; have HT3 := Lib.hid (HT1.out.trans HT2)
  have HB3 := Lib.hid (HT2.blk HB.out HZ1.out HZ2.out)
  have c0 : w3.cell? ⟨b, 0, none⟩ = some (.pointer (some ⟨bf, 0, none⟩)) := hm3.blk.cell 0
  have c4 : w3.cell? ⟨b, 4, none⟩ = some (.int .i64 s.pc) := hm3.blk.cell 4
  have d6 : w3.cell? ⟨b, 6, none⟩ = some (.int .i64 s.ap) := hm3.blk.cell 6
  clear c5 c6 hm3 hr HT2 ht3 HB HT1 H1
  have HX3 := Lib.hid HM3.out.ext
  go_wp2_with fail
  refine wp_region_stop (fun c w'' => MGot w0 w b mb (.pointer (some ⟨bf, 0, none⟩)) p g fs sz lv cd (s.call p x) (fun _ => .tuple #[]) (n + 2) sv dn (.panicked c) w'') ?_ ?_
  · intro c a w'' hd hR
    go_wp2_with fail
    exact ⟨hd, hR⟩
  go_region_held (fun w' => w'.cell? ⟨b, 0, none⟩ = some (.pointer (some ⟨bf, 0, none⟩)) ∧ w'.cell? ⟨b, 4, none⟩ = some (.int .i64 s.pc) ∧ w'.cell? ⟨b, 6, none⟩ = some (.int .i64 s.ap)) (first | exact ⟨hm5.blk.cell 0, hm5.blk.cell 4, hm5.blk.cell 6⟩ | exact ⟨c0, c4, d6⟩) (first | (go_at_call 174; ((with_reducible refine (mtell_any (HM3.out.to (Ext.drewN w3 _)) (fadd_bd HFL.out.two _ _) (fadd_bd HFL.out.two _ _) (by simp [Ms.told, H2.out]) (by have := HN.out; omega)).mono ?_)); intro e w5 h5; rcases mgot_tell h5 with ⟨hr, rfl, hx⟩ | ⟨hr, rfl, hm5, ht5⟩; (exact OrStop.panic rfl (mgot_no (call_no2 HR.out hr) ⟨rfl, hx⟩)); clear h5; have HT2 := (Turned.of_ext (Ext.drewN w3 _)).trans ht5) | (go_at_call 136; (first | (with_reducible refine (add_any (HFL.out.ext (HX3.out.trans (Ext.drew w3))) _ _).mono ?_) | (with_reducible refine (add_any (HFL.out.ext (HX3.out.trans (Ext.drewN w3 _))) _ _).mono ?_)); rintro e m1w ⟨rfl, m1, rfl⟩))
  refine OrStop.normal ?_
  have HM5 := Lib.hid hm5; have HR5 := Lib.hid hr; have HT5 := Lib.hid (HT3.out.trans HT2); have HX5 := Lib.hid hm5.ext
  have HB5 := Lib.hid (HT2.blk HB3.out HZ1.out HZ2.out)
  have e0 : w5.cell? ⟨b, 0, none⟩ = some (.pointer (some ⟨bf, 0, none⟩)) := hm5.blk.cell 0
  have e5 : w5.cell? ⟨b, 5, none⟩ = some (.int .i64 s.fp) := hm5.blk.cell 5
  have g5 := hm5.blk.free 5
  have e6 : w5.cell? ⟨b, 6, none⟩ = some (.int .i64 s.ap) := hm5.blk.cell 6
  clear c0 c4 d6 hm5 hr HT2 ht5 HB3 HT3 HM3
  go_wp2_with fail
  go_region_held (fun w' => w'.cell? ⟨b, 0, none⟩ = some (.pointer (some ⟨bf, 0, none⟩)) ∧ w'.cell? ⟨b, 6, none⟩ = some (.int .i64 s.ap)) (first | exact ⟨e0, e6⟩ | exact ⟨(World.cell?_setCell_other _ _ _ _ (by simp)).trans e0, (World.cell?_setCell_other _ _ _ _ (by simp)).trans e6⟩) (first | (go_at_call 136; (first | (with_reducible refine (add_any (HFL.out.ext (HX5.out.trans (Ext.drew w5))) _ _).mono ?_) | (with_reducible refine (add_any (HFL.out.ext (HX5.out.trans (Ext.drewN w5 _))) _ _).mono ?_)); rintro e m2w ⟨rfl, m2, rfl⟩))
  have hG6 : w5.grownBy ((w5.drewN (1 + m2)).setCell ⟨b, 5, none⟩ (.int .i64 (fadd p s.ap 2))) (some b) := grown_one ((Ext.drewN w5 (1 + m2)).grownBy _) (setCell_grown _ _ _ _)
  have hB6 := (HM5.out.blk.ext (Ext.drewN w5 (1 + m2))).set 5 (.int .i64 (fadd p s.ap 2))
  have hI6 := ((Turned.one hG6 (c := mb)).blk HB5.out HZ1.out HZ2.out)
  have hx6 : Ext w0 ((w5.drewN (1 + m2)).setCell ⟨b, 5, none⟩ (.int .i64 (fadd p s.ap 2))) := Turned.ext (c := mb) (Turned.one hG6) HX5.out HM5.out.nb HM5.out.nm
  clear e0 e5 g5 e6 HB5
  generalize (w5.drewN (1 + m2)).setCell ⟨b, 5, none⟩ (.int .i64 (fadd p s.ap 2)) = w6 at *
  have e0 : w6.cell? ⟨b, 0, none⟩ = some (.pointer (some ⟨bf, 0, none⟩)) := hB6.cell 0
  have e5 : w6.cell? ⟨b, 5, none⟩ = some (.int .i64 (fadd p s.ap 2)) := hB6.cell 5
  have e4 : w6.cell? ⟨b, 4, none⟩ = some (.int .i64 s.pc) := hB6.cell 4
  have e6 : w6.cell? ⟨b, 6, none⟩ = some (.int .i64 s.ap) := hB6.cell 6
  have g4 := hB6.free 4
  have g6 := hB6.free 6
  have i1 : w6.cell? ⟨zb, 1, none⟩ = some (.int .i64 x.a) := hI6.cell 1
  have i2 : w6.cell? ⟨zb, 2, none⟩ = some (.int .i64 x.b) := hI6.cell 2
  have HG6 := Lib.hid hG6; have HB6 := Lib.hid hB6; have HX6 := Lib.hid hx6
  have hz3 : zb ≠ b := HZ1.out
  clear hG6 hB6 hI6 hx6
  go_wp2_with fail
  go_region_held (fun w' => w'.cell? ⟨b, 0, none⟩ = some (.pointer (some ⟨bf, 0, none⟩)) ∧ w'.cell? ⟨b, 5, none⟩ = some (.int .i64 (fadd p s.ap 2)) ∧ w'.cell? ⟨zb, 1, none⟩ = some (.int .i64 x.a) ∧ w'.cell? ⟨zb, 2, none⟩ = some (.int .i64 x.b)) (first | exact ⟨e0, e5, i1, i2⟩ | exact ⟨(World.cell?_setCell_other _ _ _ _ (by simp)).trans e0, (World.cell?_setCell_other _ _ _ _ (by simp)).trans e5, (World.cell?_setCell_other _ _ _ _ (by simp)).trans i1, (World.cell?_setCell_other _ _ _ _ (by simp)).trans i2⟩ | exact ⟨(World.cell?_setCell_other _ _ _ _ (by simp)).trans ((World.cell?_setCell_other _ _ _ _ (by simp)).trans e0), (World.cell?_setCell_other _ _ _ _ (by simp)).trans ((World.cell?_setCell_other _ _ _ _ (by simp)).trans e5), (World.cell?_setCell_other _ _ _ _ (by simp)).trans ((World.cell?_setCell_other _ _ _ _ (by simp)).trans i1), (World.cell?_setCell_other _ _ _ _ (by simp)).trans ((World.cell?_setCell_other _ _ _ _ (by simp)).trans i2)⟩) (first | (go_at_call 136; (first | (with_reducible refine (add_any (HFL.out.ext (HX6.out.trans (Ext.drew w6))) _ _).mono ?_) | (with_reducible refine (add_any (HFL.out.ext (HX6.out.trans (Ext.drewN w6 _))) _ _).mono ?_)); rintro e m3w ⟨rfl, m3, rfl⟩) | (go_at_call 33; (first | (with_reducible refine (of_any (HFL.out.ext (HX6.out.trans (Ext.drew w6))) _).mono ?_) | (with_reducible refine (of_any (HFL.out.ext (HX6.out.trans (Ext.drewN w6 _))) _).mono ?_)); rintro e m4w ⟨rfl, m4, rfl⟩))
  go_wp2_with fail
  go_end0
  have hG7 : w5.grownBy (((w6.drewN (1 + m3 + m4)).setCell ⟨b, 6, none⟩ (.int .i64 (fadd p (fadd p s.ap 2) x.b))).setCell ⟨b, 4, none⟩ (.int .i64 (fof p x.a))) (some b) := grown_one (grown_one HG6.out ((Ext.drewN w6 (1 + m3 + m4)).grownBy _)) (grown_one (setCell_grown _ _ _ _) (setCell_grown _ _ _ _))
  have hB7 : BlkOf (((w6.drewN (1 + m3 + m4)).setCell ⟨b, 6, none⟩ (.int .i64 (fadd p (fadd p s.ap 2) x.b))).setCell ⟨b, 4, none⟩ (.int .i64 (fof p x.a))) b (mcells (.pointer (some ⟨bf, 0, none⟩)) sz lv mb (s.into ((s.told s.ap s.fp).told (fadd p s.ap 1) (fadd p s.pc 1)) p x) sv dn) 167 := ((HB6.out.ext (Ext.drewN w6 (1 + m3 + m4))).set 6 (.int .i64 (fadd p (fadd p s.ap 2) x.b))).set 4 (.int .i64 (fof p x.a))
  have ok := HM5.out.ok
  exact mgot_go (call_yes HR.out HR5.out) ⟨rfl, (HM5.out.more (by omega)).wrote hG7 hB7 rfl HM5.out.dnb ⟨fof_bd HFL.out.two _, fadd_bd HFL.out.two _ _, fadd_bd HFL.out.two _ _, ok.rv, ok.mem, ok.acc⟩, HT5.out.trans (Turned.one hG7)⟩
set_option maxRecDepth 100000 in
set_option maxHeartbeats 4000000 in
theorem mback_any (h : MAt w0 w b mb f p g fs sz lv cd s n sv dn) (x : In4) (h2 : s.acc.length = 0) (hn : n < 9223372036854775806) : Calls Tryz.prog 176 #[.pointer (some ⟨b, 0, none⟩), insV x] w (MGot w0 w b mb f p g fs sz lv cd (s.back p x) (fun _ => .tuple #[]) n sv dn) := by
  have hx1 := Ext.alloc w (.cells (insCs x).toArray 111)
  have hb1 := BlkOf.new w (insCs x) 111
  have h1 := h.to hx1
  have hz1 : w.heap.size ≠ b := by have := h.blk.lt; omega
  have hz2 : w.heap.size ≠ mb := by have := h.told.lt; omega
  obtain ⟨bf, rfl⟩ := h.fld.ptr
  have hp := h.fld.hi
  have ht1 : Turned b mb w (w.alloc (.cells (insCs x).toArray 111)) := Turned.of_ext hx1
  have HOK := Lib.hid h.ok
  have H2 := Lib.hid h2; have HN := Lib.hid hn; have HT1 := Lib.hid ht1; have HB := Lib.hid hb1; have H1 := Lib.hid h1; have HZ1 := Lib.hid hz1; have HZ2 := Lib.hid hz2
  have HFL := Lib.hid h.fld
  clear h2 hn ht1 hb1 h1 hz1 hz2 h hx1
  unfold insV
  go_enter Tryz.func176, Tryz.ntmps176
  go_wp2_with fail
  change Hid (BlkOf (w.alloc (.cells #[.int .i64 x.op, .int .i64 x.a, .int .i64 x.b, .int .i64 x.c] 111)) _ _ _) at HB
  change Hid (MAt _ (w.alloc (.cells #[.int .i64 x.op, .int .i64 x.a, .int .i64 x.b, .int .i64 x.c] 111)) _ _ _ _ _ _ _ _ _ _ _ _ _) at H1
  change Hid (Turned _ _ _ (w.alloc (.cells #[.int .i64 x.op, .int .i64 x.a, .int .i64 x.b, .int .i64 x.c] 111))) at HT1
  generalize w.alloc (.cells #[.int .i64 x.op, .int .i64 x.a, .int .i64 x.b, .int .i64 x.c] 111) = w1 at *
  generalize hzb : w.heap.size = zb at *
  clear hzb
  clear HN HOK
  have HT := Lib.hid HT1.out
  go_wp2_with (go_at_call 148; ((with_reducible refine (mown_at (q := s.fp) H1.out (-2) rfl).mono ?_); rintro e m1w ⟨rfl, m1, rfl⟩))
  refine (mlook_any (H1.out.to (Ext.drewN w1 m1)) (fadd_bd HFL.out.two s.fp (-2)).1 (by have := (fadd_bd HFL.out.two s.fp (-2)).2; omega) (by simp [H2.out])).mono ?_
  intro e w3 h3
  rcases mgot_look h3 with ⟨hr, rfl, hx⟩ | ⟨u1, hu1, rfl, hm3, ht3⟩
  · go_wp2_with fail
    exact ⟨rfl, mgot_no (back_no1 hr) ⟨rfl, hx⟩⟩
  clear h3
  have HM3 := Lib.hid hm3; have HT3 := Lib.hid (HT.out.trans ((Turned.of_ext (Ext.drewN w1 m1)).trans ht3)); have HB3 := Lib.hid (((Turned.of_ext (Ext.drewN w1 m1)).trans ht3).blk HB.out HZ1.out HZ2.out); have HU1 := Lib.hid hu1
  clear hm3 ht3 HT HB HT1 H1 hu1
  go_wp2_with (go_at_call 148; ((with_reducible refine (mown_at (q := s.fp) HM3.out (-1) rfl).mono ?_); rintro e m2w ⟨rfl, m2, rfl⟩))
  refine (mlook_any (HM3.out.to (Ext.drewN w3 m2)) (fadd_bd HFL.out.two s.fp (-1)).1 (by have := (fadd_bd HFL.out.two s.fp (-1)).2; omega) (by simp [Ms.noted, H2.out])).mono ?_
  intro e w5 h5
  rcases mgot_look h5 with ⟨hr, rfl, hx⟩ | ⟨u2, hu2, rfl, hm5, ht5⟩
  · go_wp2_with fail
    exact ⟨rfl, mgot_no (back_no2 HU1.out hr) ⟨rfl, hx⟩⟩
  clear h5
  have HM5 := Lib.hid hm5; have HT5 := Lib.hid (HT3.out.trans ((Turned.of_ext (Ext.drewN w3 m2)).trans ht5)); have hB5 := (((Turned.of_ext (Ext.drewN w3 m2)).trans ht5).blk HB3.out HZ1.out HZ2.out); have HU2 := Lib.hid hu2
  have i1 : w5.cell? ⟨zb, 1, none⟩ = some (.int .i64 x.a) := hB5.cell 1
  clear hm5 ht5 HT3 HB3 HM3 hu2 hB5
  go_wp2_with (go_at_call 148; ((with_reducible refine (mown_at (q := s.fp) HM5.out x.a rfl).mono ?_); rintro e m3w ⟨rfl, m3, rfl⟩))
  refine (mlook_any (HM5.out.to (Ext.drewN w5 m3)) (fadd_bd HFL.out.two s.fp x.a).1 (by have := (fadd_bd HFL.out.two s.fp x.a).2; omega) (by simp [Ms.noted, H2.out])).mono ?_
  intro e w7 h7
  rcases mgot_look h7 with ⟨hr, rfl, hx⟩ | ⟨u3, hu3, rfl, hm7, ht7⟩
  · go_wp2_with fail
    exact ⟨rfl, mgot_no (back_no3 HU1.out HU2.out hr) ⟨rfl, hx⟩⟩
  clear h7
  have HM7 := Lib.hid hm7; have HT7 := Lib.hid (HT5.out.trans ((Turned.of_ext (Ext.drewN w5 m3)).trans ht7)); have HU3 := Lib.hid hu3
  have j7 : w7.cell? ⟨b, 7, none⟩ = some (.int .i64 s.rv) := hm7.blk.cell 7
  have g7 := hm7.blk.free 7
  have j5 : w7.cell? ⟨b, 5, none⟩ = some (.int .i64 s.fp) := hm7.blk.cell 5
  have g5 := hm7.blk.free 5
  have j4 : w7.cell? ⟨b, 4, none⟩ = some (.int .i64 s.pc) := hm7.blk.cell 4
  have g4 := hm7.blk.free 4
  clear hm7 ht7 HT5 HM5 hu3 i1
  go_wp2_with fail
  go_end0
  have hG : w7.grownBy (((w7.setCell ⟨b, 7, none⟩ (.int .i64 u3)).setCell ⟨b, 5, none⟩ (.int .i64 u1)).setCell ⟨b, 4, none⟩ (.int .i64 u2)) (some b) := grown_one (setCell_grown _ _ _ _) (grown_one (setCell_grown _ _ _ _) (setCell_grown _ _ _ _))
  have hB : BlkOf (((w7.setCell ⟨b, 7, none⟩ (.int .i64 u3)).setCell ⟨b, 5, none⟩ (.int .i64 u1)).setCell ⟨b, 4, none⟩ (.int .i64 u2)) b (mcells (.pointer (some ⟨bf, 0, none⟩)) sz lv mb (s.outof p x u1 u2 u3) sv dn) 167 := ((HM7.out.blk.set 7 _).set 5 _).set 4 _
  have ok := HM7.out.ok
  exact mgot_go (back_yes HU1.out HU2.out HU3.out) ⟨rfl, HM7.out.wrote hG hB rfl HM7.out.dnb ⟨ok.val HU2.out, ok.val HU1.out, ok.ap, ok.val HU3.out, ok.mem, ok.acc⟩, HT7.out.trans (Turned.one hG)⟩
end
end Go.Proofs.YtgnomhbbbcfehaaGreatDoor
