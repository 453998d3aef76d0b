/- The program's machine: one instruction. -/
import Derived.Test.YtgnomhbbbcfehaaGreatDoorM6
namespace Go.Att
open Go.RowKit
theorem bind_no {r : Rs} {g : Int → Ms → Rs} {k : Int} (h : r = .no k) : r.bind g = .no k := by subst h; rfl
theorem bind_yes {r : Rs} {g : Int → Ms → Rs} {v : Int} {s : Ms} (h : r = .go v s) : r.bind g = g v s := by subst h; rfl
theorem one_cmp {p : Int} {s : Ms} {x : In4} (h : isCmp x.op = true) : s.one p x = (s.comp p x).bind (Ms.to (fadd p s.pc 1)) := by unfold Ms.one; rw [if_pos h]
theorem one_5 (p : Int) (s : Ms) (a b c : Int) : s.one p ⟨5, a, b, c⟩ = (s.tell (fadd p s.fp a) (fof p b)).bind (Ms.to (fadd p s.pc 1)) := by simp [Ms.one, isCmp]
theorem one_7 (p : Int) (s : Ms) (a b c : Int) : s.one p ⟨7, a, b, c⟩ = (s.look (fadd p s.fp a)).bind fun u t => (t.look (fadd p s.fp b)).bind fun v t => if u = v then Ms.to (fadd p s.pc 1) 0 t else .no 7 := by simp [Ms.one, isCmp]
theorem one_8 (p : Int) (s : Ms) (a b c : Int) : s.one p ⟨8, a, b, c⟩ = Ms.to (fof p a) 0 s := by simp [Ms.one, isCmp]
theorem one_9 (p : Int) (s : Ms) (a b c : Int) : s.one p ⟨9, a, b, c⟩ = (s.look (fadd p s.fp a)).bind fun u t => Ms.to (if u = 0 then fof p b else fadd p s.pc 1) 0 t := by simp [Ms.one, isCmp]
theorem one_10 (p : Int) (s : Ms) (a b c : Int) : s.one p ⟨10, a, b, c⟩ = s.call p ⟨10, a, b, c⟩ := by simp [Ms.one, isCmp]
theorem one_11 (p : Int) (s : Ms) (a b c : Int) : s.one p ⟨11, a, b, c⟩ = s.back p ⟨11, a, b, c⟩ := by simp [Ms.one, isCmp]
theorem one_12 (p : Int) (s : Ms) (a b c : Int) : s.one p ⟨12, a, b, c⟩ = (s.tell (fadd p s.fp a) s.rv).bind (Ms.to (fadd p s.pc 1)) := by simp [Ms.one, isCmp]
theorem one_13 (p : Int) (s : Ms) (a b c : Int) : s.one p ⟨13, a, b, c⟩ = (s.look (fadd p s.fp a)).bind fun u t => (t.tell (fadd p (fadd p s.ap 2) b) u).bind (Ms.to (fadd p s.pc 1)) := by simp [Ms.one, isCmp]
def isOp (op : Int) : Bool := isCmp op || op == 5 || op == 7 || op == 8 || op == 9 || op == 10 || op == 11 || op == 12 || op == 13
theorem one_none (p : Int) (s : Ms) (x : In4) (h : isOp x.op = false) : s.one p x = .no 7 := by
  unfold isOp at h
  simp at h
  unfold Ms.one
  simp [h]
theorem ops_of {op : Int} (h : isOp op = true) : (op = 1 ∨ op = 2 ∨ op = 3 ∨ op = 4 ∨ op = 6) ∨ op = 5 ∨ op = 7 ∨ op = 8 ∨ op = 9 ∨ op = 10 ∨ op = 11 ∨ op = 12 ∨ op = 13 := by
  simp [isOp, isCmp] at h; omega
theorem no_ops {op : Int} (h : isOp op = false) : (op == 1) = false ∧ (op == 2) = false ∧ (op == 3) = false ∧ (op == 4) = false ∧ (op == 5) = false ∧ (op == 6) = false ∧ (op == 7) = false ∧ (op == 8) = false ∧ (op == 9) = false ∧ (op == 10) = false ∧ (op == 11) = false ∧ (op == 12) = false ∧ (op == 13) = false := by
  simp [isOp, isCmp] at h; simp; omega
end Go.Att
namespace Go.Proofs.YtgnomhbbbcfehaaGreatDoor
open Go.RowKit Go.Att Go.Maps
attribute [local go_sem ↓] Go.wp_at_zero Go.wp_at_succ
section
variable {w0 w w' : World} {b mb : Nat} {f : Value} {p g : Int} {fs : List Int} {sz : Int} {lv : Value} {cd : List In4} {s s' : Ms} {n : Int} {sv : Value} {dn : Int}
theorem mgot_cases {r : Rs} {mk : Int → Value} {e : Ending} (h : MGot w0 w b mb f p g fs sz lv cd r mk n sv dn e w') : (∃ k, r = .no k ∧ Stops 192 w0 k e w') ∨ ∃ v s', r = .go v s' ∧ MGo w0 w b mb f p g fs sz lv cd s' n sv dn (mk v) e w' := by
  cases r with
  | go v s' => exact .inr ⟨v, s', rfl, h⟩
  | no k => exact .inl ⟨k, rfl, h⟩
theorem MAt.setpc (h : MAt w0 w b mb f p g fs sz lv cd s n sv dn) {q : Int} (hq : 0 ≤ q ∧ q < p) : MAt w0 (w.setCell ⟨b, 4, none⟩ (.int .i64 q)) b mb f p g fs sz lv cd { s with pc := q } n sv dn ∧ Turned b mb w (w.setCell ⟨b, 4, none⟩ (.int .i64 q)) :=
  ⟨h.wrote (setCell_grown _ _ _ _) (h.blk.set 4 (.int .i64 q)) rfl h.dnb ⟨hq, h.ok.fp, h.ok.ap, h.ok.rv, h.ok.mem, h.ok.acc⟩, Turned.one (setCell_grown _ _ _ _)⟩
theorem must_any {w0 w : World} (hx : Ext w0 w) (c : Bool) : Calls Tryz.prog 146 #[.bool c] w fun e w' => (c = true ∧ e = .returned (.tuple #[]) ∧ w = w') ∨ (c = false ∧ Stops 192 w0 7 e w') := by
  cases c
  · exact (must_no hx).mono fun e w' h => .inr ⟨rfl, h⟩
  · exact (must_yes w).mono fun e w' h => .inl ⟨rfl, h⟩
set_option maxRecDepth 100000 in
set_option maxHeartbeats 8000000 in
theorem mone_any (h : MAt w0 w b mb f p g fs sz lv cd s n sv dn) (x : In4) (h2 : s.acc.length = 0) (hn : n < 9223372036854775806) : Calls Tryz.prog 149 #[.pointer (some ⟨b, 0, none⟩), insV x] w (MGot w0 w b mb f p g fs sz lv cd (s.one p x) (fun _ => .tuple #[]) (n + 2) sv dn) := by
  have hx1 := Ext.alloc w (.cells (insCs x).toArray 111)
  have hb1 := BlkOf.new w (insCs x) 111
  have h1 := h.to hx1
  have hz1 : w.heap.size ≠ b := by have := h.blk.lt; omega
  have hz2 : w.heap.size ≠ mb := by have := h.told.lt; omega
  obtain ⟨bf, rfl⟩ := h.fld.ptr
  have hp := h.fld.hi
  have ht1 : Turned b mb w (w.alloc (.cells (insCs x).toArray 111)) := Turned.of_ext hx1
  have HOK := Lib.hid h.ok
  have H2 := Lib.hid h2; have HN := Lib.hid hn; have HT1 := Lib.hid ht1; have HB := Lib.hid hb1; have H1 := Lib.hid h1; have HZ1 := Lib.hid hz1; have HZ2 := Lib.hid hz2
  have HFL := Lib.hid h.fld
  clear h2 hn ht1 hb1 h1 hz1 hz2 h hx1
  unfold insV
  go_enter Tryz.func149, Tryz.ntmps149
  go_wp2_with fail
  change Hid (BlkOf (w.alloc (.cells #[.int .i64 x.op, .int .i64 x.a, .int .i64 x.b, .int .i64 x.c] 111)) _ _ _) at HB
  change Hid (MAt _ (w.alloc (.cells #[.int .i64 x.op, .int .i64 x.a, .int .i64 x.b, .int .i64 x.c] 111)) _ _ _ _ _ _ _ _ _ _ _ _ _) at H1
  change Hid (Turned _ _ _ (w.alloc (.cells #[.int .i64 x.op, .int .i64 x.a, .int .i64 x.b, .int .i64 x.c] 111))) at HT1
  generalize w.alloc (.cells #[.int .i64 x.op, .int .i64 x.a, .int .i64 x.b, .int .i64 x.c] 111) = w1 at *
  generalize hzb : w.heap.size = zb at *
  clear hzb
  have c0 : w1.cell? ⟨b, 0, none⟩ = some (.pointer (some ⟨bf, 0, none⟩)) := H1.out.blk.cell 0
  have c4 : w1.cell? ⟨b, 4, none⟩ = some (.int .i64 s.pc) := H1.out.blk.cell 4
  go_quiet ((go_at_call 136; exact add_q (HFL.out.ext H1.out.ext) _ _ _))
  have hm2 := H1.out.to (Ext.drewN w1 nq)
  have hb2 := HB.out.ext (Ext.drewN w1 nq)
  have ht2 := HT1.out.trans (Turned.of_ext (Ext.drewN w1 nq))
  clear c0 c4 H1 HB HT1
  generalize w1.drewN nq = w2 at *
  have HM := Lib.hid hm2; have HB := Lib.hid hb2; have HT := Lib.hid ht2; have HX := Lib.hid hm2.ext
  clear hm2 hb2 ht2
  have b0 : w2.cell? ⟨zb, 0, none⟩ = some (.int .i64 x.op) := HB.out.cell 0
  have b1 : w2.cell? ⟨zb, 1, none⟩ = some (.int .i64 x.a) := HB.out.cell 1
  have b2 : w2.cell? ⟨zb, 2, none⟩ = some (.int .i64 x.b) := HB.out.cell 2
  have b3 : w2.cell? ⟨zb, 3, none⟩ = some (.int .i64 x.c) := HB.out.cell 3
  have c0 : w2.cell? ⟨b, 0, none⟩ = some (.pointer (some ⟨bf, 0, none⟩)) := HM.out.blk.cell 0
  have c4 : w2.cell? ⟨b, 4, none⟩ = some (.int .i64 s.pc) := HM.out.blk.cell 4
  have g4 := HM.out.blk.free 4
  have HNX := Lib.hid (fadd_bd HFL.out.two s.pc 1)
  cases hop : isOp x.op with
  | false =>
    obtain ⟨o1, o2, o3, o4, o5, o6, o7, o8, o9, o10, o11, o12, o13⟩ := no_ops hop
    have HE := Lib.hid (one_none p s x hop)
    clear hop
    go_wp2_with (go_at_call 146; refine (must_no HX.out).mono ?_; rintro e w6 ⟨rfl, hx⟩)
    exact ⟨rfl, mgot_no HE.out ⟨rfl, hx⟩⟩
  | true =>
    have hops := ops_of hop
    clear hop
    obtain ⟨op, xa, xb, xc⟩ := x
    dsimp only at *
    rcases hops with hops | rfl | rfl | rfl | rfl | rfl | rfl | rfl | rfl
    · rcases hops with rfl | rfl | rfl | rfl | rfl
      · go_wp2_with fail
        refine (mcomp_any HM.out ⟨1, xa, xb, xc⟩ rfl H2.out (by have := HN.out; omega)).mono ?_
        intro e w3 h3
        rcases mgot_cases h3 with ⟨k, hr, rfl, hx⟩ | ⟨v, t, hr, rfl, hm, ht⟩
        · go_wp2_with fail
          exact ⟨rfl, mgot_no ((one_cmp rfl).trans (bind_no hr)) ⟨rfl, hx⟩⟩
        have d4 : w3.cell? ⟨b, 4, none⟩ = some (.int .i64 t.pc) := hm.blk.cell 4
        have k4 := hm.blk.free 4
        have HMt := Lib.hid hm; have HTt := Lib.hid (HT.out.trans ht); have HR := Lib.hid hr
        clear h3 hm ht hr
        go_wp2_with fail
        go_end0
        have K := MAt.setpc (HMt.out.more (m := n + 2) (by omega)) (q := (fadd p s.pc 1)) HNX.out
        exact mgot_go ((one_cmp rfl).trans (bind_yes HR.out)) ⟨rfl, K.1, HTt.out.trans K.2⟩
      · go_wp2_with fail
        refine (mcomp_any HM.out ⟨2, xa, xb, xc⟩ rfl H2.out (by have := HN.out; omega)).mono ?_
        intro e w3 h3
        rcases mgot_cases h3 with ⟨k, hr, rfl, hx⟩ | ⟨v, t, hr, rfl, hm, ht⟩
        · go_wp2_with fail
          exact ⟨rfl, mgot_no ((one_cmp rfl).trans (bind_no hr)) ⟨rfl, hx⟩⟩
        have d4 : w3.cell? ⟨b, 4, none⟩ = some (.int .i64 t.pc) := hm.blk.cell 4
        have k4 := hm.blk.free 4
        have HMt := Lib.hid hm; have HTt := Lib.hid (HT.out.trans ht); have HR := Lib.hid hr
        clear h3 hm ht hr
        go_wp2_with fail
        go_end0
        have K := MAt.setpc (HMt.out.more (m := n + 2) (by omega)) (q := (fadd p s.pc 1)) HNX.out
        exact mgot_go ((one_cmp rfl).trans (bind_yes HR.out)) ⟨rfl, K.1, HTt.out.trans K.2⟩
      · go_wp2_with fail
        refine (mcomp_any HM.out ⟨3, xa, xb, xc⟩ rfl H2.out (by have := HN.out; omega)).mono ?_
        intro e w3 h3
        rcases mgot_cases h3 with ⟨k, hr, rfl, hx⟩ | ⟨v, t, hr, rfl, hm, ht⟩
        · go_wp2_with fail
          exact ⟨rfl, mgot_no ((one_cmp rfl).trans (bind_no hr)) ⟨rfl, hx⟩⟩
        have d4 : w3.cell? ⟨b, 4, none⟩ = some (.int .i64 t.pc) := hm.blk.cell 4
        have k4 := hm.blk.free 4
        have HMt := Lib.hid hm; have HTt := Lib.hid (HT.out.trans ht); have HR := Lib.hid hr
        clear h3 hm ht hr
        go_wp2_with fail
        go_end0
        have K := MAt.setpc (HMt.out.more (m := n + 2) (by omega)) (q := (fadd p s.pc 1)) HNX.out
        exact mgot_go ((one_cmp rfl).trans (bind_yes HR.out)) ⟨rfl, K.1, HTt.out.trans K.2⟩
      · go_wp2_with fail
        refine (mcomp_any HM.out ⟨4, xa, xb, xc⟩ rfl H2.out (by have := HN.out; omega)).mono ?_
        intro e w3 h3
        rcases mgot_cases h3 with ⟨k, hr, rfl, hx⟩ | ⟨v, t, hr, rfl, hm, ht⟩
        · go_wp2_with fail
          exact ⟨rfl, mgot_no ((one_cmp rfl).trans (bind_no hr)) ⟨rfl, hx⟩⟩
        have d4 : w3.cell? ⟨b, 4, none⟩ = some (.int .i64 t.pc) := hm.blk.cell 4
        have k4 := hm.blk.free 4
        have HMt := Lib.hid hm; have HTt := Lib.hid (HT.out.trans ht); have HR := Lib.hid hr
        clear h3 hm ht hr
        go_wp2_with fail
        go_end0
        have K := MAt.setpc (HMt.out.more (m := n + 2) (by omega)) (q := (fadd p s.pc 1)) HNX.out
        exact mgot_go ((one_cmp rfl).trans (bind_yes HR.out)) ⟨rfl, K.1, HTt.out.trans K.2⟩
      · go_wp2_with fail
        refine (mcomp_any HM.out ⟨6, xa, xb, xc⟩ rfl H2.out (by have := HN.out; omega)).mono ?_
        intro e w3 h3
        rcases mgot_cases h3 with ⟨k, hr, rfl, hx⟩ | ⟨v, t, hr, rfl, hm, ht⟩
        · go_wp2_with fail
          exact ⟨rfl, mgot_no ((one_cmp rfl).trans (bind_no hr)) ⟨rfl, hx⟩⟩
        have d4 : w3.cell? ⟨b, 4, none⟩ = some (.int .i64 t.pc) := hm.blk.cell 4
        have k4 := hm.blk.free 4
        have HMt := Lib.hid hm; have HTt := Lib.hid (HT.out.trans ht); have HR := Lib.hid hr
        clear h3 hm ht hr
        go_wp2_with fail
        go_end0
        have K := MAt.setpc (HMt.out.more (m := n + 2) (by omega)) (q := (fadd p s.pc 1)) HNX.out
        exact mgot_go ((one_cmp rfl).trans (bind_yes HR.out)) ⟨rfl, K.1, HTt.out.trans K.2⟩
    · go_wp2_with fail
      refine wp_region_stop (fun c w'' => MGot w0 w b mb (.pointer (some ⟨bf, 0, none⟩)) p g fs sz lv cd (s.one p ⟨5, xa, xb, xc⟩) (fun _ => .tuple #[]) (n + 2) sv dn (.panicked c) w'') ?_ ?_
      · intro c a w'' hd hR
        go_wp2_with fail
        exact ⟨hd, hR⟩
      go_region_held (fun w' => w'.cell? ⟨zb, 1, none⟩ = some (.int .i64 xa) ∧ w'.cell? ⟨zb, 2, none⟩ = some (.int .i64 xb) ∧ w'.cell? ⟨b, 0, none⟩ = some (.pointer (some ⟨bf, 0, none⟩))) (first | exact ⟨HT2.cell b1 HZ1.out HZ2.out, HT2.cell b2 HZ1.out HZ2.out, hm3.blk.cell 0⟩ | exact ⟨b1, b2, c0⟩) (first | (go_at_call 174; ((with_reducible refine (mtell_any (HM.out.to (Ext.drewN w2 _)) (fadd_bd HFL.out.two _ _) (fof_bd HFL.out.two _) (by rw [H2.out]; omega) (by have := HN.out; omega)).mono ?_)); intro e w3 h3; rcases mgot_tell h3 with ⟨hr, rfl, hx⟩ | ⟨hr, rfl, hm3, ht3⟩; (exact OrStop.panic rfl (mgot_no ((one_5 p s xa xb xc).trans (bind_no (tell_no_eq hr))) ⟨rfl, hx⟩)); clear h3; have HT2 := (Turned.of_ext (Ext.drewN w2 _)).trans ht3) | (go_at_call 148; (first | (with_reducible refine (mown_at (q := s.fp) (HM.out.to (Ext.drew w2)) xa rfl).mono ?_) | (with_reducible refine (mown_at (q := s.fp) (HM.out.to (Ext.drewN w2 _)) xa rfl).mono ?_)); rintro e m1w ⟨rfl, m1, rfl⟩) | (go_at_call 33; (first | (with_reducible refine (of_any (HFL.out.ext (HX.out.trans (Ext.drew w2))) _).mono ?_) | (with_reducible refine (of_any (HFL.out.ext (HX.out.trans (Ext.drewN w2 _))) _).mono ?_)); rintro e m2w ⟨rfl, m2, rfl⟩))
      refine OrStop.normal ?_
      have d4 : _ = some (Value.int .i64 s.pc) := hm3.blk.cell 4
      have k4 := hm3.blk.free 4
      have HMt := Lib.hid hm3; have HTt := Lib.hid (HT.out.trans HT2); have HR := Lib.hid hr
      clear hm3 ht3 HT2 hr
      go_wp2_with fail
      go_end0
      have K := MAt.setpc (HMt.out.more (m := n + 2) (by omega)) (q := (fadd p s.pc 1)) HNX.out
      exact mgot_go ((one_5 p s xa xb xc).trans (bind_yes (tell_yes_eq HR.out))) ⟨rfl, K.1, HTt.out.trans K.2⟩
    · go_wp2_with fail
      refine wp_region_stop (fun c w'' => MGot w0 w b mb (.pointer (some ⟨bf, 0, none⟩)) p g fs sz lv cd (s.one p ⟨7, xa, xb, xc⟩) (fun _ => .tuple #[]) (n + 2) sv dn (.panicked c) w'') ?_ ?_
      · intro c a w'' hd hR
        go_wp2_with fail
        exact ⟨hd, hR⟩
      go_region_held (fun w' => w'.cell? ⟨zb, 1, none⟩ = some (.int .i64 xa) ∧ w'.cell? ⟨zb, 2, none⟩ = some (.int .i64 xb)) (first | exact ⟨HT4.cell b1 HZ1.out HZ2.out, HT4.cell b2 HZ1.out HZ2.out⟩ | exact ⟨HT3.cell b1 HZ1.out HZ2.out, HT3.cell b2 HZ1.out HZ2.out⟩ | exact ⟨HT2.cell b1 HZ1.out HZ2.out, HT2.cell b2 HZ1.out HZ2.out⟩ | exact ⟨b1, b2⟩) (first | (go_at_call 146; ((with_reducible refine (must_any hm5.ext _).mono ?_)); intro e w6 h6; rcases h6 with ⟨huv, rfl, rfl⟩ | ⟨huv, rfl, hx⟩; rotate_left; (exact OrStop.panic rfl (mgot_no ((one_7 p s xa xb xc).trans ((bind_yes (look_yes_eq hu)).trans ((bind_yes (look_yes_eq hv)).trans (if_neg (by simpa using huv))))) ⟨rfl, hx⟩))) | (go_at_call 147; ((with_reducible refine (mlook_any (hm3.to (Ext.drewN _ _)) (fadd_bd HFL.out.two s.fp xb).1 (by have := (fadd_bd HFL.out.two s.fp xb).2; omega) (by simp [Ms.noted, H2.out])).mono ?_)); intro e w5 h5; rcases mgot_look h5 with ⟨hr5, rfl, hx⟩ | ⟨v, hv, rfl, hm5, ht5⟩; (exact OrStop.panic rfl (mgot_no ((one_7 p s xa xb xc).trans ((bind_yes (look_yes_eq hu)).trans (bind_no (look_no_eq hr5)))) ⟨rfl, hx⟩)); clear h5; have HT4 := HT3.trans ht5) | (go_at_call 148; ((with_reducible refine (mown_at (q := s.fp) hm3 xb rfl).mono ?_); rintro e w4 ⟨rfl, m2, rfl⟩); have HT3 := HT2.trans (Turned.of_ext (Ext.drewN _ m2))) | (go_at_call 147; ((with_reducible refine (mlook_any (HM.out.to (Ext.drewN w2 _)) (fadd_bd HFL.out.two s.fp xa).1 (by have := (fadd_bd HFL.out.two s.fp xa).2; omega) (by rw [H2.out]; omega)).mono ?_)); intro e w3 h3; rcases mgot_look h3 with ⟨hr, rfl, hx⟩ | ⟨u, hu, rfl, hm3, ht3⟩; (exact OrStop.panic rfl (mgot_no ((one_7 p s xa xb xc).trans (bind_no (look_no_eq hr))) ⟨rfl, hx⟩)); clear h3; have HT2 := (Turned.of_ext (Ext.drewN w2 _)).trans ht3) | (go_at_call 148; (first | (with_reducible refine (mown_at (q := s.fp) (HM.out.to (Ext.drew w2)) xa rfl).mono ?_) | (with_reducible refine (mown_at (q := s.fp) (HM.out.to (Ext.drewN w2 _)) xa rfl).mono ?_)); rintro e m1w ⟨rfl, m1, rfl⟩))
      refine OrStop.normal ?_
      have d4 : _ = some (Value.int .i64 s.pc) := hm5.blk.cell 4
      have k4 := hm5.blk.free 4
      have HMt := Lib.hid hm5; have HTt := Lib.hid (HT.out.trans HT4); have HU := Lib.hid hu; have HV := Lib.hid hv; have HUV := Lib.hid huv
      clear hm3 ht3 hm5 ht5 HT2 HT3 HT4 hu hv huv
      go_wp2_with fail
      go_end0
      have K := MAt.setpc (HMt.out.more (m := n + 2) (by omega)) (q := (fadd p s.pc 1)) HNX.out
      exact mgot_go ((one_7 p s xa xb xc).trans ((bind_yes (look_yes_eq HU.out)).trans ((bind_yes (look_yes_eq HV.out)).trans (if_pos (by simpa using HUV.out))))) ⟨rfl, K.1, HTt.out.trans K.2⟩
    · go_wp2_with fail
      go_quiet ((go_at_call 33; exact of_q (HFL.out.ext HX.out) _ _))
      have HMt := Lib.hid (HM.out.to (Ext.drewN w2 nq)); have HTt := Lib.hid (HT.out.trans (Turned.of_ext (Ext.drewN w2 nq)))
      go_wp2_with fail
      go_end0
      have K := MAt.setpc (HMt.out.more (m := n + 2) (by omega)) (q := (fof p xa)) (fof_bd HFL.out.two _)
      exact mgot_go (one_8 p s xa xb xc) ⟨rfl, K.1, HTt.out.trans K.2⟩
    · go_wp2_with (first | (go_at_call 148; ((with_reducible refine (mown_at (q := s.fp) HM.out xa rfl).mono ?_); rintro e m1w ⟨rfl, m1, rfl⟩)))
      refine (mlook_any (HM.out.to (Ext.drewN w2 m1)) (fadd_bd HFL.out.two s.fp xa).1 (by have := (fadd_bd HFL.out.two s.fp xa).2; omega) (by rw [H2.out]; omega)).mono ?_
      intro e w3 h3
      rcases mgot_look h3 with ⟨hr, rfl, hx⟩ | ⟨u, hu, rfl, hm3, ht3⟩
      · go_wp2_with fail
        exact ⟨rfl, mgot_no ((one_9 p s xa xb xc).trans (bind_no (look_no_eq hr))) ⟨rfl, hx⟩⟩
      have ht4 := (Turned.of_ext (Ext.drewN w2 m1)).trans ht3
      have i2 : w3.cell? ⟨zb, 2, none⟩ = some (.int .i64 xb) := ht4.cell b2 HZ1.out HZ2.out
      have d0 : w3.cell? ⟨b, 0, none⟩ = some (.pointer (some ⟨bf, 0, none⟩)) := hm3.blk.cell 0
      have d4 : w3.cell? ⟨b, 4, none⟩ = some (.int .i64 s.pc) := hm3.blk.cell 4
      have k4 := hm3.blk.free 4
      have HM3 := Lib.hid hm3; have HT3 := Lib.hid (HT.out.trans ht4); have HU := Lib.hid hu; have HX3 := Lib.hid hm3.ext
      clear h3 hm3 ht3 ht4 hu
      by_cases hz : u = 0
      · subst hz
        go_wp2_with fail
        go_quiet ((go_at_call 33; exact of_q (HFL.out.ext HX3.out) _ _))
        have HMt := Lib.hid (HM3.out.to (Ext.drewN w3 nq)); have HTt := Lib.hid (HT3.out.trans (Turned.of_ext (Ext.drewN w3 nq)))
        go_wp2_with fail
        go_end0
        have K := MAt.setpc (HMt.out.more (m := n + 2) (by omega)) (q := (fof p xb)) (fof_bd HFL.out.two _)
        exact mgot_go ((one_9 p s xa xb xc).trans (bind_yes (look_yes_eq HU.out))) ⟨rfl, K.1, HTt.out.trans K.2⟩
      · have hub : (u == 0) = false := by simpa using hz
        have HZ := Lib.hid hz
        clear hz
        have HE := Lib.hid ((one_9 p s xa xb xc).trans ((bind_yes (look_yes_eq HU.out)).trans (by rw [if_neg HZ.out])))
        go_wp2_with fail
        go_end0
        have K := MAt.setpc (HM3.out.more (m := n + 2) (by omega)) (q := (fadd p s.pc 1)) HNX.out
        exact mgot_go (HE.out) ⟨rfl, K.1, HT3.out.trans K.2⟩
    · go_wp2_with fail
      refine (mcall_any HM.out ⟨10, xa, xb, xc⟩ H2.out HN.out).mono ?_
      intro e w3 h3
      rcases mgot_cases h3 with ⟨k, hr, rfl, hx⟩ | ⟨v, t, hr, rfl, hm, ht⟩
      · go_wp2_with fail
        exact ⟨rfl, mgot_no ((one_10 p s xa xb xc).trans hr) ⟨rfl, hx⟩⟩
      have HMt := Lib.hid (hm.more (m := n + 2) (by omega)); have HTt := Lib.hid (HT.out.trans ht); have HR := Lib.hid hr
      clear h3 hm ht hr
      go_wp2_with fail
      go_end0
      exact mgot_go ((one_10 p s xa xb xc).trans HR.out) ⟨rfl, HMt.out, HTt.out⟩
    · go_wp2_with fail
      refine (mback_any HM.out ⟨11, xa, xb, xc⟩ H2.out HN.out).mono ?_
      intro e w3 h3
      rcases mgot_cases h3 with ⟨k, hr, rfl, hx⟩ | ⟨v, t, hr, rfl, hm, ht⟩
      · go_wp2_with fail
        exact ⟨rfl, mgot_no ((one_11 p s xa xb xc).trans hr) ⟨rfl, hx⟩⟩
      have HMt := Lib.hid (hm.more (m := n + 2) (by omega)); have HTt := Lib.hid (HT.out.trans ht); have HR := Lib.hid hr
      clear h3 hm ht hr
      go_wp2_with fail
      go_end0
      exact mgot_go ((one_11 p s xa xb xc).trans HR.out) ⟨rfl, HMt.out, HTt.out⟩
    · have c7 : w2.cell? ⟨b, 7, none⟩ = some (.int .i64 s.rv) := HM.out.blk.cell 7
      go_wp2_with fail
      refine wp_region_stop (fun c w'' => MGot w0 w b mb (.pointer (some ⟨bf, 0, none⟩)) p g fs sz lv cd (s.one p ⟨12, xa, xb, xc⟩) (fun _ => .tuple #[]) (n + 2) sv dn (.panicked c) w'') ?_ ?_
      · intro c a w'' hd hR
        go_wp2_with fail
        exact ⟨hd, hR⟩
      go_region_held (fun w' => w'.cell? ⟨zb, 1, none⟩ = some (.int .i64 xa) ∧ w'.cell? ⟨b, 7, none⟩ = some (.int .i64 s.rv)) (first | exact ⟨HT2.cell b1 HZ1.out HZ2.out, hm3.blk.cell 7⟩ | exact ⟨b1, c7⟩) (first | (go_at_call 174; ((with_reducible refine (mtell_any (HM.out.to (Ext.drewN w2 _)) (fadd_bd HFL.out.two _ _) HM.out.ok.rv (by rw [H2.out]; omega) (by have := HN.out; omega)).mono ?_)); intro e w3 h3; rcases mgot_tell h3 with ⟨hr, rfl, hx⟩ | ⟨hr, rfl, hm3, ht3⟩; (exact OrStop.panic rfl (mgot_no ((one_12 p s xa xb xc).trans (bind_no (tell_no_eq hr))) ⟨rfl, hx⟩)); clear h3; have HT2 := (Turned.of_ext (Ext.drewN w2 _)).trans ht3) | (go_at_call 148; (first | (with_reducible refine (mown_at (q := s.fp) (HM.out.to (Ext.drew w2)) xa rfl).mono ?_) | (with_reducible refine (mown_at (q := s.fp) (HM.out.to (Ext.drewN w2 _)) xa rfl).mono ?_)); rintro e m1w ⟨rfl, m1, rfl⟩))
      refine OrStop.normal ?_
      have d4 : _ = some (Value.int .i64 s.pc) := hm3.blk.cell 4
      have k4 := hm3.blk.free 4
      have HMt := Lib.hid hm3; have HTt := Lib.hid (HT.out.trans HT2); have HR := Lib.hid hr
      clear hm3 ht3 HT2 hr
      go_wp2_with fail
      go_end0
      have K := MAt.setpc (HMt.out.more (m := n + 2) (by omega)) (q := (fadd p s.pc 1)) HNX.out
      exact mgot_go ((one_12 p s xa xb xc).trans (bind_yes (tell_yes_eq HR.out))) ⟨rfl, K.1, HTt.out.trans K.2⟩
    · have c6 : w2.cell? ⟨b, 6, none⟩ = some (.int .i64 s.ap) := HM.out.blk.cell 6
      go_wp2_with fail
      refine wp_region_stop (fun c w'' => MGot w0 w b mb (.pointer (some ⟨bf, 0, none⟩)) p g fs sz lv cd (s.one p ⟨13, xa, xb, xc⟩) (fun _ => .tuple #[]) (n + 2) sv dn (.panicked c) w'') ?_ ?_
      · intro c a w'' hd hR
        go_wp2_with fail
        exact ⟨hd, hR⟩
      go_region_held (fun w' => w'.cell? ⟨zb, 1, none⟩ = some (.int .i64 xa) ∧ w'.cell? ⟨zb, 2, none⟩ = some (.int .i64 xb) ∧ w'.cell? ⟨b, 0, none⟩ = some (.pointer (some ⟨bf, 0, none⟩)) ∧ w'.cell? ⟨b, 6, none⟩ = some (.int .i64 s.ap)) (first | exact ⟨HT4.cell b1 HZ1.out HZ2.out, HT4.cell b2 HZ1.out HZ2.out, hm5.blk.cell 0, hm5.blk.cell 6⟩ | exact ⟨HT2.cell b1 HZ1.out HZ2.out, HT2.cell b2 HZ1.out HZ2.out, hm3.blk.cell 0, hm3.blk.cell 6⟩ | exact ⟨b1, b2, c0, c6⟩) (first | (go_at_call 174; ((with_reducible refine (mtell_any hm3 (fadd_bd HFL.out.two _ _) (HM.out.ok.val hu) (by simp [Ms.noted, H2.out]) (by have := HN.out; omega)).mono ?_)); intro e w5 h5; rcases mgot_tell h5 with ⟨hr, rfl, hx⟩ | ⟨hr, rfl, hm5, ht5⟩; (exact OrStop.panic rfl (mgot_no ((one_13 p s xa xb xc).trans ((bind_yes (look_yes_eq hu)).trans (bind_no (tell_no_eq hr)))) ⟨rfl, hx⟩)); clear h5; have HT4 := HT2.trans ht5) | (go_at_call 147; ((with_reducible refine (mlook_any (HM.out.to (Ext.drewN w2 _)) (fadd_bd HFL.out.two s.fp xa).1 (by have := (fadd_bd HFL.out.two s.fp xa).2; omega) (by rw [H2.out]; omega)).mono ?_)); intro e w3 h3; rcases mgot_look h3 with ⟨hr, rfl, hx⟩ | ⟨u, hu, rfl, hm3, ht3⟩; (exact OrStop.panic rfl (mgot_no ((one_13 p s xa xb xc).trans (bind_no (look_no_eq hr))) ⟨rfl, hx⟩)); clear h3; have HT2 := (Turned.of_ext (Ext.drewN w2 _)).trans ht3) | (go_at_call 148; (first | (with_reducible refine (mown_at (q := s.fp) (HM.out.to (Ext.drew w2)) xa rfl).mono ?_) | (with_reducible refine (mown_at (q := s.fp) (HM.out.to (Ext.drewN w2 _)) xa rfl).mono ?_)); rintro e m1w ⟨rfl, m1, rfl⟩) | (go_at_call 136; (first | (with_reducible refine (add_any (HFL.out.ext (HX.out.trans (Ext.drew w2))) _ _).mono ?_) | (with_reducible refine (add_any (HFL.out.ext (HX.out.trans (Ext.drewN w2 _))) _ _).mono ?_)); rintro e m2w ⟨rfl, m2, rfl⟩))
      refine OrStop.normal ?_
      have d4 : _ = some (Value.int .i64 s.pc) := hm5.blk.cell 4
      have k4 := hm5.blk.free 4
      have HMt := Lib.hid hm5; have HTt := Lib.hid (HT.out.trans HT4); have HU := Lib.hid hu; have HR := Lib.hid hr
      clear hm3 ht3 hm5 ht5 HT2 HT4 hu hr
      go_wp2_with fail
      go_end0
      have K := MAt.setpc (HMt.out.more (m := n + 2) (by omega)) (q := (fadd p s.pc 1)) HNX.out
      exact mgot_go ((one_13 p s xa xb xc).trans ((bind_yes (look_yes_eq HU.out)).trans (bind_yes (tell_yes_eq HR.out)))) ⟨rfl, K.1, HTt.out.trans K.2⟩
end
end Go.Proofs.YtgnomhbbbcfehaaGreatDoor
