/- The program's machine: compute. -/
import Derived.Test.YtnmjaddhbecopaaGreatDoorZx1
import Derived.Test.YtnmjaddhbecopaaGreatDoorHa
namespace Go.Att
open Go.RowKit
/-- An instruction, as a value. -/
def insV (x : In4) : Value := .agg #[.int .i64 x.op, .int .i64 x.a, .int .i64 x.b, .int .i64 x.c]
def insCs (x : In4) : List Value := [.int .i64 x.op, .int .i64 x.a, .int .i64 x.b, .int .i64 x.c]
theorem comp_no1 {p : Int} {s : Ms} {x : In4} {k : Int} (h : s.look (fadd p s.fp x.a) = .no k) : s.comp p x = .no k := by unfold Ms.comp; rw [h]; rfl
theorem comp_no2 {p : Int} {s : Ms} {x : In4} {k u : Int} (h : lk s.mem (fadd p s.fp x.a) = some u) (h2 : (s.noted (fadd p s.fp x.a) u).look (fadd p s.fp x.b) = .no k) : s.comp p x = .no k := by
  unfold Ms.comp; rw [look_yes_eq h]; show Rs.bind (Ms.look (s.noted _ _) (fadd p s.fp x.b)) _ = _; rw [h2]; rfl
theorem comp_yes {p : Int} {s : Ms} {x : In4} {u v : Int} (h : lk s.mem (fadd p s.fp x.a) = some u) (h2 : lk s.mem (fadd p s.fp x.b) = some v) : s.comp p x = if x.op = 4 ∧ v = 0 then .no 7 else ((s.noted (fadd p s.fp x.a) u).noted (fadd p s.fp x.b) v).tell (fadd p s.fp x.c) (reck p x.op u v) := by
  unfold Ms.comp; rw [look_yes_eq h]; show Rs.bind (Ms.look (s.noted _ _) (fadd p s.fp x.b)) _ = _; rw [look_yes_eq (s := s.noted (fadd p s.fp x.a) u) h2]; rfl
end Go.Att
namespace Go.Proofs.YtnmjaddhbecopaaGreatDoor
open Go.RowKit Go.Att Go.Maps
attribute [local go_sem ↓] Go.wp_at_zero Go.wp_at_succ
theorem div_any {w : World} {f : Value} {p g : Int} {fs : List Int} (hf : Fld w f p g fs) (a b : Int) : Calls Tryz.prog 214 #[f, .int .i64 a, .int .i64 b] w (Rd w (.int .i64 (fdiv p a b))) := by
  have C := Lib.hid hf; clear hf
  go_enter Tryz.func214, Tryz.ntmps214
  go_wp2_with (first | (go_at_call 125; refine (inv_any C.out _).mono ?_; rintro e w' ⟨rfl, n, rfl⟩) | (go_at_call 123; refine (mul_any (C.out.drewN _) _ _).mono ?_; rintro e w' ⟨rfl, n2, rfl⟩))
  go_ret; exact .more _ rfl
section
variable {w0 w w' : World} {b mb : Nat} {f : Value} {p g : Int} {fs : List Int} {sz : Int} {lv : Value} {cd : List In4} {s s' : Ms} {n : Int} {sv : Value} {dn : Int}
set_option maxRecDepth 100000 in
set_option maxHeartbeats 4000000 in
theorem mcomp_any (h : MAt w0 w b mb f p g fs sz lv cd s n sv dn) (x : In4) (hop : isCmp x.op = true) (h2 : s.acc.length = 0) (hn : n < 9223372036854775807) : Calls Tryz.prog 286 #[.pointer (some ⟨b, 0, none⟩), insV x] w (MGot w0 w b mb f p g fs sz lv cd (s.comp p x) (fun _ => .tuple #[]) (n + 1) sv dn) := by
  have hx1 := Ext.alloc w (.cells (insCs x).toArray 169)
  have hb1 := BlkOf.new w (insCs x) 169
  have h1 := h.to hx1
  have hz1 : w.heap.size ≠ b := by have := h.blk.lt; omega
  have hz2 : w.heap.size ≠ mb := by have := h.told.lt; omega
  obtain ⟨bf, rfl⟩ := h.fld.ptr
  have hp := h.fld.hi
  have hfa := fadd_bd h.fld.two s.fp x.a
  have hfb := fadd_bd h.fld.two s.fp x.b
  have ht1 : Turned b mb w (w.alloc (.cells (insCs x).toArray 169)) := Turned.of_ext hx1
  have HOP := Lib.hid hop; have H2 := Lib.hid h2; have HN := Lib.hid hn; have HT1 := Lib.hid ht1; have HB := Lib.hid hb1; have H1 := Lib.hid h1; have HZ1 := Lib.hid hz1; have HZ2 := Lib.hid hz2
  have HFL := Lib.hid h.fld; have HFA := Lib.hid hfa; have HFB := Lib.hid hfb
  clear hop h2 hn ht1 hb1 h1 hz1 hz2 h hx1 hfa hfb
  unfold insV
  go_enter Tryz.func286, Tryz.ntmps286
  go_wp2_with fail
  change Hid (BlkOf (w.alloc (.cells #[.int .i64 x.op, .int .i64 x.a, .int .i64 x.b, .int .i64 x.c] 169)) _ _ _) at HB
  change Hid (MAt _ (w.alloc (.cells #[.int .i64 x.op, .int .i64 x.a, .int .i64 x.b, .int .i64 x.c] 169)) _ _ _ _ _ _ _ _ _ _ _ _ _) at H1
  change Hid (Turned _ _ _ (w.alloc (.cells #[.int .i64 x.op, .int .i64 x.a, .int .i64 x.b, .int .i64 x.c] 169))) at HT1
  generalize w.alloc (.cells #[.int .i64 x.op, .int .i64 x.a, .int .i64 x.b, .int .i64 x.c] 169) = w1 at *
  generalize hzb : w.heap.size = zb at *
  clear hzb
  have b1 : w1.cell? ⟨zb, 1, none⟩ = some (.int .i64 x.a) := HB.out.cell 1
  have b2 : w1.cell? ⟨zb, 2, none⟩ = some (.int .i64 x.b) := HB.out.cell 2
  refine wp_region_stop (fun c w'' => MGot w0 w b mb (.pointer (some ⟨bf, 0, none⟩)) p g fs sz lv cd (s.comp p x) (fun _ => .tuple #[]) (n + 1) sv dn (.panicked c) w'') ?_ ?_
  · intro c a w'' hd hR
    go_wp2_with fail
    exact ⟨hd, hR⟩
  go_region_held (fun w' => w'.cell? ⟨zb, 1, none⟩ = some (.int .i64 x.a) ∧ w'.cell? ⟨zb, 2, none⟩ = some (.int .i64 x.b)) (first | exact ⟨HT4.cell b1 HZ1.out HZ2.out, HT4.cell b2 HZ1.out HZ2.out⟩ | exact ⟨HT3.cell b1 HZ1.out HZ2.out, HT3.cell b2 HZ1.out HZ2.out⟩ | exact ⟨HT2.cell b1 HZ1.out HZ2.out, HT2.cell b2 HZ1.out HZ2.out⟩ | exact ⟨HTa.cell b1 HZ1.out HZ2.out, HTa.cell b2 HZ1.out HZ2.out⟩ | exact ⟨b1, b2⟩) (first | (go_at_call 252; ((with_reducible refine (mlook_any (hm3.to (Ext.drewN _ _)) HFB.out.1 (by have := HFB.out.2; omega) (by simp [Ms.noted, H2.out])).mono ?_)); intro e w5 h5; rcases mgot_look h5 with ⟨hr5, rfl, hx⟩ | ⟨v, hv, rfl, hm5, ht5⟩; (exact OrStop.panic rfl (mgot_no (comp_no2 hu (look_no_eq hr5)) ⟨rfl, hx⟩)); clear h5; have HT4 := HT3.trans ht5) | (go_at_call 253; ((with_reducible refine (mown_at (q := s.fp) hm3 x.b rfl).mono ?_); rintro e w4 ⟨rfl, m2, rfl⟩); have HT3 := HT2.trans (Turned.of_ext (Ext.drewN _ m2))) | (go_at_call 252; ((with_reducible refine (mlook_any (H1.out.to (Ext.drewN w1 _)) HFA.out.1 (by have := HFA.out.2; omega) (by rw [H2.out]; omega)).mono ?_)); intro e w3 h3; rcases mgot_look h3 with ⟨hr, rfl, hx⟩ | ⟨u, hu, rfl, hm3, ht3⟩; (exact OrStop.panic rfl (mgot_no (comp_no1 (look_no_eq hr)) ⟨rfl, hx⟩)); clear h3; have HT2 := HTa.trans ht3) | (go_at_call 253; ((with_reducible refine (mown_any (H1.out.to (Ext.drew w1)) x.a).mono ?_); rintro e w2 ⟨rfl, m1, rfl⟩); have HTa := Turned.of_ext (b := b) (c := mb) (Ext.drewN w1 (1 + m1))))
  refine OrStop.normal ?_
  have HM := Lib.hid hm5; have HTU := Lib.hid (HT1.out.trans HT4)
  have HEQ := Lib.hid (comp_yes (p := p) (x := x) hu hv)
  have b0 : w5.cell? ⟨zb, 0, none⟩ = some (.int .i64 x.op) := HT4.cell (HB.out.cell 0) HZ1.out HZ2.out
  have b3 : w5.cell? ⟨zb, 3, none⟩ = some (.int .i64 x.c) := HT4.cell (HB.out.cell 3) HZ1.out HZ2.out
  have c0 : w5.cell? ⟨b, 0, none⟩ = some (.pointer (some ⟨bf, 0, none⟩)) := hm5.blk.cell 0
  have H2' : Hid (((s.noted (fadd p s.fp x.a) u).noted (fadd p s.fp x.b) v).acc.length ≤ 2) := Lib.hid (by simp [Ms.noted, H2.out])
  have HFP : Hid (((s.noted (fadd p s.fp x.a) u).noted (fadd p s.fp x.b) v).fp = s.fp) := Lib.hid rfl
  clear HT4 HT3 HT2 HTa ht5 ht3 hm3 hm5 b1 b2 hu hv H1 HT1 HB HFA HFB
  generalize (s.noted (fadd p s.fp x.a) u).noted (fadd p s.fp x.b) v = s2 at *
  obtain ⟨op, xa, xb, xc⟩ := x
  dsimp only at *
  have hops : op = 1 ∨ op = 2 ∨ op = 3 ∨ op = 4 ∨ op = 6 := by
    have := HOP.out
    simp [isCmp] at this; omega
  clear HOP
  have HX5 := Lib.hid (HM.out.ext)
  have TELL : ∀ (y : Int) (m : Nat), 0 ≤ y ∧ y < p → Calls Tryz.prog 287 #[.pointer (some ⟨b, 0, none⟩), .int .i64 (fadd p s.fp xc), .int .i64 y] (w5.drewN m) (MGot w0 w b mb (.pointer (some ⟨bf, 0, none⟩)) p g fs sz lv cd (s2.tell (fadd p s.fp xc) y) (fun _ => .tuple #[]) (n + 1) sv dn) := fun y m hy =>
    (mtell_any (HM.out.to (Ext.drewN w5 m)) (fadd_bd HFL.out.two _ _) hy H2'.out HN.out).mono fun e w' h => h.turn (HTU.out.trans (Turned.of_ext (Ext.drewN _ _)))
  have HTELL := Lib.hid TELL; clear TELL
  rcases hops with rfl | rfl | rfl | rfl | rfl
  · have HE : Hid (Ms.comp p s ⟨1, xa, xb, xc⟩ = s2.tell (fadd p s.fp xc) (fadd p u v)) := Lib.hid (HEQ.out.trans (by rw [if_neg (by omega)]; simp [reck]))
    have HBD := Lib.hid (fadd_bd HFL.out.two u v)
    clear HEQ
    go_wp2_with (first | (go_at_call 122; ((with_reducible refine (add_any (HFL.out.ext HX5.out) _ _).mono ?_); rintro e w6 ⟨rfl, m3, rfl⟩)) | (go_at_call 253; ((with_reducible refine (mown_at (HM.out.to (Ext.drewN w5 _)) xc HFP.out).mono ?_); rintro e w7 ⟨rfl, m4, rfl⟩)))
    refine (HTELL.out (fadd p u v) _ HBD.out).mono ?_
    intro e w8 h8
    rcases mgot_tell h8 with ⟨hr, rfl, hx⟩ | ⟨hr, rfl, hm8, ht8⟩
    · go_wp2_with fail
      exact ⟨rfl, mgot_no (HE.out.trans (tell_no_eq hr)) ⟨rfl, hx⟩⟩
    · go_wp2_with fail
      go_end0
      exact mgot_go (HE.out.trans (tell_yes_eq hr)) ⟨rfl, hm8, ht8⟩
  · have HE : Hid (Ms.comp p s ⟨2, xa, xb, xc⟩ = s2.tell (fadd p s.fp xc) (fsub p u v)) := Lib.hid (HEQ.out.trans (by rw [if_neg (by omega)]; simp [reck]))
    have HBD := Lib.hid (fsub_bd HFL.out.two u v)
    clear HEQ
    go_wp2_with (first | (go_at_call 179; ((with_reducible refine (sub_any (HFL.out.ext HX5.out) _ _).mono ?_); rintro e w6 ⟨rfl, m3, rfl⟩)) | (go_at_call 253; ((with_reducible refine (mown_at (HM.out.to (Ext.drewN w5 _)) xc HFP.out).mono ?_); rintro e w7 ⟨rfl, m4, rfl⟩)))
    refine (HTELL.out (fsub p u v) _ HBD.out).mono ?_
    intro e w8 h8
    rcases mgot_tell h8 with ⟨hr, rfl, hx⟩ | ⟨hr, rfl, hm8, ht8⟩
    · go_wp2_with fail
      exact ⟨rfl, mgot_no (HE.out.trans (tell_no_eq hr)) ⟨rfl, hx⟩⟩
    · go_wp2_with fail
      go_end0
      exact mgot_go (HE.out.trans (tell_yes_eq hr)) ⟨rfl, hm8, ht8⟩
  · have HE : Hid (Ms.comp p s ⟨3, xa, xb, xc⟩ = s2.tell (fadd p s.fp xc) (fmul p u v)) := Lib.hid (HEQ.out.trans (by rw [if_neg (by omega)]; simp [reck]))
    have HBD := Lib.hid (fmul_bd HFL.out.two u v)
    clear HEQ
    go_wp2_with (first | (go_at_call 123; ((with_reducible refine (mul_any (HFL.out.ext HX5.out) _ _).mono ?_); rintro e w6 ⟨rfl, m3, rfl⟩)) | (go_at_call 253; ((with_reducible refine (mown_at (HM.out.to (Ext.drewN w5 _)) xc HFP.out).mono ?_); rintro e w7 ⟨rfl, m4, rfl⟩)))
    refine (HTELL.out (fmul p u v) _ HBD.out).mono ?_
    intro e w8 h8
    rcases mgot_tell h8 with ⟨hr, rfl, hx⟩ | ⟨hr, rfl, hm8, ht8⟩
    · go_wp2_with fail
      exact ⟨rfl, mgot_no (HE.out.trans (tell_no_eq hr)) ⟨rfl, hx⟩⟩
    · go_wp2_with fail
      go_end0
      exact mgot_go (HE.out.trans (tell_yes_eq hr)) ⟨rfl, hm8, ht8⟩
  · by_cases hz : v = 0
    · subst hz
      have HE : Hid (Ms.comp p s ⟨4, xa, xb, xc⟩ = .no 7) := Lib.hid (HEQ.out.trans (by rw [if_pos (by simp)]))
      clear HEQ
      go_wp2_with (go_at_call 251; refine (must_no HX5.out).mono ?_; rintro e w6 ⟨rfl, hx⟩)
      exact ⟨rfl, mgot_no HE.out ⟨rfl, hx⟩⟩
    · have HE : Hid (Ms.comp p s ⟨4, xa, xb, xc⟩ = s2.tell (fadd p s.fp xc) (fdiv p u v)) := Lib.hid (HEQ.out.trans (by rw [if_neg (fun h => hz h.2)]; simp [reck]))
      have HBD := Lib.hid (fdiv_bd HFL.out.two u v)
      have hvb : (v != 0) = true := by simpa using hz
      clear HEQ hz
      go_wp2_with (first | (go_at_call 251; refine (must_yes _).mono ?_; rintro e w6 ⟨rfl, rfl⟩) | (go_at_call 214; ((with_reducible refine (div_any (HFL.out.ext HX5.out) _ _).mono ?_); rintro e w6 ⟨rfl, m3, rfl⟩)) | (go_at_call 253; ((with_reducible refine (mown_at (HM.out.to (Ext.drewN w5 _)) xc HFP.out).mono ?_); rintro e w7 ⟨rfl, m4, rfl⟩)))
      refine (HTELL.out (fdiv p u v) _ HBD.out).mono ?_
      intro e w8 h8
      rcases mgot_tell h8 with ⟨hr, rfl, hx⟩ | ⟨hr, rfl, hm8, ht8⟩
      · go_wp2_with fail
        exact ⟨rfl, mgot_no (HE.out.trans (tell_no_eq hr)) ⟨rfl, hx⟩⟩
      · go_wp2_with fail
        go_end0
        exact mgot_go (HE.out.trans (tell_yes_eq hr)) ⟨rfl, hm8, ht8⟩
  · by_cases hz : u = v
    · subst hz
      have HE : Hid (Ms.comp p s ⟨6, xa, xb, xc⟩ = s2.tell (fadd p s.fp xc) 1) := Lib.hid (HEQ.out.trans (by rw [if_neg (by omega)]; simp [reck]))
      have HBD : Hid ((0 : Int) ≤ 1 ∧ (1 : Int) < p) := Lib.hid ⟨by omega, by have := HFL.out.lo; omega⟩
      clear HEQ
      go_wp2_with (first | (go_at_call 253; ((with_reducible refine (mown_at HM.out xc HFP.out).mono ?_); rintro e w7 ⟨rfl, m4, rfl⟩)))
      refine (HTELL.out (1) _ HBD.out).mono ?_
      intro e w8 h8
      rcases mgot_tell h8 with ⟨hr, rfl, hx⟩ | ⟨hr, rfl, hm8, ht8⟩
      · go_wp2_with fail
        exact ⟨rfl, mgot_no (HE.out.trans (tell_no_eq hr)) ⟨rfl, hx⟩⟩
      · go_wp2_with fail
        go_end0
        exact mgot_go (HE.out.trans (tell_yes_eq hr)) ⟨rfl, hm8, ht8⟩
    · have HE : Hid (Ms.comp p s ⟨6, xa, xb, xc⟩ = s2.tell (fadd p s.fp xc) 0) := Lib.hid (HEQ.out.trans (by rw [if_neg (by omega)]; simp [reck, hz]))
      have HBD : Hid ((0 : Int) ≤ 0 ∧ (0 : Int) < p) := Lib.hid ⟨by omega, by have := HFL.out.lo; omega⟩
      have huv : (u == v) = false := by simpa using hz
      clear HEQ hz
      go_wp2_with (first | (go_at_call 253; ((with_reducible refine (mown_at HM.out xc HFP.out).mono ?_); rintro e w7 ⟨rfl, m4, rfl⟩)))
      refine (HTELL.out (0) _ HBD.out).mono ?_
      intro e w8 h8
      rcases mgot_tell h8 with ⟨hr, rfl, hx⟩ | ⟨hr, rfl, hm8, ht8⟩
      · go_wp2_with fail
        exact ⟨rfl, mgot_no (HE.out.trans (tell_no_eq hr)) ⟨rfl, hx⟩⟩
      · go_wp2_with fail
        go_end0
        exact mgot_go (HE.out.trans (tell_yes_eq hr)) ⟨rfl, hm8, ht8⟩
end
end Go.Proofs.YtnmjaddhbecopaaGreatDoor
