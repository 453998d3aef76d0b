/- The program's machine: look, tell. The program's machine: compute. -/
import Derived.Test.YtgnomhbbbcfehaaGreatDoorZx17
import Derived.Test.YtgnomhbbbcfehaaGreatDoorHa
section
namespace Go.Att
open Go.RowKit Go.Maps
def Ms.told (s : Ms) (i x : Int) : Ms := { s with mem := (match lk s.mem i with | some _ => s.mem | none => s.mem ++ [(i, x)]), acc := s.acc ++ [(i, x)] }
theorem look_yes_eq {s : Ms} {i v : Int} (hl : lk s.mem i = some v) : s.look i = .go v (s.noted i v) := by unfold Ms.look; rw [hl]; rfl
theorem look_no_eq {s : Ms} {i : Int} (hl : lk s.mem i = none) : s.look i = .no 10 := by unfold Ms.look; rw [hl]
def Ms.may (s : Ms) (i x : Int) : Prop := lk s.mem i = none ∨ lk s.mem i = some x
theorem tell_yes_eq {s : Ms} {i x : Int} (h : s.may i x) : s.tell i x = .go 0 (s.told i x) := by
  unfold Ms.tell Ms.told
  rcases h with h | h <;> rw [h] <;> simp
theorem tell_no_eq {s : Ms} {i x : Int} (h : ¬ s.may i x) : s.tell i x = .no 7 := by
  unfold Ms.tell
  unfold Ms.may at h
  cases hl : lk s.mem i with
  | none => exact absurd (.inl hl) h
  | some v =>
    dsimp only
    rw [if_neg (fun e => h (.inr (by rw [hl, e])))]
theorem told_mem {s : Ms} {i x : Int} (h : s.may i x) : (lk s.mem i = none ∧ (s.told i x).mem = s.mem ++ [(i, x)]) ∨ (lk s.mem i = some x ∧ (s.told i x).mem = s.mem) := by
  unfold Ms.told
  rcases h with h | h
  · exact .inl ⟨h, by rw [h]⟩
  · exact .inr ⟨h, by rw [h]⟩
theorem told_lk {s : Ms} {i x : Int} (h : s.may i x) : lk (s.told i x).mem i = some x := by
  rcases told_mem h with ⟨h1, h2⟩ | ⟨h1, h2⟩ <;> rw [h2]
  · exact lk_new h1
  · exact h1
theorem may_no {s : Ms} {i x : Int} (h : ¬ s.may i x) : ∃ v, lk s.mem i = some v ∧ v ≠ x := by
  unfold Ms.may at h
  cases hl : lk s.mem i with
  | none => exact absurd (.inl hl) h
  | some v => exact ⟨v, rfl, fun e => h (.inr (by rw [hl, e]))⟩
def Ms.half (s : Ms) (i x : Int) : Ms := { s with mem := (s.told i x).mem }
theorem half_ok {p : Int} {s : Ms} {i x : Int} (h : Okm p s) (hm : s.may i x) (hi : 0 ≤ i ∧ i < p) (hx : 0 ≤ x ∧ x < p) : Okm p (s.half i x) := by
  have h2 := told_mem hm
  refine ⟨h.pc, h.fp, h.ap, h.rv, fun c hc => ?_, fun c hc => ?_⟩
  · change c ∈ (s.told i x).mem at hc
    rcases h2 with ⟨_, e⟩ | ⟨_, e⟩
    · rw [e] at hc
      simp only [List.mem_append, List.mem_singleton] at hc
      rcases hc with hc | rfl
      · exact h.mem c hc
      · exact ⟨hi, hx⟩
    · rw [e] at hc; exact h.mem c hc
  · change lk (s.told i x).mem c.1 = some c.2
    rcases h2 with ⟨_, e⟩ | ⟨_, e⟩ <;> rw [e]
    · exact lk_keep (h.acc c hc)
    · exact h.acc c hc
def OrStop (R : List PanicEntry → World → Prop) (Q : Exit → Act → World → Prop) : Exit → Act → World → Prop
  | .panic c, a, w => a.defers = [] ∧ R c w
  | e, a, w => Q e a w
theorem wp_region_stop {P : Program} {id : Nat} {ops : Array Oper} {b : Bool} {Q : Exit → Act → World → Prop} {a : Act} {w : World} (R : List PanicEntry → World → Prop) (hq : ∀ c a w, a.defers = [] → R c w → Q (.panic c) a w) (h : (Code.region id ops b).wp P (OrStop R Q) a w) : (Code.region id ops b).wp P Q a w :=
  Code.wp_mono (fun e a w h => by cases e <;> first | exact h | exact hq _ _ _ h.1 h.2) h
theorem OrStop.normal {R : List PanicEntry → World → Prop} {Q : Exit → Act → World → Prop} {a : Act} {w : World} (h : Q .normal a w) : OrStop R Q .normal a w := h
theorem OrStop.panic {R : List PanicEntry → World → Prop} {Q : Exit → Act → World → Prop} {c : List PanicEntry} {a : Act} {w : World} (h : a.defers = []) (h2 : R c w) : OrStop R Q (.panic c) a w := ⟨h, h2⟩
end Go.Att
namespace Go.Proofs.YtgnomhbbbcfehaaGreatDoor
open Go.RowKit Go.Att Go.Maps
section
variable {w0 w w' : World} {b mb : Nat} {f : Value} {p g : Int} {fs : List Int} {sz : Int} {lv : Value} {cd : List In4} {s s' : Ms} {n : Int} {sv : Value} {dn : Int}
def MGo (w0 w : World) (b mb : Nat) (f : Value) (p g : Int) (fs : List Int) (sz : Int) (lv : Value) (cd : List In4) (s' : Ms) (n : Int) (sv : Value) (dn : Int) (v : Value) (e : Ending) (w' : World) : Prop :=
  e = .returned v ∧ MAt w0 w' b mb f p g fs sz lv cd s' n sv dn ∧ Turned b mb w w'
def MGot (w0 w : World) (b mb : Nat) (f : Value) (p g : Int) (fs : List Int) (sz : Int) (lv : Value) (cd : List In4) (r : Rs) (mk : Int → Value) (n : Int) (sv : Value) (dn : Int) (e : Ending) (w' : World) : Prop :=
  match r with
  | .go v s' => MGo w0 w b mb f p g fs sz lv cd s' n sv dn (mk v) e w'
  | .no k => Stops 192 w0 k e w'
set_option maxHeartbeats 2000000 in
theorem mlook_yes (h : MAt w0 w b mb f p g fs sz lv cd s n sv dn) {i v : Int} (h0 : 0 ≤ i) (h1 : i ≤ 2147483647) (hl : lk s.mem i = some v) (h2 : s.acc.length ≤ 2) : Calls Tryz.prog 147 #[.pointer (some ⟨b, 0, none⟩), .int .i64 i] w (MGo w0 w b mb f p g fs sz lv cd (s.noted i v) n sv dn (.int .i64 v)) := by
  have c3 : w.cell? ⟨b, 3, none⟩ = some (.map (some mb)) := h.blk.cell 3
  have hlk := h.told.look_yes Tryz.underlying3 Tryz.underlying163 zeroI h0 h1 hl
  have H := Lib.hid h; have HL := Lib.hid hl; have H2 := Lib.hid h2
  clear h hl h2
  go_enter Tryz.func147, Tryz.ntmps147
  go_wp2_with (go_at_call 172; refine (mnote_any H.out h0 h1 HL.out H2.out).mono ?_; rintro e w' ⟨rfl, hm, ht⟩)
  go_ret
  exact ⟨rfl, hm, ht⟩
set_option maxHeartbeats 2000000 in
theorem mlook_no (h : MAt w0 w b mb f p g fs sz lv cd s n sv dn) {i : Int} (h0 : 0 ≤ i) (h1 : i ≤ 2147483647) (hl : lk s.mem i = none) : Calls Tryz.prog 147 #[.pointer (some ⟨b, 0, none⟩), .int .i64 i] w (Stops 192 w0 10) := by
  have c3 : w.cell? ⟨b, 3, none⟩ = some (.map (some mb)) := h.blk.cell 3
  obtain ⟨u, hlk⟩ := h.told.look_no Tryz.underlying3 Tryz.underlying163 zeroI h0 h1 hl
  have HX := Lib.hid h.ext
  clear h hl
  go_enter Tryz.func147, Tryz.ntmps147
  go_wp2_with fail
  exact ⟨rfl, rfl, HX.out⟩
set_option maxHeartbeats 2000000 in
theorem mtell_no (h : MAt w0 w b mb f p g fs sz lv cd s n sv dn) {i x : Int} (h0 : 0 ≤ i) (h1 : i ≤ 2147483647) (hl : ¬ s.may i x) : Calls Tryz.prog 174 #[.pointer (some ⟨b, 0, none⟩), .int .i64 i, .int .i64 x] w (Stops 192 w0 7) := by
  obtain ⟨v, hv, hne⟩ := may_no hl
  have c3 : w.cell? ⟨b, 3, none⟩ = some (.map (some mb)) := h.blk.cell 3
  have hlk := h.told.look_yes Tryz.underlying3 Tryz.underlying163 zeroI h0 h1 hv
  have HX := Lib.hid h.ext
  have hb : (v != x) = true := by simpa using hne
  clear h hl hv hne
  go_enter Tryz.func174, Tryz.ntmps174
  go_wp2_with fail
  exact ⟨rfl, rfl, HX.out⟩
set_option maxHeartbeats 4000000 in
theorem mtell_yes (h : MAt w0 w b mb f p g fs sz lv cd s n sv dn) {i x : Int} (h0 : 0 ≤ i ∧ i < p) (hx : 0 ≤ x ∧ x < p) (hl : s.may i x) (h2 : s.acc.length ≤ 2) (hn : n < 9223372036854775807) : Calls Tryz.prog 174 #[.pointer (some ⟨b, 0, none⟩), .int .i64 i, .int .i64 x] w (MGo w0 w b mb f p g fs sz lv cd (s.told i x) (n + 1) sv dn (.tuple #[])) := by
  have hp := h.fld.hi
  have c3 : w.cell? ⟨b, 3, none⟩ = some (.map (some mb)) := h.blk.cell 3
  obtain ⟨w1, hst, ht1, hg1⟩ := h.told.store Tryz.underlying3 Tryz.underlying163 hn h0.1 (by omega) hx.1 (by omega) (told_mem hl)
  have hm1 : MAt w0 w1 b mb f p g fs sz lv cd (s.half i x) (n + 1) sv dn := ⟨h.blk.grown hg1 (fun e => h.ne (Option.some.inj e)), ht1, Turned.ext (b := b) (Turned.two hg1) h.ext h.nb h.nm, h.fld, h.code, h.nb, h.nm, h.ne, half_ok h.ok hl h0 hx, h.dnb⟩
  have hi1 : i ≤ 2147483647 := by omega
  have h0i := h0.1
  have HT := Lib.hid (Turned.two (b := b) hg1)
  have H := Lib.hid hm1; have H2 := Lib.hid h2; have HK := Lib.hid (told_lk hl)
  rcases hl with hl | hl
  · obtain ⟨u, hlk⟩ := h.told.look_no Tryz.underlying3 Tryz.underlying163 zeroI h0.1 hi1 hl
    clear h hl h2 hm1 ht1 hg1 hn hp h0 hx
    go_enter Tryz.func174, Tryz.ntmps174
    go_wp2_with (go_at_call 172; refine (mnote_any H.out h0i hi1 HK.out H2.out).mono ?_; rintro e w' ⟨rfl, hm, ht⟩)
    go_end0
    exact ⟨rfl, hm, HT.out.trans ht⟩
  · have hlk := h.told.look_yes Tryz.underlying3 Tryz.underlying163 zeroI h0.1 hi1 hl
    have hb : (x != x) = false := by simp
    clear h hl h2 hm1 ht1 hg1 hn hp h0 hx
    go_enter Tryz.func174, Tryz.ntmps174
    go_wp2_with (go_at_call 172; refine (mnote_any H.out h0i hi1 HK.out H2.out).mono ?_; rintro e w' ⟨rfl, hm, ht⟩)
    go_end0
    exact ⟨rfl, hm, HT.out.trans ht⟩
theorem mlook_any (h : MAt w0 w b mb f p g fs sz lv cd s n sv dn) {i : Int} (h0 : 0 ≤ i) (h1 : i ≤ 2147483647) (h2 : s.acc.length ≤ 2) : Calls Tryz.prog 147 #[.pointer (some ⟨b, 0, none⟩), .int .i64 i] w (MGot w0 w b mb f p g fs sz lv cd (s.look i) (fun v => .int .i64 v) n sv dn) := by
  cases hl : lk s.mem i with
  | none => rw [look_no_eq hl]; exact mlook_no h h0 h1 hl
  | some v => rw [look_yes_eq hl]; exact mlook_yes h h0 h1 hl h2
theorem mtell_any (h : MAt w0 w b mb f p g fs sz lv cd s n sv dn) {i x : Int} (h0 : 0 ≤ i ∧ i < p) (hx : 0 ≤ x ∧ x < p) (h2 : s.acc.length ≤ 2) (hn : n < 9223372036854775807) : Calls Tryz.prog 174 #[.pointer (some ⟨b, 0, none⟩), .int .i64 i, .int .i64 x] w (MGot w0 w b mb f p g fs sz lv cd (s.tell i x) (fun _ => .tuple #[]) (n + 1) sv dn) := by
  by_cases hl : s.may i x
  · rw [tell_yes_eq hl]; exact mtell_yes h h0 hx hl h2 hn
  · have := h.fld.hi
    rw [tell_no_eq hl]; exact mtell_no h h0.1 (by omega) hl
theorem mown_at (h : MAt w0 w b mb f p g fs sz lv cd s n sv dn) (x : Int) {q : Int} (hq : s.fp = q) : Calls Tryz.prog 148 #[.pointer (some ⟨b, 0, none⟩), .int .i64 x] w fun e w' => e = .returned (.int .i64 (fadd p q x)) ∧ ∃ m, w' = w.drewN m := by subst hq; exact mown_any h x
theorem mgot_no {r : Rs} {mk : Int → Value} {k : Int} {e : Ending} (hr : r = .no k) (h : Stops 192 w0 k e w') : MGot w0 w b mb f p g fs sz lv cd r mk n sv dn e w' := by subst hr; exact h
theorem mgot_go {r : Rs} {mk : Int → Value} {v : Int} {e : Ending} (hr : r = .go v s') (h : MGo w0 w b mb f p g fs sz lv cd s' n sv dn (mk v) e w') : MGot w0 w b mb f p g fs sz lv cd r mk n sv dn e w' := by subst hr; exact h
theorem mgot_look {i : Int} {mk : Int → Value} {e : Ending} (h : MGot w0 w b mb f p g fs sz lv cd (s.look i) mk n sv dn e w') : (lk s.mem i = none ∧ Stops 192 w0 10 e w') ∨ ∃ u, lk s.mem i = some u ∧ MGo w0 w b mb f p g fs sz lv cd (s.noted i u) n sv dn (mk u) e w' := by
  cases hl : lk s.mem i with
  | none => rw [look_no_eq hl] at h; exact .inl ⟨rfl, h⟩
  | some u => rw [look_yes_eq hl] at h; exact .inr ⟨u, rfl, h⟩
theorem mgot_tell {i x : Int} {mk : Int → Value} {e : Ending} (h : MGot w0 w b mb f p g fs sz lv cd (s.tell i x) mk n sv dn e w') : (¬ s.may i x ∧ Stops 192 w0 7 e w') ∨ (s.may i x ∧ MGo w0 w b mb f p g fs sz lv cd (s.told i x) n sv dn (mk 0) e w') := by
  by_cases hl : s.may i x
  · rw [tell_yes_eq hl] at h; exact .inr ⟨hl, h⟩
  · rw [tell_no_eq hl] at h; exact .inl ⟨hl, h⟩
theorem MGo.turn {w1 : World} {v : Value} {e : Ending} (h : MGo w0 w1 b mb f p g fs sz lv cd s n sv dn v e w') (ht : Turned b mb w w1) : MGo w0 w b mb f p g fs sz lv cd s n sv dn v e w' := ⟨h.1, h.2.1, ht.trans h.2.2⟩
theorem MGot.turn {w1 : World} {r : Rs} {mk : Int → Value} {e : Ending} (h : MGot w0 w1 b mb f p g fs sz lv cd r mk n sv dn e w') (ht : Turned b mb w w1) : MGot w0 w b mb f p g fs sz lv cd r mk n sv dn e w' := by
  cases r with
  | go v s => exact MGo.turn h ht
  | no k => exact h
end
end Go.Proofs.YtgnomhbbbcfehaaGreatDoor
end
section
namespace Go.Att
open Go.RowKit
def insV (x : In4) : Value := .agg #[.int .i64 x.op, .int .i64 x.a, .int .i64 x.b, .int .i64 x.c]
def insCs (x : In4) : List Value := [.int .i64 x.op, .int .i64 x.a, .int .i64 x.b, .int .i64 x.c]
theorem comp_no1 {p : Int} {s : Ms} {x : In4} {k : Int} (h : s.look (fadd p s.fp x.a) = .no k) : s.comp p x = .no k := by unfold Ms.comp; rw [h]; rfl
theorem comp_no2 {p : Int} {s : Ms} {x : In4} {k u : Int} (h : lk s.mem (fadd p s.fp x.a) = some u) (h2 : (s.noted (fadd p s.fp x.a) u).look (fadd p s.fp x.b) = .no k) : s.comp p x = .no k := by
  unfold Ms.comp; rw [look_yes_eq h]; show Rs.bind (Ms.look (s.noted _ _) (fadd p s.fp x.b)) _ = _; rw [h2]; rfl
theorem comp_yes {p : Int} {s : Ms} {x : In4} {u v : Int} (h : lk s.mem (fadd p s.fp x.a) = some u) (h2 : lk s.mem (fadd p s.fp x.b) = some v) : s.comp p x = if x.op = 4 ∧ v = 0 then .no 7 else ((s.noted (fadd p s.fp x.a) u).noted (fadd p s.fp x.b) v).tell (fadd p s.fp x.c) (reck p x.op u v) := by
  unfold Ms.comp; rw [look_yes_eq h]; show Rs.bind (Ms.look (s.noted _ _) (fadd p s.fp x.b)) _ = _; rw [look_yes_eq (s := s.noted (fadd p s.fp x.a) u) h2]; rfl
end Go.Att
namespace Go.Proofs.YtgnomhbbbcfehaaGreatDoor
open Go.RowKit Go.Att Go.Maps
attribute [local go_sem ↓] Go.wp_at_zero Go.wp_at_succ
theorem div_any {w : World} {f : Value} {p g : Int} {fs : List Int} (hf : Fld w f p g fs) (a b : Int) : Calls Tryz.prog 139 #[f, .int .i64 a, .int .i64 b] w (Rd w (.int .i64 (fdiv p a b))) := by
  have C := Lib.hid hf; clear hf
  go_enter Tryz.func139, Tryz.ntmps139
  go_wp2_with (first | (go_at_call 166; refine (inv_any C.out _).mono ?_; rintro e w' ⟨rfl, n, rfl⟩) | (go_at_call 138; refine (mul_any (C.out.drewN _) _ _).mono ?_; rintro e w' ⟨rfl, n2, rfl⟩))
  go_ret; exact .more _ rfl
section
variable {w0 w w' : World} {b mb : Nat} {f : Value} {p g : Int} {fs : List Int} {sz : Int} {lv : Value} {cd : List In4} {s s' : Ms} {n : Int} {sv : Value} {dn : Int}
set_option maxRecDepth 100000 in
set_option maxHeartbeats 4000000 in
theorem mcomp_any (h : MAt w0 w b mb f p g fs sz lv cd s n sv dn) (x : In4) (hop : isCmp x.op = true) (h2 : s.acc.length = 0) (hn : n < 9223372036854775807) : Calls Tryz.prog 173 #[.pointer (some ⟨b, 0, none⟩), insV x] w (MGot w0 w b mb f p g fs sz lv cd (s.comp p x) (fun _ => .tuple #[]) (n + 1) sv dn) := by
  have hx1 := Ext.alloc w (.cells (insCs x).toArray 111)
  have hb1 := BlkOf.new w (insCs x) 111
  have h1 := h.to hx1
  have hz1 : w.heap.size ≠ b := by have := h.blk.lt; omega
  have hz2 : w.heap.size ≠ mb := by have := h.told.lt; omega
  obtain ⟨bf, rfl⟩ := h.fld.ptr
  have hp := h.fld.hi
  have hfa := fadd_bd h.fld.two s.fp x.a
  have hfb := fadd_bd h.fld.two s.fp x.b
  have ht1 : Turned b mb w (w.alloc (.cells (insCs x).toArray 111)) := Turned.of_ext hx1
  have HOP := Lib.hid hop; have H2 := Lib.hid h2; have HN := Lib.hid hn; have HT1 := Lib.hid ht1; have HB := Lib.hid hb1; have H1 := Lib.hid h1; have HZ1 := Lib.hid hz1; have HZ2 := Lib.hid hz2
  have HFL := Lib.hid h.fld; have HFA := Lib.hid hfa; have HFB := Lib.hid hfb
  clear hop h2 hn ht1 hb1 h1 hz1 hz2 h hx1 hfa hfb
  unfold insV
  go_enter Tryz.func173, Tryz.ntmps173
  go_wp2_with fail
  change Hid (BlkOf (w.alloc (.cells #[.int .i64 x.op, .int .i64 x.a, .int .i64 x.b, .int .i64 x.c] 111)) _ _ _) at HB
  change Hid (MAt _ (w.alloc (.cells #[.int .i64 x.op, .int .i64 x.a, .int .i64 x.b, .int .i64 x.c] 111)) _ _ _ _ _ _ _ _ _ _ _ _ _) at H1
  change Hid (Turned _ _ _ (w.alloc (.cells #[.int .i64 x.op, .int .i64 x.a, .int .i64 x.b, .int .i64 x.c] 111))) at HT1
  generalize w.alloc (.cells #[.int .i64 x.op, .int .i64 x.a, .int .i64 x.b, .int .i64 x.c] 111) = w1 at *
  generalize hzb : w.heap.size = zb at *
  clear hzb
  have b1 : w1.cell? ⟨zb, 1, none⟩ = some (.int .i64 x.a) := HB.out.cell 1
  have b2 : w1.cell? ⟨zb, 2, none⟩ = some (.int .i64 x.b) := HB.out.cell 2
  refine wp_region_stop (fun c w'' => MGot w0 w b mb (.pointer (some ⟨bf, 0, none⟩)) p g fs sz lv cd (s.comp p x) (fun _ => .tuple #[]) (n + 1) sv dn (.panicked c) w'') ?_ ?_
  · intro c a w'' hd hR
    go_wp2_with fail
    exact ⟨hd, hR⟩
  go_region_held (fun w' => w'.cell? ⟨zb, 1, none⟩ = some (.int .i64 x.a) ∧ w'.cell? ⟨zb, 2, none⟩ = some (.int .i64 x.b)) (first | exact ⟨HT4.cell b1 HZ1.out HZ2.out, HT4.cell b2 HZ1.out HZ2.out⟩ | exact ⟨HT3.cell b1 HZ1.out HZ2.out, HT3.cell b2 HZ1.out HZ2.out⟩ | exact ⟨HT2.cell b1 HZ1.out HZ2.out, HT2.cell b2 HZ1.out HZ2.out⟩ | exact ⟨HTa.cell b1 HZ1.out HZ2.out, HTa.cell b2 HZ1.out HZ2.out⟩ | exact ⟨b1, b2⟩) (first | (go_at_call 147; ((with_reducible refine (mlook_any (hm3.to (Ext.drewN _ _)) HFB.out.1 (by have := HFB.out.2; omega) (by simp [Ms.noted, H2.out])).mono ?_)); intro e w5 h5; rcases mgot_look h5 with ⟨hr5, rfl, hx⟩ | ⟨v, hv, rfl, hm5, ht5⟩; (exact OrStop.panic rfl (mgot_no (comp_no2 hu (look_no_eq hr5)) ⟨rfl, hx⟩)); clear h5; have HT4 := HT3.trans ht5) | (go_at_call 148; ((with_reducible refine (mown_at (q := s.fp) hm3 x.b rfl).mono ?_); rintro e w4 ⟨rfl, m2, rfl⟩); have HT3 := HT2.trans (Turned.of_ext (Ext.drewN _ m2))) | (go_at_call 147; ((with_reducible refine (mlook_any (H1.out.to (Ext.drewN w1 _)) HFA.out.1 (by have := HFA.out.2; omega) (by rw [H2.out]; omega)).mono ?_)); intro e w3 h3; rcases mgot_look h3 with ⟨hr, rfl, hx⟩ | ⟨u, hu, rfl, hm3, ht3⟩; (exact OrStop.panic rfl (mgot_no (comp_no1 (look_no_eq hr)) ⟨rfl, hx⟩)); clear h3; have HT2 := HTa.trans ht3) | (go_at_call 148; ((with_reducible refine (mown_any (H1.out.to (Ext.drew w1)) x.a).mono ?_); rintro e w2 ⟨rfl, m1, rfl⟩); have HTa := Turned.of_ext (b := b) (c := mb) (Ext.drewN w1 (1 + m1))))
  refine OrStop.normal ?_
  have HM := Lib.hid hm5; have HTU := Lib.hid (HT1.out.trans HT4)
  have HEQ := Lib.hid (comp_yes (p := p) (x := x) hu hv)
  have b0 : w5.cell? ⟨zb, 0, none⟩ = some (.int .i64 x.op) := HT4.cell (HB.out.cell 0) HZ1.out HZ2.out
  have b3 : w5.cell? ⟨zb, 3, none⟩ = some (.int .i64 x.c) := HT4.cell (HB.out.cell 3) HZ1.out HZ2.out
  have c0 : w5.cell? ⟨b, 0, none⟩ = some (.pointer (some ⟨bf, 0, none⟩)) := hm5.blk.cell 0
  have H2' : Hid (((s.noted (fadd p s.fp x.a) u).noted (fadd p s.fp x.b) v).acc.length ≤ 2) := Lib.hid (by simp [Ms.noted, H2.out])
  have HFP : Hid (((s.noted (fadd p s.fp x.a) u).noted (fadd p s.fp x.b) v).fp = s.fp) := Lib.hid rfl
  clear HT4 HT3 HT2 HTa ht5 ht3 hm3 hm5 b1 b2 hu hv H1 HT1 HB HFA HFB
  generalize (s.noted (fadd p s.fp x.a) u).noted (fadd p s.fp x.b) v = s2 at *
  obtain ⟨op, xa, xb, xc⟩ := x
  dsimp only at *
  have hops : op = 1 ∨ op = 2 ∨ op = 3 ∨ op = 4 ∨ op = 6 := by
    have := HOP.out
    simp [isCmp] at this; omega
  clear HOP
  have HX5 := Lib.hid (HM.out.ext)
  have TELL : ∀ (y : Int) (m : Nat), 0 ≤ y ∧ y < p → Calls Tryz.prog 174 #[.pointer (some ⟨b, 0, none⟩), .int .i64 (fadd p s.fp xc), .int .i64 y] (w5.drewN m) (MGot w0 w b mb (.pointer (some ⟨bf, 0, none⟩)) p g fs sz lv cd (s2.tell (fadd p s.fp xc) y) (fun _ => .tuple #[]) (n + 1) sv dn) := fun y m hy =>
    (mtell_any (HM.out.to (Ext.drewN w5 m)) (fadd_bd HFL.out.two _ _) hy H2'.out HN.out).mono fun e w' h => h.turn (HTU.out.trans (Turned.of_ext (Ext.drewN _ _)))
  have HTELL := Lib.hid TELL; clear TELL
  rcases hops with rfl | rfl | rfl | rfl | rfl
  · have HE : Hid (Ms.comp p s ⟨1, xa, xb, xc⟩ = s2.tell (fadd p s.fp xc) (fadd p u v)) := Lib.hid (HEQ.out.trans (by rw [if_neg (by omega)]; simp [reck]))
    have HBD := Lib.hid (fadd_bd HFL.out.two u v)
    clear HEQ
    go_wp2_with (first | (go_at_call 136; ((with_reducible refine (add_any (HFL.out.ext HX5.out) _ _).mono ?_); rintro e w6 ⟨rfl, m3, rfl⟩)) | (go_at_call 148; ((with_reducible refine (mown_at (HM.out.to (Ext.drewN w5 _)) xc HFP.out).mono ?_); rintro e w7 ⟨rfl, m4, rfl⟩)))
    refine (HTELL.out (fadd p u v) _ HBD.out).mono ?_
    intro e w8 h8
    rcases mgot_tell h8 with ⟨hr, rfl, hx⟩ | ⟨hr, rfl, hm8, ht8⟩
    · go_wp2_with fail
      exact ⟨rfl, mgot_no (HE.out.trans (tell_no_eq hr)) ⟨rfl, hx⟩⟩
    · go_wp2_with fail
      go_end0
      exact mgot_go (HE.out.trans (tell_yes_eq hr)) ⟨rfl, hm8, ht8⟩
  · have HE : Hid (Ms.comp p s ⟨2, xa, xb, xc⟩ = s2.tell (fadd p s.fp xc) (fsub p u v)) := Lib.hid (HEQ.out.trans (by rw [if_neg (by omega)]; simp [reck]))
    have HBD := Lib.hid (fsub_bd HFL.out.two u v)
    clear HEQ
    go_wp2_with (first | (go_at_call 137; ((with_reducible refine (sub_any (HFL.out.ext HX5.out) _ _).mono ?_); rintro e w6 ⟨rfl, m3, rfl⟩)) | (go_at_call 148; ((with_reducible refine (mown_at (HM.out.to (Ext.drewN w5 _)) xc HFP.out).mono ?_); rintro e w7 ⟨rfl, m4, rfl⟩)))
    refine (HTELL.out (fsub p u v) _ HBD.out).mono ?_
    intro e w8 h8
    rcases mgot_tell h8 with ⟨hr, rfl, hx⟩ | ⟨hr, rfl, hm8, ht8⟩
    · go_wp2_with fail
      exact ⟨rfl, mgot_no (HE.out.trans (tell_no_eq hr)) ⟨rfl, hx⟩⟩
    · go_wp2_with fail
      go_end0
      exact mgot_go (HE.out.trans (tell_yes_eq hr)) ⟨rfl, hm8, ht8⟩
  · have HE : Hid (Ms.comp p s ⟨3, xa, xb, xc⟩ = s2.tell (fadd p s.fp xc) (fmul p u v)) := Lib.hid (HEQ.out.trans (by rw [if_neg (by omega)]; simp [reck]))
    have HBD := Lib.hid (fmul_bd HFL.out.two u v)
    clear HEQ
    go_wp2_with (first | (go_at_call 138; ((with_reducible refine (mul_any (HFL.out.ext HX5.out) _ _).mono ?_); rintro e w6 ⟨rfl, m3, rfl⟩)) | (go_at_call 148; ((with_reducible refine (mown_at (HM.out.to (Ext.drewN w5 _)) xc HFP.out).mono ?_); rintro e w7 ⟨rfl, m4, rfl⟩)))
    refine (HTELL.out (fmul p u v) _ HBD.out).mono ?_
    intro e w8 h8
    rcases mgot_tell h8 with ⟨hr, rfl, hx⟩ | ⟨hr, rfl, hm8, ht8⟩
    · go_wp2_with fail
      exact ⟨rfl, mgot_no (HE.out.trans (tell_no_eq hr)) ⟨rfl, hx⟩⟩
    · go_wp2_with fail
      go_end0
      exact mgot_go (HE.out.trans (tell_yes_eq hr)) ⟨rfl, hm8, ht8⟩
  · by_cases hz : v = 0
    · subst hz
      have HE : Hid (Ms.comp p s ⟨4, xa, xb, xc⟩ = .no 7) := Lib.hid (HEQ.out.trans (by rw [if_pos (by simp)]))
      clear HEQ
      go_wp2_with (go_at_call 146; refine (must_no HX5.out).mono ?_; rintro e w6 ⟨rfl, hx⟩)
      exact ⟨rfl, mgot_no HE.out ⟨rfl, hx⟩⟩
    · have HE : Hid (Ms.comp p s ⟨4, xa, xb, xc⟩ = s2.tell (fadd p s.fp xc) (fdiv p u v)) := Lib.hid (HEQ.out.trans (by rw [if_neg (fun h => hz h.2)]; simp [reck]))
      have HBD := Lib.hid (fdiv_bd HFL.out.two u v)
      have hvb : (v != 0) = true := by simpa using hz
      clear HEQ hz
      go_wp2_with (first | (go_at_call 146; refine (must_yes _).mono ?_; rintro e w6 ⟨rfl, rfl⟩) | (go_at_call 139; ((with_reducible refine (div_any (HFL.out.ext HX5.out) _ _).mono ?_); rintro e w6 ⟨rfl, m3, rfl⟩)) | (go_at_call 148; ((with_reducible refine (mown_at (HM.out.to (Ext.drewN w5 _)) xc HFP.out).mono ?_); rintro e w7 ⟨rfl, m4, rfl⟩)))
      refine (HTELL.out (fdiv p u v) _ HBD.out).mono ?_
      intro e w8 h8
      rcases mgot_tell h8 with ⟨hr, rfl, hx⟩ | ⟨hr, rfl, hm8, ht8⟩
      · go_wp2_with fail
        exact ⟨rfl, mgot_no (HE.out.trans (tell_no_eq hr)) ⟨rfl, hx⟩⟩
      · go_wp2_with fail
        go_end0
        exact mgot_go (HE.out.trans (tell_yes_eq hr)) ⟨rfl, hm8, ht8⟩
  · by_cases hz : u = v
    · subst hz
      have HE : Hid (Ms.comp p s ⟨6, xa, xb, xc⟩ = s2.tell (fadd p s.fp xc) 1) := Lib.hid (HEQ.out.trans (by rw [if_neg (by omega)]; simp [reck]))
      have HBD : Hid ((0 : Int) ≤ 1 ∧ (1 : Int) < p) := Lib.hid ⟨by omega, by have := HFL.out.lo; omega⟩
      clear HEQ
      go_wp2_with (first | (go_at_call 148; ((with_reducible refine (mown_at HM.out xc HFP.out).mono ?_); rintro e w7 ⟨rfl, m4, rfl⟩)))
      refine (HTELL.out (1) _ HBD.out).mono ?_
      intro e w8 h8
      rcases mgot_tell h8 with ⟨hr, rfl, hx⟩ | ⟨hr, rfl, hm8, ht8⟩
      · go_wp2_with fail
        exact ⟨rfl, mgot_no (HE.out.trans (tell_no_eq hr)) ⟨rfl, hx⟩⟩
      · go_wp2_with fail
        go_end0
        exact mgot_go (HE.out.trans (tell_yes_eq hr)) ⟨rfl, hm8, ht8⟩
    · have HE : Hid (Ms.comp p s ⟨6, xa, xb, xc⟩ = s2.tell (fadd p s.fp xc) 0) := Lib.hid (HEQ.out.trans (by rw [if_neg (by omega)]; simp [reck, hz]))
      have HBD : Hid ((0 : Int) ≤ 0 ∧ (0 : Int) < p) := Lib.hid ⟨by omega, by have := HFL.out.lo; omega⟩
      have huv : (u == v) = false := by simpa using hz
      clear HEQ hz
      go_wp2_with (first | (go_at_call 148; ((with_reducible refine (mown_at HM.out xc HFP.out).mono ?_); rintro e w7 ⟨rfl, m4, rfl⟩)))
      refine (HTELL.out (0) _ HBD.out).mono ?_
      intro e w8 h8
      rcases mgot_tell h8 with ⟨hr, rfl, hx⟩ | ⟨hr, rfl, hm8, ht8⟩
      · go_wp2_with fail
        exact ⟨rfl, mgot_no (HE.out.trans (tell_no_eq hr)) ⟨rfl, hx⟩⟩
      · go_wp2_with fail
        go_end0
        exact mgot_go (HE.out.trans (tell_yes_eq hr)) ⟨rfl, hm8, ht8⟩
end
end Go.Proofs.YtgnomhbbbcfehaaGreatDoor
end
