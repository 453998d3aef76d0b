/- The program's machine: look, tell. -/
import Derived.Test.YtainhfnanamobaaGreatDoorM3
namespace Go.Att
open Go.RowKit Go.Maps
/-- A cell was told something. -/
def Ms.told (s : Ms) (i x : Int) : Ms := { s with mem := (match lk s.mem i with | some _ => s.mem | none => s.mem ++ [(i, x)]), acc := s.acc ++ [(i, x)] }
theorem look_yes_eq {s : Ms} {i v : Int} (hl : lk s.mem i = some v) : s.look i = .go v (s.noted i v) := by unfold Ms.look; rw [hl]; rfl
theorem look_no_eq {s : Ms} {i : Int} (hl : lk s.mem i = none) : s.look i = .no 10 := by unfold Ms.look; rw [hl]
/-- May a cell be told something? -/
def Ms.may (s : Ms) (i x : Int) : Prop := lk s.mem i = none ∨ lk s.mem i = some x
theorem tell_yes_eq {s : Ms} {i x : Int} (h : s.may i x) : s.tell i x = .go 0 (s.told i x) := by
  unfold Ms.tell Ms.told
  rcases h with h | h <;> rw [h] <;> simp
theorem tell_no_eq {s : Ms} {i x : Int} (h : ¬ s.may i x) : s.tell i x = .no 7 := by
  unfold Ms.tell
  unfold Ms.may at h
  cases hl : lk s.mem i with
  | none => exact absurd (.inl hl) h
  | some v =>
    dsimp only
    rw [if_neg (fun e => h (.inr (by rw [hl, e])))]
theorem told_mem {s : Ms} {i x : Int} (h : s.may i x) : (lk s.mem i = none ∧ (s.told i x).mem = s.mem ++ [(i, x)]) ∨ (lk s.mem i = some x ∧ (s.told i x).mem = s.mem) := by
  unfold Ms.told
  rcases h with h | h
  · exact .inl ⟨h, by rw [h]⟩
  · exact .inr ⟨h, by rw [h]⟩
theorem told_lk {s : Ms} {i x : Int} (h : s.may i x) : lk (s.told i x).mem i = some x := by
  rcases told_mem h with ⟨h1, h2⟩ | ⟨h1, h2⟩ <;> rw [h2]
  · exact lk_new h1
  · exact h1
theorem may_no {s : Ms} {i x : Int} (h : ¬ s.may i x) : ∃ v, lk s.mem i = some v ∧ v ≠ x := by
  unfold Ms.may at h
  cases hl : lk s.mem i with
  | none => exact absurd (.inl hl) h
  | some v => exact ⟨v, rfl, fun e => h (.inr (by rw [hl, e]))⟩
/-- Its memory alone, turned by what it is told. -/
def Ms.half (s : Ms) (i x : Int) : Ms := { s with mem := (s.told i x).mem }
theorem half_noted (s : Ms) (i x : Int) : (s.half i x).noted i x = s.told i x := rfl
theorem half_ok {p : Int} {s : Ms} {i x : Int} (h : Okm p s) (hm : s.may i x) (hi : 0 ≤ i ∧ i < p) (hx : 0 ≤ x ∧ x < p) : Okm p (s.half i x) := by
  have h2 := told_mem hm
  refine ⟨h.pc, h.fp, h.ap, h.rv, fun c hc => ?_, fun c hc => ?_⟩
  · change c ∈ (s.told i x).mem at hc
    rcases h2 with ⟨_, e⟩ | ⟨_, e⟩
    · rw [e] at hc
      simp only [List.mem_append, List.mem_singleton] at hc
      rcases hc with hc | rfl
      · exact h.mem c hc
      · exact ⟨hi, hx⟩
    · rw [e] at hc; exact h.mem c hc
  · change lk (s.told i x).mem c.1 = some c.2
    rcases h2 with ⟨_, e⟩ | ⟨_, e⟩ <;> rw [e]
    · exact lk_keep (h.acc c hc)
    · exact h.acc c hc
/-- Q, but R at a panic: for a drawn region whose calls may stop the run ('go_region_held' behind it). -/
def OrStop (R : List PanicEntry → World → Prop) (Q : Exit → Act → World → Prop) : Exit → Act → World → Prop
  | .panic c, a, w => a.defers = [] ∧ R c w
  | e, a, w => Q e a w
theorem wp_region_stop {P : Program} {id : Nat} {ops : Array Oper} {b : Bool} {Q : Exit → Act → World → Prop} {a : Act} {w : World} (R : List PanicEntry → World → Prop) (hq : ∀ c a w, a.defers = [] → R c w → Q (.panic c) a w) (h : (Code.region id ops b).wp P (OrStop R Q) a w) : (Code.region id ops b).wp P Q a w :=
  Code.wp_mono (fun e a w h => by cases e <;> first | exact h | exact hq _ _ _ h.1 h.2) h
theorem OrStop.normal {R : List PanicEntry → World → Prop} {Q : Exit → Act → World → Prop} {a : Act} {w : World} (h : Q .normal a w) : OrStop R Q .normal a w := h
theorem OrStop.panic {R : List PanicEntry → World → Prop} {Q : Exit → Act → World → Prop} {c : List PanicEntry} {a : Act} {w : World} (h : a.defers = []) (h2 : R c w) : OrStop R Q (.panic c) a w := ⟨h, h2⟩
end Go.Att
namespace Go.Proofs.YtainhfnanamobaaGreatDoor
open Go.RowKit Go.Att Go.Maps
section
variable {w0 w w' : World} {b mb : Nat} {f : Value} {p g : Int} {fs : List Int} {sz : Int} {lv : Value} {cd : List In4} {s s' : Ms} {n : Int} {sv : Value} {dn : Int}
/-- What a call of the machine's leaves: another state of it, and a value. -/
def MGo (w0 w : World) (b mb : Nat) (f : Value) (p g : Int) (fs : List Int) (sz : Int) (lv : Value) (cd : List In4) (s' : Ms) (n : Int) (sv : Value) (dn : Int) (v : Value) (e : Ending) (w' : World) : Prop :=
  e = .returned v ∧ MAt w0 w' b mb f p g fs sz lv cd s' n sv dn ∧ Turned b mb w w'
/-- What a call of the machine's comes to: a state, or why there is none. -/
def MGot (w0 w : World) (b mb : Nat) (f : Value) (p g : Int) (fs : List Int) (sz : Int) (lv : Value) (cd : List In4) (r : Rs) (mk : Int → Value) (n : Int) (sv : Value) (dn : Int) (e : Ending) (w' : World) : Prop :=
  match r with
  | .go v s' => MGo w0 w b mb f p g fs sz lv cd s' n sv dn (mk v) e w'
  | .no k => Stops 164 w0 k e w'
set_option maxHeartbeats 2000000 in
theorem mlook_yes (h : MAt w0 w b mb f p g fs sz lv cd s n sv dn) {i v : Int} (h0 : 0 ≤ i) (h1 : i ≤ 2147483647) (hl : lk s.mem i = some v) (h2 : s.acc.length ≤ 2) : Calls Tryz.prog 161 #[.pointer (some ⟨b, 0, none⟩), .int .i64 i] w (MGo w0 w b mb f p g fs sz lv cd (s.noted i v) n sv dn (.int .i64 v)) := by
  have c3 : w.cell? ⟨b, 3, none⟩ = some (.map (some mb)) := h.blk.cell 3
  have hlk := h.told.look_yes Tryz.underlying3 Tryz.underlying120 zeroI h0 h1 hl
  have H := Lib.hid h; have HL := Lib.hid hl; have H2 := Lib.hid h2
  clear h hl h2
  go_enter Tryz.func161, Tryz.ntmps161
  go_wp2_with (go_at_call 185; refine (mnote_any H.out h0 h1 HL.out H2.out).mono ?_; rintro e w' ⟨rfl, hm, ht⟩)
  go_ret
  exact ⟨rfl, hm, ht⟩
set_option maxHeartbeats 2000000 in
theorem mlook_no (h : MAt w0 w b mb f p g fs sz lv cd s n sv dn) {i : Int} (h0 : 0 ≤ i) (h1 : i ≤ 2147483647) (hl : lk s.mem i = none) : Calls Tryz.prog 161 #[.pointer (some ⟨b, 0, none⟩), .int .i64 i] w (Stops 164 w0 10) := by
  have c3 : w.cell? ⟨b, 3, none⟩ = some (.map (some mb)) := h.blk.cell 3
  obtain ⟨u, hlk⟩ := h.told.look_no Tryz.underlying3 Tryz.underlying120 zeroI h0 h1 hl
  have HX := Lib.hid h.ext
  clear h hl
  go_enter Tryz.func161, Tryz.ntmps161
  go_wp2_with fail
  exact ⟨rfl, rfl, HX.out⟩
set_option maxHeartbeats 2000000 in
theorem mtell_no (h : MAt w0 w b mb f p g fs sz lv cd s n sv dn) {i x : Int} (h0 : 0 ≤ i) (h1 : i ≤ 2147483647) (hl : ¬ s.may i x) : Calls Tryz.prog 187 #[.pointer (some ⟨b, 0, none⟩), .int .i64 i, .int .i64 x] w (Stops 164 w0 7) := by
  obtain ⟨v, hv, hne⟩ := may_no hl
  have c3 : w.cell? ⟨b, 3, none⟩ = some (.map (some mb)) := h.blk.cell 3
  have hlk := h.told.look_yes Tryz.underlying3 Tryz.underlying120 zeroI h0 h1 hv
  have HX := Lib.hid h.ext
  have hb : (v != x) = true := by simpa using hne
  clear h hl hv hne
  go_enter Tryz.func187, Tryz.ntmps187
  go_wp2_with fail
  exact ⟨rfl, rfl, HX.out⟩
set_option maxHeartbeats 4000000 in
theorem mtell_yes (h : MAt w0 w b mb f p g fs sz lv cd s n sv dn) {i x : Int} (h0 : 0 ≤ i ∧ i < p) (hx : 0 ≤ x ∧ x < p) (hl : s.may i x) (h2 : s.acc.length ≤ 2) (hn : n < 9223372036854775807) : Calls Tryz.prog 187 #[.pointer (some ⟨b, 0, none⟩), .int .i64 i, .int .i64 x] w (MGo w0 w b mb f p g fs sz lv cd (s.told i x) (n + 1) sv dn (.tuple #[])) := by
  have hp := h.fld.hi
  have c3 : w.cell? ⟨b, 3, none⟩ = some (.map (some mb)) := h.blk.cell 3
  obtain ⟨w1, hst, ht1, hg1⟩ := h.told.store Tryz.underlying3 Tryz.underlying120 hn h0.1 (by omega) hx.1 (by omega) (told_mem hl)
  have hm1 : MAt w0 w1 b mb f p g fs sz lv cd (s.half i x) (n + 1) sv dn := ⟨h.blk.grown hg1 (fun e => h.ne (Option.some.inj e)), ht1, Turned.ext (b := b) (Turned.two hg1) h.ext h.nb h.nm, h.fld, h.code, h.nb, h.nm, h.ne, half_ok h.ok hl h0 hx, h.dnb⟩
  have hi1 : i ≤ 2147483647 := by omega
  have h0i := h0.1
  have HT := Lib.hid (Turned.two (b := b) hg1)
  have H := Lib.hid hm1; have H2 := Lib.hid h2; have HK := Lib.hid (told_lk hl)
  rcases hl with hl | hl
  · obtain ⟨u, hlk⟩ := h.told.look_no Tryz.underlying3 Tryz.underlying120 zeroI h0.1 hi1 hl
    clear h hl h2 hm1 ht1 hg1 hn hp h0 hx
    go_enter Tryz.func187, Tryz.ntmps187
    go_wp2_with (go_at_call 185; refine (mnote_any H.out h0i hi1 HK.out H2.out).mono ?_; rintro e w' ⟨rfl, hm, ht⟩)
    go_end0
    exact ⟨rfl, hm, HT.out.trans ht⟩
  · have hlk := h.told.look_yes Tryz.underlying3 Tryz.underlying120 zeroI h0.1 hi1 hl
    have hb : (x != x) = false := by simp
    clear h hl h2 hm1 ht1 hg1 hn hp h0 hx
    go_enter Tryz.func187, Tryz.ntmps187
    go_wp2_with (go_at_call 185; refine (mnote_any H.out h0i hi1 HK.out H2.out).mono ?_; rintro e w' ⟨rfl, hm, ht⟩)
    go_end0
    exact ⟨rfl, hm, HT.out.trans ht⟩
theorem mlook_any (h : MAt w0 w b mb f p g fs sz lv cd s n sv dn) {i : Int} (h0 : 0 ≤ i) (h1 : i ≤ 2147483647) (h2 : s.acc.length ≤ 2) : Calls Tryz.prog 161 #[.pointer (some ⟨b, 0, none⟩), .int .i64 i] w (MGot w0 w b mb f p g fs sz lv cd (s.look i) (fun v => .int .i64 v) n sv dn) := by
  cases hl : lk s.mem i with
  | none => rw [look_no_eq hl]; exact mlook_no h h0 h1 hl
  | some v => rw [look_yes_eq hl]; exact mlook_yes h h0 h1 hl h2
theorem mtell_any (h : MAt w0 w b mb f p g fs sz lv cd s n sv dn) {i x : Int} (h0 : 0 ≤ i ∧ i < p) (hx : 0 ≤ x ∧ x < p) (h2 : s.acc.length ≤ 2) (hn : n < 9223372036854775807) : Calls Tryz.prog 187 #[.pointer (some ⟨b, 0, none⟩), .int .i64 i, .int .i64 x] w (MGot w0 w b mb f p g fs sz lv cd (s.tell i x) (fun _ => .tuple #[]) (n + 1) sv dn) := by
  by_cases hl : s.may i x
  · rw [tell_yes_eq hl]; exact mtell_yes h h0 hx hl h2 hn
  · have := h.fld.hi
    rw [tell_no_eq hl]; exact mtell_no h h0.1 (by omega) hl
theorem mown_at (h : MAt w0 w b mb f p g fs sz lv cd s n sv dn) (x : Int) {q : Int} (hq : s.fp = q) : Calls Tryz.prog 162 #[.pointer (some ⟨b, 0, none⟩), .int .i64 x] w fun e w' => e = .returned (.int .i64 (fadd p q x)) ∧ ∃ m, w' = w.drewN m := by subst hq; exact mown_any h x
theorem mgot_no {r : Rs} {mk : Int → Value} {k : Int} {e : Ending} (hr : r = .no k) (h : Stops 164 w0 k e w') : MGot w0 w b mb f p g fs sz lv cd r mk n sv dn e w' := by subst hr; exact h
theorem mgot_go {r : Rs} {mk : Int → Value} {v : Int} {e : Ending} (hr : r = .go v s') (h : MGo w0 w b mb f p g fs sz lv cd s' n sv dn (mk v) e w') : MGot w0 w b mb f p g fs sz lv cd r mk n sv dn e w' := by subst hr; exact h
theorem mgot_look {i : Int} {mk : Int → Value} {e : Ending} (h : MGot w0 w b mb f p g fs sz lv cd (s.look i) mk n sv dn e w') : (lk s.mem i = none ∧ Stops 164 w0 10 e w') ∨ ∃ u, lk s.mem i = some u ∧ MGo w0 w b mb f p g fs sz lv cd (s.noted i u) n sv dn (mk u) e w' := by
  cases hl : lk s.mem i with
  | none => rw [look_no_eq hl] at h; exact .inl ⟨rfl, h⟩
  | some u => rw [look_yes_eq hl] at h; exact .inr ⟨u, rfl, h⟩
theorem mgot_tell {i x : Int} {mk : Int → Value} {e : Ending} (h : MGot w0 w b mb f p g fs sz lv cd (s.tell i x) mk n sv dn e w') : (¬ s.may i x ∧ Stops 164 w0 7 e w') ∨ (s.may i x ∧ MGo w0 w b mb f p g fs sz lv cd (s.told i x) n sv dn (mk 0) e w') := by
  by_cases hl : s.may i x
  · rw [tell_yes_eq hl] at h; exact .inr ⟨hl, h⟩
  · rw [tell_no_eq hl] at h; exact .inl ⟨hl, h⟩
theorem MGo.turn {w1 : World} {v : Value} {e : Ending} (h : MGo w0 w1 b mb f p g fs sz lv cd s n sv dn v e w') (ht : Turned b mb w w1) : MGo w0 w b mb f p g fs sz lv cd s n sv dn v e w' := ⟨h.1, h.2.1, ht.trans h.2.2⟩
theorem MGot.turn {w1 : World} {r : Rs} {mk : Int → Value} {e : Ending} (h : MGot w0 w1 b mb f p g fs sz lv cd r mk n sv dn e w') (ht : Turned b mb w w1) : MGot w0 w b mb f p g fs sz lv cd r mk n sv dn e w' := by
  cases r with
  | go v s => exact MGo.turn h ht
  | no k => exact h
end
end Go.Proofs.YtainhfnanamobaaGreatDoor
