/- The program's machine: what its block holds; a cell at an offset; must; note, look, tell. The program's machine: look, tell. -/
import Derived.Test.YtnmjaddhbecopaaGreatDoorZx14
import Derived.Test.YtnmjaddhbecopaaGreatDoorFa
import Derived.BigQuiet
import Derived.Deep.RegionHeld3
import Derived.Deep.DrawnRows
section
namespace Go.Att
open Go.RowKit Go.Maps
/-- The place of one that was looked at. -/
def accA (l : List (Int × Int)) (i : Nat) : Int := (l.getD i (0, 0)).1
def accI (l : List (Int × Int)) (i : Nat) : Int := (l.getD i (0, 0)).2
/-- The cells of the machine's block. -/
def mcells (f : Value) (sz : Int) (lv : Value) (mb : Nat) (s : Ms) (sv : Value) (dn : Int) : List Value :=
  [f, .int .i64 sz, lv, .map (some mb), .int .i64 s.pc, .int .i64 s.fp, .int .i64 s.ap, .int .i64 s.rv, .int .i64 (accA s.acc 0), .int .i64 (accA s.acc 1), .int .i64 (accA s.acc 2), .int .i64 (accI s.acc 0), .int .i64 (accI s.acc 1), .int .i64 (accI s.acc 2), .int .i64 s.acc.length, sv, .int .i64 dn]
/-- Another cell was looked at. -/
def Ms.noted (s : Ms) (i v : Int) : Ms := { s with acc := s.acc ++ [(i, v)] }
theorem len_cases {l : List (Int × Int)} (h : l.length ≤ 2) : l = [] ∨ (∃ x, l = [x]) ∨ ∃ x y, l = [x, y] := by
  match l, h with
  | [], _ => exact .inl rfl
  | [x], _ => exact .inr (.inl ⟨x, rfl⟩)
  | [x, y], _ => exact .inr (.inr ⟨x, y, rfl⟩)
end Go.Att
namespace Go.Proofs.YtnmjaddhbecopaaGreatDoor
open Go.RowKit Go.Att Go.Maps
attribute [local go_sem ↓] Go.wp_at_zero Go.wp_at_succ
/-- The program's machine lies in a block; what it was told lies in a map's block; w0: the world that it was made in. -/
structure MAt (w0 w : World) (b mb : Nat) (f : Value) (p g : Int) (fs : List Int) (sz : Int) (lv : Value) (cd : List In4) (s : Ms) (n : Int) (sv : Value) (dn : Int) : Prop where
  blk : BlkOf w b (mcells f sz lv mb s sv dn) 191
  told : Tmem Tryz.prog 3 w mb n s.mem
  ext : Ext w0 w
  fld : Fld w0 f p g fs
  code : Inqs w0 lv cd
  nb : w0.heap.size ≤ b
  nm : w0.heap.size ≤ mb
  ne : b ≠ mb
  ok : Okm p s
  dnb : 0 ≤ dn ∧ dn ≤ 16384
theorem zeroI (w : World) : (zeroValue 3).run Tryz.prog w = .ok (.int .i64 0) w := by kernel_rfl
section
variable {w0 w w' : World} {b mb : Nat} {f : Value} {p g : Int} {fs : List Int} {sz : Int} {lv : Value} {cd : List In4} {s s' : Ms} {n : Int} {sv : Value} {dn : Int}
theorem MAt.lt (h : MAt w0 w b mb f p g fs sz lv cd s n sv dn) : b < w.heap.size := h.blk.lt
/-- Other blocks may be made, or written. -/
theorem MAt.kept (h : MAt w0 w b mb f p g fs sz lv cd s n sv dn) {row : Option Nat} (hg : w.grownBy w' row) (h1 : some b ≠ row) (h2 : some mb ≠ row) (hx : Ext w0 w') : MAt w0 w' b mb f p g fs sz lv cd s n sv dn :=
  ⟨h.blk.grown hg h1, h.told.kept hg h2, hx, h.fld, h.code, h.nb, h.nm, h.ne, h.ok, h.dnb⟩
theorem MAt.to (h : MAt w0 w b mb f p g fs sz lv cd s n sv dn) (hx : Ext w w') : MAt w0 w' b mb f p g fs sz lv cd s n sv dn :=
  h.kept (hx.grownBy none) (by simp) (by simp) (h.ext.trans hx)
/-- The block alone was written. -/
theorem MAt.wrote (h : MAt w0 w b mb f p g fs sz lv cd s n sv dn) (hg : w.grownBy w' (some b)) {sv' : Value} {dn' : Int} (hb : BlkOf w' b (mcells f sz lv mb s' sv' dn') 191) (hm : s'.mem = s.mem) (hd : 0 ≤ dn' ∧ dn' ≤ 16384) (ho : Okm p s') : MAt w0 w' b mb f p g fs sz lv cd s' n sv' dn' :=
  ⟨hb, by rw [hm]; exact h.told.kept hg (fun e => h.ne (Option.some.inj e).symm), Turned.ext (c := mb) (Turned.one hg) h.ext h.nb h.nm, h.fld, h.code, h.nb, h.nm, h.ne, ho, hd⟩
set_option maxHeartbeats 1000000 in
theorem mown_any (h : MAt w0 w b mb f p g fs sz lv cd s n sv dn) (x : Int) : Calls Tryz.prog 253 #[.pointer (some ⟨b, 0, none⟩), .int .i64 x] w fun e w' => e = .returned (.int .i64 (fadd p s.fp x)) ∧ ∃ m, w' = w.drewN m := by
  have c0 : w.cell? ⟨b, 0, none⟩ = some f := h.blk.cell 0
  have c5 : w.cell? ⟨b, 5, none⟩ = some (.int .i64 s.fp) := h.blk.cell 5
  have HF := Lib.hid (h.fld.ext h.ext)
  clear h
  go_enter Tryz.func253, Tryz.ntmps253
  go_wp2_with fail
  go_quiet ((go_at_call 122; exact add_q HF.out _ _ _))
  go_wp2_with fail
  go_ret
  exact ⟨rfl, _, rfl⟩
theorem noted_ok (h : Okm p s) {i v : Int} (hl : lk s.mem i = some v) : Okm p (s.noted i v) :=
  ⟨h.pc, h.fp, h.ap, h.rv, h.mem, fun c hc => by
    simp only [Ms.noted, List.mem_append, List.mem_singleton] at hc
    rcases hc with hc | rfl
    · exact h.acc c hc
    · exact hl⟩
theorem MAt.note0 (h : MAt w0 w b mb f p g fs sz lv cd s n sv dn) {i v : Int} (hl : lk s.mem i = some v) (hg : w.grownBy w' (some b)) {cs : List Value} (hb : BlkOf w' b cs 191) (hcs : cs = mcells f sz lv mb (s.noted i v) sv dn) : MAt w0 w' b mb f p g fs sz lv cd (s.noted i v) n sv dn ∧ Turned b mb w w' :=
  ⟨h.wrote hg (by rw [← hcs]; exact hb) rfl h.dnb (noted_ok h.ok hl), Turned.one hg⟩
/-- What a call that notes leaves. -/
def NoteGot (w0 w : World) (b mb : Nat) (f : Value) (p g : Int) (fs : List Int) (sz : Int) (lv : Value) (cd : List In4) (s : Ms) (n : Int) (sv : Value) (dn : Int) (i v : Int) (e : Ending) (w' : World) : Prop :=
  e = .returned (.tuple #[]) ∧ MAt w0 w' b mb f p g fs sz lv cd (s.noted i v) n sv dn ∧ Turned b mb w w'
set_option maxHeartbeats 2000000 in
theorem mnote_any (h : MAt w0 w b mb f p g fs sz lv cd s n sv dn) {i v : Int} (h0 : 0 ≤ i) (h1 : i ≤ 2147483647) (hl : lk s.mem i = some v) (h2 : s.acc.length ≤ 2) : Calls Tryz.prog 285 #[.pointer (some ⟨b, 0, none⟩), .int .i64 i] w (NoteGot w0 w b mb f p g fs sz lv cd s n sv dn i v) := by
  have c3 : w.cell? ⟨b, 3, none⟩ = some (.map (some mb)) := h.blk.cell 3
  have c14 : w.cell? ⟨b, 14, none⟩ = some (.int .i64 s.acc.length) := h.blk.cell 14
  have d8 : w.cell? ⟨b, 8, none⟩ = some (.int .i64 (accA s.acc 0)) := h.blk.cell 8
  have d9 : w.cell? ⟨b, 9, none⟩ = some (.int .i64 (accA s.acc 1)) := h.blk.cell 9
  have d10 : w.cell? ⟨b, 10, none⟩ = some (.int .i64 (accA s.acc 2)) := h.blk.cell 10
  have d11 : w.cell? ⟨b, 11, none⟩ = some (.int .i64 (accI s.acc 0)) := h.blk.cell 11
  have d12 : w.cell? ⟨b, 12, none⟩ = some (.int .i64 (accI s.acc 1)) := h.blk.cell 12
  have d13 : w.cell? ⟨b, 13, none⟩ = some (.int .i64 (accI s.acc 2)) := h.blk.cell 13
  have f8 := h.blk.free 8
  have f9 := h.blk.free 9
  have f10 := h.blk.free 10
  have f11 := h.blk.free 11
  have f12 := h.blk.free 12
  have f13 := h.blk.free 13
  have f14 := h.blk.free 14
  have hlk : (Instr.lookup 187 (.map (some mb)) (.int .i64 i) false).run Tryz.prog w.drew = .ok (.int .i64 v) w.drew := (h.told.kept ((Ext.drew w).grownBy none) (by simp)).look Tryz.underlying3 Tryz.underlying187 zeroI h0 h1 hl
  have H := Lib.hid h; have HL := Lib.hid hl
  clear h hl
  rcases len_cases h2 with e | ⟨x, e⟩ | ⟨x, y, e⟩
  · rw [e] at c14
    have E := Lib.hid e; clear e h2
    replace c14 : w.cell? ⟨b, 14, none⟩ = some (.int .i64 0) := c14
    go_enter Tryz.func285, Tryz.ntmps285
    go_wp2_with fail
    go_region_held3 (fun w' => w'.cell? ⟨b, 14, none⟩ = some (.int .i64 0) ∧ w'.cell? ⟨b, 3, none⟩ = some (.map (some mb))) (first | exact ⟨c14, c3⟩ | exact ⟨(World.cell?_setCell_other _ _ _ _ (by simp)).trans c14, (World.cell?_setCell_other _ _ _ _ (by simp)).trans c3⟩ | exact ⟨(World.cell?_setCell_other _ _ _ _ (by simp)).trans ((World.cell?_setCell_other _ _ _ _ (by simp)).trans c14), (World.cell?_setCell_other _ _ _ _ (by simp)).trans ((World.cell?_setCell_other _ _ _ _ (by simp)).trans c3)⟩) (fail)
    go_wp2_with fail
    go_end0
    exact ⟨rfl, H.out.note0 HL.out (grown_ext (grown_one (grown_one (setCell_grown w b 8 (.int .i64 i)) (setCell_grown _ b 11 (.int .i64 v))) (setCell_grown _ b 14 (.int .i64 1))) (Ext.drew _)) (((H.out.blk.set 8 (.int .i64 i)).set 11 (.int .i64 v)).set 14 (.int .i64 1)) (by simp [mcells, Ms.noted, E.out, accA, accI])⟩
  · rw [e] at c14
    have E := Lib.hid e; clear e h2
    replace c14 : w.cell? ⟨b, 14, none⟩ = some (.int .i64 1) := c14
    go_enter Tryz.func285, Tryz.ntmps285
    go_wp2_with fail
    go_region_held3 (fun w' => w'.cell? ⟨b, 14, none⟩ = some (.int .i64 1) ∧ w'.cell? ⟨b, 3, none⟩ = some (.map (some mb))) (first | exact ⟨c14, c3⟩ | exact ⟨(World.cell?_setCell_other _ _ _ _ (by simp)).trans c14, (World.cell?_setCell_other _ _ _ _ (by simp)).trans c3⟩ | exact ⟨(World.cell?_setCell_other _ _ _ _ (by simp)).trans ((World.cell?_setCell_other _ _ _ _ (by simp)).trans c14), (World.cell?_setCell_other _ _ _ _ (by simp)).trans ((World.cell?_setCell_other _ _ _ _ (by simp)).trans c3)⟩) (fail)
    go_wp2_with fail
    go_end0
    exact ⟨rfl, H.out.note0 HL.out (grown_ext (grown_one (grown_one (setCell_grown w b 9 (.int .i64 i)) (setCell_grown _ b 12 (.int .i64 v))) (setCell_grown _ b 14 (.int .i64 2))) (Ext.drew _)) (((H.out.blk.set 9 (.int .i64 i)).set 12 (.int .i64 v)).set 14 (.int .i64 2)) (by simp [mcells, Ms.noted, E.out, accA, accI])⟩
  · rw [e] at c14
    have E := Lib.hid e; clear e h2
    replace c14 : w.cell? ⟨b, 14, none⟩ = some (.int .i64 2) := c14
    go_enter Tryz.func285, Tryz.ntmps285
    go_wp2_with fail
    go_region_held3 (fun w' => w'.cell? ⟨b, 14, none⟩ = some (.int .i64 2) ∧ w'.cell? ⟨b, 3, none⟩ = some (.map (some mb))) (first | exact ⟨c14, c3⟩ | exact ⟨(World.cell?_setCell_other _ _ _ _ (by simp)).trans c14, (World.cell?_setCell_other _ _ _ _ (by simp)).trans c3⟩ | exact ⟨(World.cell?_setCell_other _ _ _ _ (by simp)).trans ((World.cell?_setCell_other _ _ _ _ (by simp)).trans c14), (World.cell?_setCell_other _ _ _ _ (by simp)).trans ((World.cell?_setCell_other _ _ _ _ (by simp)).trans c3)⟩) (fail)
    go_wp2_with fail
    go_end0
    exact ⟨rfl, H.out.note0 HL.out (grown_ext (grown_one (grown_one (setCell_grown w b 10 (.int .i64 i)) (setCell_grown _ b 13 (.int .i64 v))) (setCell_grown _ b 14 (.int .i64 3))) (Ext.drew _)) (((H.out.blk.set 10 (.int .i64 i)).set 13 (.int .i64 v)).set 14 (.int .i64 3)) (by simp [mcells, Ms.noted, E.out, accA, accI])⟩
end
/-- A run is stopped. -/
def Stops (ty : TypeId) (w0 : World) (n : Int) (e : Ending) (w' : World) : Prop := e = .panicked [{ v := .iface ty (.agg #[.int .i64 n]), recovered := false }] ∧ Ext w0 w'
theorem must_no {w0 w : World} (hx : Ext w0 w) : Calls Tryz.prog 251 #[.bool false] w (Stops 256 w0 7) := by
  have HX := Lib.hid hx; clear hx
  go_enter Tryz.func251, Tryz.ntmps251
  go_wp2_with fail
  exact ⟨rfl, rfl, HX.out⟩
theorem must_yes (w : World) : Calls Tryz.prog 251 #[.bool true] w fun e w' => e = .returned (.tuple #[]) ∧ w = w' := by
  go_enter Tryz.func251, Tryz.ntmps251
  go_wp2_with fail
  go_end0
  exact ⟨rfl, rfl⟩
end Go.Proofs.YtnmjaddhbecopaaGreatDoor
end
section
namespace Go.Att
open Go.RowKit Go.Maps
/-- A cell was told something. -/
def Ms.told (s : Ms) (i x : Int) : Ms := { s with mem := (match lk s.mem i with | some _ => s.mem | none => s.mem ++ [(i, x)]), acc := s.acc ++ [(i, x)] }
theorem look_yes_eq {s : Ms} {i v : Int} (hl : lk s.mem i = some v) : s.look i = .go v (s.noted i v) := by unfold Ms.look; rw [hl]; rfl
theorem look_no_eq {s : Ms} {i : Int} (hl : lk s.mem i = none) : s.look i = .no 10 := by unfold Ms.look; rw [hl]
/-- May a cell be told something? -/
def Ms.may (s : Ms) (i x : Int) : Prop := lk s.mem i = none ∨ lk s.mem i = some x
theorem tell_yes_eq {s : Ms} {i x : Int} (h : s.may i x) : s.tell i x = .go 0 (s.told i x) := by
  unfold Ms.tell Ms.told
  rcases h with h | h <;> rw [h] <;> simp
theorem tell_no_eq {s : Ms} {i x : Int} (h : ¬ s.may i x) : s.tell i x = .no 7 := by
  unfold Ms.tell
  unfold Ms.may at h
  cases hl : lk s.mem i with
  | none => exact absurd (.inl hl) h
  | some v =>
    dsimp only
    rw [if_neg (fun e => h (.inr (by rw [hl, e])))]
theorem told_mem {s : Ms} {i x : Int} (h : s.may i x) : (lk s.mem i = none ∧ (s.told i x).mem = s.mem ++ [(i, x)]) ∨ (lk s.mem i = some x ∧ (s.told i x).mem = s.mem) := by
  unfold Ms.told
  rcases h with h | h
  · exact .inl ⟨h, by rw [h]⟩
  · exact .inr ⟨h, by rw [h]⟩
theorem told_lk {s : Ms} {i x : Int} (h : s.may i x) : lk (s.told i x).mem i = some x := by
  rcases told_mem h with ⟨h1, h2⟩ | ⟨h1, h2⟩ <;> rw [h2]
  · exact lk_new h1
  · exact h1
theorem may_no {s : Ms} {i x : Int} (h : ¬ s.may i x) : ∃ v, lk s.mem i = some v ∧ v ≠ x := by
  unfold Ms.may at h
  cases hl : lk s.mem i with
  | none => exact absurd (.inl hl) h
  | some v => exact ⟨v, rfl, fun e => h (.inr (by rw [hl, e]))⟩
/-- Its memory alone, turned by what it is told. -/
def Ms.half (s : Ms) (i x : Int) : Ms := { s with mem := (s.told i x).mem }
theorem half_noted (s : Ms) (i x : Int) : (s.half i x).noted i x = s.told i x := rfl
theorem half_ok {p : Int} {s : Ms} {i x : Int} (h : Okm p s) (hm : s.may i x) (hi : 0 ≤ i ∧ i < p) (hx : 0 ≤ x ∧ x < p) : Okm p (s.half i x) := by
  have h2 := told_mem hm
  refine ⟨h.pc, h.fp, h.ap, h.rv, fun c hc => ?_, fun c hc => ?_⟩
  · change c ∈ (s.told i x).mem at hc
    rcases h2 with ⟨_, e⟩ | ⟨_, e⟩
    · rw [e] at hc
      simp only [List.mem_append, List.mem_singleton] at hc
      rcases hc with hc | rfl
      · exact h.mem c hc
      · exact ⟨hi, hx⟩
    · rw [e] at hc; exact h.mem c hc
  · change lk (s.told i x).mem c.1 = some c.2
    rcases h2 with ⟨_, e⟩ | ⟨_, e⟩ <;> rw [e]
    · exact lk_keep (h.acc c hc)
    · exact h.acc c hc
/-- Q, but R at a panic: for a drawn region whose calls may stop the run ('go_region_held' behind it). -/
def OrStop (R : List PanicEntry → World → Prop) (Q : Exit → Act → World → Prop) : Exit → Act → World → Prop
  | .panic c, a, w => a.defers = [] ∧ R c w
  | e, a, w => Q e a w
theorem wp_region_stop {P : Program} {id : Nat} {ops : Array Oper} {b : Bool} {Q : Exit → Act → World → Prop} {a : Act} {w : World} (R : List PanicEntry → World → Prop) (hq : ∀ c a w, a.defers = [] → R c w → Q (.panic c) a w) (h : (Code.region id ops b).wp P (OrStop R Q) a w) : (Code.region id ops b).wp P Q a w :=
  Code.wp_mono (fun e a w h => by cases e <;> first | exact h | exact hq _ _ _ h.1 h.2) h
theorem OrStop.normal {R : List PanicEntry → World → Prop} {Q : Exit → Act → World → Prop} {a : Act} {w : World} (h : Q .normal a w) : OrStop R Q .normal a w := h
theorem OrStop.panic {R : List PanicEntry → World → Prop} {Q : Exit → Act → World → Prop} {c : List PanicEntry} {a : Act} {w : World} (h : a.defers = []) (h2 : R c w) : OrStop R Q (.panic c) a w := ⟨h, h2⟩
end Go.Att
namespace Go.Proofs.YtnmjaddhbecopaaGreatDoor
open Go.RowKit Go.Att Go.Maps
section
variable {w0 w w' : World} {b mb : Nat} {f : Value} {p g : Int} {fs : List Int} {sz : Int} {lv : Value} {cd : List In4} {s s' : Ms} {n : Int} {sv : Value} {dn : Int}
/-- What a call of the machine's leaves: another state of it, and a value. -/
def MGo (w0 w : World) (b mb : Nat) (f : Value) (p g : Int) (fs : List Int) (sz : Int) (lv : Value) (cd : List In4) (s' : Ms) (n : Int) (sv : Value) (dn : Int) (v : Value) (e : Ending) (w' : World) : Prop :=
  e = .returned v ∧ MAt w0 w' b mb f p g fs sz lv cd s' n sv dn ∧ Turned b mb w w'
/-- What a call of the machine's comes to: a state, or why there is none. -/
def MGot (w0 w : World) (b mb : Nat) (f : Value) (p g : Int) (fs : List Int) (sz : Int) (lv : Value) (cd : List In4) (r : Rs) (mk : Int → Value) (n : Int) (sv : Value) (dn : Int) (e : Ending) (w' : World) : Prop :=
  match r with
  | .go v s' => MGo w0 w b mb f p g fs sz lv cd s' n sv dn (mk v) e w'
  | .no k => Stops 256 w0 k e w'
set_option maxHeartbeats 2000000 in
theorem mlook_yes (h : MAt w0 w b mb f p g fs sz lv cd s n sv dn) {i v : Int} (h0 : 0 ≤ i) (h1 : i ≤ 2147483647) (hl : lk s.mem i = some v) (h2 : s.acc.length ≤ 2) : Calls Tryz.prog 252 #[.pointer (some ⟨b, 0, none⟩), .int .i64 i] w (MGo w0 w b mb f p g fs sz lv cd (s.noted i v) n sv dn (.int .i64 v)) := by
  have c3 : w.cell? ⟨b, 3, none⟩ = some (.map (some mb)) := h.blk.cell 3
  have hlk := h.told.look_yes Tryz.underlying3 Tryz.underlying187 zeroI h0 h1 hl
  have H := Lib.hid h; have HL := Lib.hid hl; have H2 := Lib.hid h2
  clear h hl h2
  go_enter Tryz.func252, Tryz.ntmps252
  go_wp2_with (go_at_call 285; refine (mnote_any H.out h0 h1 HL.out H2.out).mono ?_; rintro e w' ⟨rfl, hm, ht⟩)
  go_ret
  exact ⟨rfl, hm, ht⟩
set_option maxHeartbeats 2000000 in
theorem mlook_no (h : MAt w0 w b mb f p g fs sz lv cd s n sv dn) {i : Int} (h0 : 0 ≤ i) (h1 : i ≤ 2147483647) (hl : lk s.mem i = none) : Calls Tryz.prog 252 #[.pointer (some ⟨b, 0, none⟩), .int .i64 i] w (Stops 256 w0 10) := by
  have c3 : w.cell? ⟨b, 3, none⟩ = some (.map (some mb)) := h.blk.cell 3
  obtain ⟨u, hlk⟩ := h.told.look_no Tryz.underlying3 Tryz.underlying187 zeroI h0 h1 hl
  have HX := Lib.hid h.ext
  clear h hl
  go_enter Tryz.func252, Tryz.ntmps252
  go_wp2_with fail
  exact ⟨rfl, rfl, HX.out⟩
set_option maxHeartbeats 2000000 in
theorem mtell_no (h : MAt w0 w b mb f p g fs sz lv cd s n sv dn) {i x : Int} (h0 : 0 ≤ i) (h1 : i ≤ 2147483647) (hl : ¬ s.may i x) : Calls Tryz.prog 287 #[.pointer (some ⟨b, 0, none⟩), .int .i64 i, .int .i64 x] w (Stops 256 w0 7) := by
  obtain ⟨v, hv, hne⟩ := may_no hl
  have c3 : w.cell? ⟨b, 3, none⟩ = some (.map (some mb)) := h.blk.cell 3
  have hlk := h.told.look_yes Tryz.underlying3 Tryz.underlying187 zeroI h0 h1 hv
  have HX := Lib.hid h.ext
  have hb : (v != x) = true := by simpa using hne
  clear h hl hv hne
  go_enter Tryz.func287, Tryz.ntmps287
  go_wp2_with fail
  exact ⟨rfl, rfl, HX.out⟩
set_option maxHeartbeats 4000000 in
theorem mtell_yes (h : MAt w0 w b mb f p g fs sz lv cd s n sv dn) {i x : Int} (h0 : 0 ≤ i ∧ i < p) (hx : 0 ≤ x ∧ x < p) (hl : s.may i x) (h2 : s.acc.length ≤ 2) (hn : n < 9223372036854775807) : Calls Tryz.prog 287 #[.pointer (some ⟨b, 0, none⟩), .int .i64 i, .int .i64 x] w (MGo w0 w b mb f p g fs sz lv cd (s.told i x) (n + 1) sv dn (.tuple #[])) := by
  have hp := h.fld.hi
  have c3 : w.cell? ⟨b, 3, none⟩ = some (.map (some mb)) := h.blk.cell 3
  obtain ⟨w1, hst, ht1, hg1⟩ := h.told.store Tryz.underlying3 Tryz.underlying187 hn h0.1 (by omega) hx.1 (by omega) (told_mem hl)
  have hm1 : MAt w0 w1 b mb f p g fs sz lv cd (s.half i x) (n + 1) sv dn := ⟨h.blk.grown hg1 (fun e => h.ne (Option.some.inj e)), ht1, Turned.ext (b := b) (Turned.two hg1) h.ext h.nb h.nm, h.fld, h.code, h.nb, h.nm, h.ne, half_ok h.ok hl h0 hx, h.dnb⟩
  have hi1 : i ≤ 2147483647 := by omega
  have h0i := h0.1
  have HT := Lib.hid (Turned.two (b := b) hg1)
  have H := Lib.hid hm1; have H2 := Lib.hid h2; have HK := Lib.hid (told_lk hl)
  rcases hl with hl | hl
  · obtain ⟨u, hlk⟩ := h.told.look_no Tryz.underlying3 Tryz.underlying187 zeroI h0.1 hi1 hl
    clear h hl h2 hm1 ht1 hg1 hn hp h0 hx
    go_enter Tryz.func287, Tryz.ntmps287
    go_wp2_with (go_at_call 285; refine (mnote_any H.out h0i hi1 HK.out H2.out).mono ?_; rintro e w' ⟨rfl, hm, ht⟩)
    go_end0
    exact ⟨rfl, hm, HT.out.trans ht⟩
  · have hlk := h.told.look_yes Tryz.underlying3 Tryz.underlying187 zeroI h0.1 hi1 hl
    have hb : (x != x) = false := by simp
    clear h hl h2 hm1 ht1 hg1 hn hp h0 hx
    go_enter Tryz.func287, Tryz.ntmps287
    go_wp2_with (go_at_call 285; refine (mnote_any H.out h0i hi1 HK.out H2.out).mono ?_; rintro e w' ⟨rfl, hm, ht⟩)
    go_end0
    exact ⟨rfl, hm, HT.out.trans ht⟩
theorem mlook_any (h : MAt w0 w b mb f p g fs sz lv cd s n sv dn) {i : Int} (h0 : 0 ≤ i) (h1 : i ≤ 2147483647) (h2 : s.acc.length ≤ 2) : Calls Tryz.prog 252 #[.pointer (some ⟨b, 0, none⟩), .int .i64 i] w (MGot w0 w b mb f p g fs sz lv cd (s.look i) (fun v => .int .i64 v) n sv dn) := by
  cases hl : lk s.mem i with
  | none => rw [look_no_eq hl]; exact mlook_no h h0 h1 hl
  | some v => rw [look_yes_eq hl]; exact mlook_yes h h0 h1 hl h2
theorem mtell_any (h : MAt w0 w b mb f p g fs sz lv cd s n sv dn) {i x : Int} (h0 : 0 ≤ i ∧ i < p) (hx : 0 ≤ x ∧ x < p) (h2 : s.acc.length ≤ 2) (hn : n < 9223372036854775807) : Calls Tryz.prog 287 #[.pointer (some ⟨b, 0, none⟩), .int .i64 i, .int .i64 x] w (MGot w0 w b mb f p g fs sz lv cd (s.tell i x) (fun _ => .tuple #[]) (n + 1) sv dn) := by
  by_cases hl : s.may i x
  · rw [tell_yes_eq hl]; exact mtell_yes h h0 hx hl h2 hn
  · have := h.fld.hi
    rw [tell_no_eq hl]; exact mtell_no h h0.1 (by omega) hl
theorem mown_at (h : MAt w0 w b mb f p g fs sz lv cd s n sv dn) (x : Int) {q : Int} (hq : s.fp = q) : Calls Tryz.prog 253 #[.pointer (some ⟨b, 0, none⟩), .int .i64 x] w fun e w' => e = .returned (.int .i64 (fadd p q x)) ∧ ∃ m, w' = w.drewN m := by subst hq; exact mown_any h x
theorem mgot_no {r : Rs} {mk : Int → Value} {k : Int} {e : Ending} (hr : r = .no k) (h : Stops 256 w0 k e w') : MGot w0 w b mb f p g fs sz lv cd r mk n sv dn e w' := by subst hr; exact h
theorem mgot_go {r : Rs} {mk : Int → Value} {v : Int} {e : Ending} (hr : r = .go v s') (h : MGo w0 w b mb f p g fs sz lv cd s' n sv dn (mk v) e w') : MGot w0 w b mb f p g fs sz lv cd r mk n sv dn e w' := by subst hr; exact h
theorem mgot_look {i : Int} {mk : Int → Value} {e : Ending} (h : MGot w0 w b mb f p g fs sz lv cd (s.look i) mk n sv dn e w') : (lk s.mem i = none ∧ Stops 256 w0 10 e w') ∨ ∃ u, lk s.mem i = some u ∧ MGo w0 w b mb f p g fs sz lv cd (s.noted i u) n sv dn (mk u) e w' := by
  cases hl : lk s.mem i with
  | none => rw [look_no_eq hl] at h; exact .inl ⟨rfl, h⟩
  | some u => rw [look_yes_eq hl] at h; exact .inr ⟨u, rfl, h⟩
theorem mgot_tell {i x : Int} {mk : Int → Value} {e : Ending} (h : MGot w0 w b mb f p g fs sz lv cd (s.tell i x) mk n sv dn e w') : (¬ s.may i x ∧ Stops 256 w0 7 e w') ∨ (s.may i x ∧ MGo w0 w b mb f p g fs sz lv cd (s.told i x) n sv dn (mk 0) e w') := by
  by_cases hl : s.may i x
  · rw [tell_yes_eq hl] at h; exact .inr ⟨hl, h⟩
  · rw [tell_no_eq hl] at h; exact .inl ⟨hl, h⟩
theorem MGo.turn {w1 : World} {v : Value} {e : Ending} (h : MGo w0 w1 b mb f p g fs sz lv cd s n sv dn v e w') (ht : Turned b mb w w1) : MGo w0 w b mb f p g fs sz lv cd s n sv dn v e w' := ⟨h.1, h.2.1, ht.trans h.2.2⟩
theorem MGot.turn {w1 : World} {r : Rs} {mk : Int → Value} {e : Ending} (h : MGot w0 w1 b mb f p g fs sz lv cd r mk n sv dn e w') (ht : Turned b mb w w1) : MGot w0 w b mb f p g fs sz lv cd r mk n sv dn e w' := by
  cases r with
  | go v s => exact MGo.turn h ht
  | no k => exact h
end
end Go.Proofs.YtnmjaddhbecopaaGreatDoor
end
