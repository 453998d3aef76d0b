/- The program's machine: what its block holds; a cell at an offset; must; note, look, tell. -/
import Derived.Test.YtainhfnanamobaaGreatDoorM2
import Derived.Test.YtainhfnanamobaaGreatDoorIq
import Derived.Test.YtainhfnanamobaaGreatDoorFa
import Derived.BigQuiet
import Derived.Deep.RegionHeld3
import Derived.Deep.DrawnRows
namespace Go.Att
open Go.RowKit Go.Maps
/-- The place of one that was looked at. -/
def accA (l : List (Int × Int)) (i : Nat) : Int := (l.getD i (0, 0)).1
def accI (l : List (Int × Int)) (i : Nat) : Int := (l.getD i (0, 0)).2
/-- The cells of the machine's block. -/
def mcells (f : Value) (sz : Int) (lv : Value) (mb : Nat) (s : Ms) (sv : Value) (dn : Int) : List Value :=
  [f, .int .i64 sz, lv, .map (some mb), .int .i64 s.pc, .int .i64 s.fp, .int .i64 s.ap, .int .i64 s.rv, .int .i64 (accA s.acc 0), .int .i64 (accA s.acc 1), .int .i64 (accA s.acc 2), .int .i64 (accI s.acc 0), .int .i64 (accI s.acc 1), .int .i64 (accI s.acc 2), .int .i64 s.acc.length, sv, .int .i64 dn]
/-- Another cell was looked at. -/
def Ms.noted (s : Ms) (i v : Int) : Ms := { s with acc := s.acc ++ [(i, v)] }
theorem len_cases {l : List (Int × Int)} (h : l.length ≤ 2) : l = [] ∨ (∃ x, l = [x]) ∨ ∃ x y, l = [x, y] := by
  match l, h with
  | [], _ => exact .inl rfl
  | [x], _ => exact .inr (.inl ⟨x, rfl⟩)
  | [x, y], _ => exact .inr (.inr ⟨x, y, rfl⟩)
end Go.Att
namespace Go.Proofs.YtainhfnanamobaaGreatDoor
open Go.RowKit Go.Att Go.Maps
attribute [local go_sem ↓] Go.wp_at_zero Go.wp_at_succ
/-- The program's machine lies in a block; what it was told lies in a map's block; w0: the world that it was made in. -/
structure MAt (w0 w : World) (b mb : Nat) (f : Value) (p g : Int) (fs : List Int) (sz : Int) (lv : Value) (cd : List In4) (s : Ms) (n : Int) (sv : Value) (dn : Int) : Prop where
  blk : BlkOf w b (mcells f sz lv mb s sv dn) 122
  told : Tmem Tryz.prog 3 w mb n s.mem
  ext : Ext w0 w
  fld : Fld w0 f p g fs
  code : Inqs w0 lv cd
  nb : w0.heap.size ≤ b
  nm : w0.heap.size ≤ mb
  ne : b ≠ mb
  ok : Okm p s
  dnb : 0 ≤ dn ∧ dn ≤ 16384
theorem zeroI (w : World) : (zeroValue 3).run Tryz.prog w = .ok (.int .i64 0) w := by kernel_rfl
section
variable {w0 w w' : World} {b mb : Nat} {f : Value} {p g : Int} {fs : List Int} {sz : Int} {lv : Value} {cd : List In4} {s s' : Ms} {n : Int} {sv : Value} {dn : Int}
theorem MAt.lt (h : MAt w0 w b mb f p g fs sz lv cd s n sv dn) : b < w.heap.size := h.blk.lt
/-- Other blocks may be made, or written. -/
theorem MAt.kept (h : MAt w0 w b mb f p g fs sz lv cd s n sv dn) {row : Option Nat} (hg : w.grownBy w' row) (h1 : some b ≠ row) (h2 : some mb ≠ row) (hx : Ext w0 w') : MAt w0 w' b mb f p g fs sz lv cd s n sv dn :=
  ⟨h.blk.grown hg h1, h.told.kept hg h2, hx, h.fld, h.code, h.nb, h.nm, h.ne, h.ok, h.dnb⟩
theorem MAt.to (h : MAt w0 w b mb f p g fs sz lv cd s n sv dn) (hx : Ext w w') : MAt w0 w' b mb f p g fs sz lv cd s n sv dn :=
  h.kept (hx.grownBy none) (by simp) (by simp) (h.ext.trans hx)
/-- The block alone was written. -/
theorem MAt.wrote (h : MAt w0 w b mb f p g fs sz lv cd s n sv dn) (hg : w.grownBy w' (some b)) {sv' : Value} {dn' : Int} (hb : BlkOf w' b (mcells f sz lv mb s' sv' dn') 122) (hm : s'.mem = s.mem) (hd : 0 ≤ dn' ∧ dn' ≤ 16384) (ho : Okm p s') : MAt w0 w' b mb f p g fs sz lv cd s' n sv' dn' :=
  ⟨hb, by rw [hm]; exact h.told.kept hg (fun e => h.ne (Option.some.inj e).symm), Turned.ext (c := mb) (Turned.one hg) h.ext h.nb h.nm, h.fld, h.code, h.nb, h.nm, h.ne, ho, hd⟩
set_option maxHeartbeats 1000000 in
theorem mown_any (h : MAt w0 w b mb f p g fs sz lv cd s n sv dn) (x : Int) : Calls Tryz.prog 162 #[.pointer (some ⟨b, 0, none⟩), .int .i64 x] w fun e w' => e = .returned (.int .i64 (fadd p s.fp x)) ∧ ∃ m, w' = w.drewN m := by
  have c0 : w.cell? ⟨b, 0, none⟩ = some f := h.blk.cell 0
  have c5 : w.cell? ⟨b, 5, none⟩ = some (.int .i64 s.fp) := h.blk.cell 5
  have HF := Lib.hid (h.fld.ext h.ext)
  clear h
  go_enter Tryz.func162, Tryz.ntmps162
  go_wp2_with fail
  go_quiet ((go_at_call 106; exact add_q HF.out _ _ _))
  go_wp2_with fail
  go_ret
  exact ⟨rfl, _, rfl⟩
theorem noted_ok (h : Okm p s) {i v : Int} (hl : lk s.mem i = some v) : Okm p (s.noted i v) :=
  ⟨h.pc, h.fp, h.ap, h.rv, h.mem, fun c hc => by
    simp only [Ms.noted, List.mem_append, List.mem_singleton] at hc
    rcases hc with hc | rfl
    · exact h.acc c hc
    · exact hl⟩
theorem MAt.note0 (h : MAt w0 w b mb f p g fs sz lv cd s n sv dn) {i v : Int} (hl : lk s.mem i = some v) (hg : w.grownBy w' (some b)) {cs : List Value} (hb : BlkOf w' b cs 122) (hcs : cs = mcells f sz lv mb (s.noted i v) sv dn) : MAt w0 w' b mb f p g fs sz lv cd (s.noted i v) n sv dn ∧ Turned b mb w w' :=
  ⟨h.wrote hg (by rw [← hcs]; exact hb) rfl h.dnb (noted_ok h.ok hl), Turned.one hg⟩
/-- What a call that notes leaves. -/
def NoteGot (w0 w : World) (b mb : Nat) (f : Value) (p g : Int) (fs : List Int) (sz : Int) (lv : Value) (cd : List In4) (s : Ms) (n : Int) (sv : Value) (dn : Int) (i v : Int) (e : Ending) (w' : World) : Prop :=
  e = .returned (.tuple #[]) ∧ MAt w0 w' b mb f p g fs sz lv cd (s.noted i v) n sv dn ∧ Turned b mb w w'
set_option maxHeartbeats 2000000 in
theorem mnote_any (h : MAt w0 w b mb f p g fs sz lv cd s n sv dn) {i v : Int} (h0 : 0 ≤ i) (h1 : i ≤ 2147483647) (hl : lk s.mem i = some v) (h2 : s.acc.length ≤ 2) : Calls Tryz.prog 185 #[.pointer (some ⟨b, 0, none⟩), .int .i64 i] w (NoteGot w0 w b mb f p g fs sz lv cd s n sv dn i v) := by
  have c3 : w.cell? ⟨b, 3, none⟩ = some (.map (some mb)) := h.blk.cell 3
  have c14 : w.cell? ⟨b, 14, none⟩ = some (.int .i64 s.acc.length) := h.blk.cell 14
  have d8 : w.cell? ⟨b, 8, none⟩ = some (.int .i64 (accA s.acc 0)) := h.blk.cell 8
  have d9 : w.cell? ⟨b, 9, none⟩ = some (.int .i64 (accA s.acc 1)) := h.blk.cell 9
  have d10 : w.cell? ⟨b, 10, none⟩ = some (.int .i64 (accA s.acc 2)) := h.blk.cell 10
  have d11 : w.cell? ⟨b, 11, none⟩ = some (.int .i64 (accI s.acc 0)) := h.blk.cell 11
  have d12 : w.cell? ⟨b, 12, none⟩ = some (.int .i64 (accI s.acc 1)) := h.blk.cell 12
  have d13 : w.cell? ⟨b, 13, none⟩ = some (.int .i64 (accI s.acc 2)) := h.blk.cell 13
  have f8 := h.blk.free 8
  have f9 := h.blk.free 9
  have f10 := h.blk.free 10
  have f11 := h.blk.free 11
  have f12 := h.blk.free 12
  have f13 := h.blk.free 13
  have f14 := h.blk.free 14
  have hlk : (Instr.lookup 120 (.map (some mb)) (.int .i64 i) false).run Tryz.prog w.drew = .ok (.int .i64 v) w.drew := (h.told.kept ((Ext.drew w).grownBy none) (by simp)).look Tryz.underlying3 Tryz.underlying120 zeroI h0 h1 hl
  have H := Lib.hid h; have HL := Lib.hid hl
  clear h hl
  rcases len_cases h2 with e | ⟨x, e⟩ | ⟨x, y, e⟩
  · rw [e] at c14
    have E := Lib.hid e; clear e h2
    replace c14 : w.cell? ⟨b, 14, none⟩ = some (.int .i64 0) := c14
    go_enter Tryz.func185, Tryz.ntmps185
    go_wp2_with fail
    go_region_held3 (fun w' => w'.cell? ⟨b, 14, none⟩ = some (.int .i64 0) ∧ w'.cell? ⟨b, 3, none⟩ = some (.map (some mb))) (first | exact ⟨c14, c3⟩ | exact ⟨(World.cell?_setCell_other _ _ _ _ (by simp)).trans c14, (World.cell?_setCell_other _ _ _ _ (by simp)).trans c3⟩ | exact ⟨(World.cell?_setCell_other _ _ _ _ (by simp)).trans ((World.cell?_setCell_other _ _ _ _ (by simp)).trans c14), (World.cell?_setCell_other _ _ _ _ (by simp)).trans ((World.cell?_setCell_other _ _ _ _ (by simp)).trans c3)⟩) (fail)
    go_wp2_with fail
    go_end0
    exact ⟨rfl, H.out.note0 HL.out (grown_ext (grown_one (grown_one (setCell_grown w b 8 (.int .i64 i)) (setCell_grown _ b 11 (.int .i64 v))) (setCell_grown _ b 14 (.int .i64 1))) (Ext.drew _)) (((H.out.blk.set 8 (.int .i64 i)).set 11 (.int .i64 v)).set 14 (.int .i64 1)) (by simp [mcells, Ms.noted, E.out, accA, accI])⟩
  · rw [e] at c14
    have E := Lib.hid e; clear e h2
    replace c14 : w.cell? ⟨b, 14, none⟩ = some (.int .i64 1) := c14
    go_enter Tryz.func185, Tryz.ntmps185
    go_wp2_with fail
    go_region_held3 (fun w' => w'.cell? ⟨b, 14, none⟩ = some (.int .i64 1) ∧ w'.cell? ⟨b, 3, none⟩ = some (.map (some mb))) (first | exact ⟨c14, c3⟩ | exact ⟨(World.cell?_setCell_other _ _ _ _ (by simp)).trans c14, (World.cell?_setCell_other _ _ _ _ (by simp)).trans c3⟩ | exact ⟨(World.cell?_setCell_other _ _ _ _ (by simp)).trans ((World.cell?_setCell_other _ _ _ _ (by simp)).trans c14), (World.cell?_setCell_other _ _ _ _ (by simp)).trans ((World.cell?_setCell_other _ _ _ _ (by simp)).trans c3)⟩) (fail)
    go_wp2_with fail
    go_end0
    exact ⟨rfl, H.out.note0 HL.out (grown_ext (grown_one (grown_one (setCell_grown w b 9 (.int .i64 i)) (setCell_grown _ b 12 (.int .i64 v))) (setCell_grown _ b 14 (.int .i64 2))) (Ext.drew _)) (((H.out.blk.set 9 (.int .i64 i)).set 12 (.int .i64 v)).set 14 (.int .i64 2)) (by simp [mcells, Ms.noted, E.out, accA, accI])⟩
  · rw [e] at c14
    have E := Lib.hid e; clear e h2
    replace c14 : w.cell? ⟨b, 14, none⟩ = some (.int .i64 2) := c14
    go_enter Tryz.func185, Tryz.ntmps185
    go_wp2_with fail
    go_region_held3 (fun w' => w'.cell? ⟨b, 14, none⟩ = some (.int .i64 2) ∧ w'.cell? ⟨b, 3, none⟩ = some (.map (some mb))) (first | exact ⟨c14, c3⟩ | exact ⟨(World.cell?_setCell_other _ _ _ _ (by simp)).trans c14, (World.cell?_setCell_other _ _ _ _ (by simp)).trans c3⟩ | exact ⟨(World.cell?_setCell_other _ _ _ _ (by simp)).trans ((World.cell?_setCell_other _ _ _ _ (by simp)).trans c14), (World.cell?_setCell_other _ _ _ _ (by simp)).trans ((World.cell?_setCell_other _ _ _ _ (by simp)).trans c3)⟩) (fail)
    go_wp2_with fail
    go_end0
    exact ⟨rfl, H.out.note0 HL.out (grown_ext (grown_one (grown_one (setCell_grown w b 10 (.int .i64 i)) (setCell_grown _ b 13 (.int .i64 v))) (setCell_grown _ b 14 (.int .i64 3))) (Ext.drew _)) (((H.out.blk.set 10 (.int .i64 i)).set 13 (.int .i64 v)).set 14 (.int .i64 3)) (by simp [mcells, Ms.noted, E.out, accA, accI])⟩
end
/-- A run is stopped. -/
def Stops (ty : TypeId) (w0 : World) (n : Int) (e : Ending) (w' : World) : Prop := e = .panicked [{ v := .iface ty (.agg #[.int .i64 n]), recovered := false }] ∧ Ext w0 w'
theorem must_no {w0 w : World} (hx : Ext w0 w) : Calls Tryz.prog 160 #[.bool false] w (Stops 164 w0 7) := by
  have HX := Lib.hid hx; clear hx
  go_enter Tryz.func160, Tryz.ntmps160
  go_wp2_with fail
  exact ⟨rfl, rfl, HX.out⟩
theorem must_yes (w : World) : Calls Tryz.prog 160 #[.bool true] w fun e w' => e = .returned (.tuple #[]) ∧ w = w' := by
  go_enter Tryz.func160, Tryz.ntmps160
  go_wp2_with fail
  go_end0
  exact ⟨rfl, rfl⟩
end Go.Proofs.YtainhfnanamobaaGreatDoor
