/- A region that draws its order: its operations have known values, and a chain of them turns the world stage by stage: a rule. No program in sight. Instructions: how a slice of them reads. The program's machine: what its block holds; a cell at an offset; must; note, look, tell. What a run tells, plain: its cells in order; the last step tells the outcome; bounds; greater limits. -/
import Derived.Test.YtgnomhbbbcfehaaGreatDoorEz
import Derived.Test.YtgnomhbbbcfehaaGreatDoorVc
import Derived.Test.YtgnomhbbbcfehaaGreatDoorProg
import Derived.StillTailTactics
import Derived.Test.YtgnomhbbbcfehaaGreatDoorZx12
import Derived.Test.YtgnomhbbbcfehaaGreatDoorZx1
import Derived.BigQuiet
import Derived.Deep.RegionHeld3
import Derived.Deep.DrawnRows
section
namespace Go.Att
open Go.RowKit
section
variable {P : Program} {l : List Oper}
def optG : Option Value → SG
  | none => SG.top
  | some v => SG.eq v
def optF (L : List (Option Value)) : List SG := L.map optG
theorem optF_free (L : List (Option Value)) (j : Nat) (u : Value) (W W' : World) (h : ((optF L).getD j SG.top).p u W) : ((optF L).getD j SG.top).p u W' := by
  unfold optF at h ⊢
  rw [List.getD_eq_getElem?_getD, List.getElem?_map] at h ⊢
  cases e : L[j]? with
  | none => trivial
  | some o =>
    rw [e] at h
    cases o with
    | none => trivial
    | some v => exact h
theorem optF_top (L : List (Option Value)) (j : Nat) (hj : L.getD j none = none) (u : Value) (W : World) : ((optF L).getD j SG.top).p u W := by
  unfold optF
  rw [List.getD_eq_getElem?_getD, List.getElem?_map]
  rw [List.getD_eq_getElem?_getD] at hj
  cases e : L[j]? with
  | none => trivial
  | some o =>
    rw [e] at hj
    have : o = none := hj
    subst this
    trivial
theorem ext_gn {w w' : World} (h : w.grownBy w' none) : Ext w w' := ⟨h.os, h.tape, h.output, h.size, fun k hk => h.block k hk (by simp)⟩
theorem wp_region_eqs {id : Nat} {Q : Exit → Act → World → Prop} {a : Act} {w : World} (n : Nat) (hn : l.length = n) (L : List (Option Value)) (C : List Nat) (Sta : Nat → World → Prop) (hm : P.follows .mixedOrders = true)
    (hB : (headOk l l.length && apartB l l.length && chainOkB l C && decide C.Nodup && (List.range l.length).all (fun i => (List.range l.length).all fun j => !hasDep l i j || C.contains j || ((l[j]?).bind (·.dst)).isSome)
      && (List.range l.length).all (fun i => match l[i]? with | none => true | some o => o.after.all fun e => !Region.binds .any e || decide (e.on < l.length))) = true)
    (hsz : (dstL l l.length).all (fun d => decide (d < a.tmps.size)) = true)
    (hC0 : C.all (fun j => ((l[j]?).bind (·.dst)).isSome || (L.getD j none).isNone) = true)
    (hSta : ∀ k W W', Sta k W → W.grownBy W' none → Sta k W') (h0 : Sta 0 w.drew)
    (hst : ChSteps P l n (optF L) (fun k _ W => Sta k W) (fun _ _ _ => True) C Q a n 0)
    (h : ∀ (vs : Nat → Value) (W : World), AllG l (optF L) vs W n → Sta C.length W → Q .normal (fillA (dstL l n) vs a) W) : (Code.region id l.toArray true).wp P Q a w := by
  refine wp_region_chain n hn (optF L) C (fun k _ W => Sta k W) (fun _ _ _ => True) hm hB hsz (fun j _ u W W' hu _ => optF_free L j u W W' hu) (fun j hj hd u W => optF_top L j ?_ u W) (fun k vs vs' W W' hs hg _ => hSta k W W' hs hg) h0 hst h
  have := List.all_eq_true.1 hC0 j (List.contains_iff_mem.1 hj)
  rw [hd] at this
  simpa using this
end
end Go.Att
end
section
/-! Instructions: how a slice of them reads. -/
namespace Go.Att
open Go.RowKit
def flatQ (l : List In4) : List Value := l.flatMap fun c => [.int .i64 c.op, .int .i64 c.a, .int .i64 c.b, .int .i64 c.c]
theorem flatQ_get (l : List In4) (i : Nat) (h : i < l.length) : (flatQ l)[i * 4]? = some (.int .i64 l[i].op) ∧ (flatQ l)[i * 4 + 1]? = some (.int .i64 l[i].a) ∧ (flatQ l)[i * 4 + 2]? = some (.int .i64 l[i].b) ∧ (flatQ l)[i * 4 + 3]? = some (.int .i64 l[i].c) := by
  induction l generalizing i with
  | nil => simp at h
  | cons c l ih =>
    cases i with
    | zero => simp [flatQ]
    | succ i =>
      have := ih i (by simpa using h)
      have e : (i + 1) * 4 = i * 4 + 4 := by omega
      simp only [flatQ, List.flatMap_cons, List.cons_append, List.nil_append, e] at *
      exact this
theorem nthI_eq {l : List In4} {i : Nat} (h : i < l.length) : nthI l i = l[i] := by simp [nthI, h]
def Inqs (w : World) (v : Value) (l : List In4) : Prop := Sl w 4 v l.length (flatQ l)
section
variable {P : Program} {w w' : World} {v : Value} {l : List In4}
theorem Inqs.ext (h : Inqs w v l) (hx : Ext w w') : Inqs w' v l := Sl.ext h hx
theorem Inqs.len (h : Inqs w v l) : l.length ≤ 9223372036854775807 := by have := Sl.len h; unfold maxLen at this; omega
theorem Inqs.run_len (h : Inqs w v l) {t e bytes : Nat} {z : Value} (ht : SlT P t e 4 bytes z) (ty : TypeId) (w' : World) :
    (Builtin.len_ #[t] ty #[v]).run P w' = .ok (.int .i64 l.length) w' := Sl.run_len h ht ty w'
theorem Inqs.run_index (h : Inqs w v l) {t e bytes : Nat} {z : Value} (ht : SlT P t e 4 bytes z) (i : Nat) (hi : i < l.length) (w' : World) :
    (Instr.indexAt t v (.int .i64 i)).run P w' = .ok (.pointer (some (elt v i 4))) w' := Sl.run_index h ht i (by omega) (by omega) w'
theorem Inqs.c0 (h : Inqs w v l) (i : Nat) (hi : i < l.length) : w.cell? (elt v i 4) = some (.int .i64 (nthI l i).op) := by
  have := Sl.cell h i 0 hi (by omega)
  simp only [Addr.add, if_true, Nat.add_zero] at this
  rw [this, (flatQ_get l i hi).1, nthI_eq hi]
theorem Inqs.c1 (h : Inqs w v l) (i : Nat) (hi : i < l.length) : w.cell? ⟨(elt v i 4).block, (elt v i 4).off + 1, none⟩ = some (.int .i64 (nthI l i).a) := by
  have := Sl.cell h i 1 hi (by omega)
  simp only [Addr.add] at this
  rw [if_neg (by omega)] at this
  rw [this, (flatQ_get l i hi).2.1, nthI_eq hi]
theorem Inqs.c2 (h : Inqs w v l) (i : Nat) (hi : i < l.length) : w.cell? ⟨(elt v i 4).block, (elt v i 4).off + 2, none⟩ = some (.int .i64 (nthI l i).b) := by
  have := Sl.cell h i 2 hi (by omega)
  simp only [Addr.add] at this
  rw [if_neg (by omega)] at this
  rw [this, (flatQ_get l i hi).2.2.1, nthI_eq hi]
theorem Inqs.c3 (h : Inqs w v l) (i : Nat) (hi : i < l.length) : w.cell? ⟨(elt v i 4).block, (elt v i 4).off + 3, none⟩ = some (.int .i64 (nthI l i).c) := by
  have := Sl.cell h i 3 hi (by omega)
  simp only [Addr.add] at this
  rw [if_neg (by omega)] at this
  rw [this, (flatQ_get l i hi).2.2.2, nthI_eq hi]
theorem Inqs.shape (h : Inqs w v l) : ∃ ao cap, v = .slice ao l.length cap := by
  obtain ⟨ao, cap, h1, _⟩ := h; exact ⟨ao, cap, h1⟩
end
end Go.Att
namespace Go.Proofs.YtgnomhbbbcfehaaGreatDoor
open Go.RowKit Go.Att
theorem slIns : SlT Tryz.prog 112 111 4 32 (.agg #[.int .i64 0, .int .i64 0, .int .i64 0, .int .i64 0]) := .mk' Tryz.underlying112 (by kernel_rfl) (by decide)
end Go.Proofs.YtgnomhbbbcfehaaGreatDoor
end
section
namespace Go.Att
open Go.RowKit Go.Maps
def accA (l : List (Int × Int)) (i : Nat) : Int := (l.getD i (0, 0)).1
def accI (l : List (Int × Int)) (i : Nat) : Int := (l.getD i (0, 0)).2
def mcells (f : Value) (sz : Int) (lv : Value) (mb : Nat) (s : Ms) (sv : Value) (dn : Int) : List Value :=
  [f, .int .i64 sz, lv, .map (some mb), .int .i64 s.pc, .int .i64 s.fp, .int .i64 s.ap, .int .i64 s.rv, .int .i64 (accA s.acc 0), .int .i64 (accA s.acc 1), .int .i64 (accA s.acc 2), .int .i64 (accI s.acc 0), .int .i64 (accI s.acc 1), .int .i64 (accI s.acc 2), .int .i64 s.acc.length, sv, .int .i64 dn]
def Ms.noted (s : Ms) (i v : Int) : Ms := { s with acc := s.acc ++ [(i, v)] }
theorem len_cases {l : List (Int × Int)} (h : l.length ≤ 2) : l = [] ∨ (∃ x, l = [x]) ∨ ∃ x y, l = [x, y] := by
  match l, h with
  | [], _ => exact .inl rfl
  | [x], _ => exact .inr (.inl ⟨x, rfl⟩)
  | [x, y], _ => exact .inr (.inr ⟨x, y, rfl⟩)
end Go.Att
namespace Go.Proofs.YtgnomhbbbcfehaaGreatDoor
open Go.RowKit Go.Att Go.Maps
attribute [local go_sem ↓] Go.wp_at_zero Go.wp_at_succ
structure MAt (w0 w : World) (b mb : Nat) (f : Value) (p g : Int) (fs : List Int) (sz : Int) (lv : Value) (cd : List In4) (s : Ms) (n : Int) (sv : Value) (dn : Int) : Prop where
  blk : BlkOf w b (mcells f sz lv mb s sv dn) 167
  told : Tmem Tryz.prog 3 w mb n s.mem
  ext : Ext w0 w
  fld : Fld w0 f p g fs
  code : Inqs w0 lv cd
  nb : w0.heap.size ≤ b
  nm : w0.heap.size ≤ mb
  ne : b ≠ mb
  ok : Okm p s
  dnb : 0 ≤ dn ∧ dn ≤ 16384
theorem zeroI (w : World) : (zeroValue 3).run Tryz.prog w = .ok (.int .i64 0) w := by kernel_rfl
section
variable {w0 w w' : World} {b mb : Nat} {f : Value} {p g : Int} {fs : List Int} {sz : Int} {lv : Value} {cd : List In4} {s s' : Ms} {n : Int} {sv : Value} {dn : Int}
theorem MAt.lt (h : MAt w0 w b mb f p g fs sz lv cd s n sv dn) : b < w.heap.size := h.blk.lt
theorem MAt.kept (h : MAt w0 w b mb f p g fs sz lv cd s n sv dn) {row : Option Nat} (hg : w.grownBy w' row) (h1 : some b ≠ row) (h2 : some mb ≠ row) (hx : Ext w0 w') : MAt w0 w' b mb f p g fs sz lv cd s n sv dn :=
  ⟨h.blk.grown hg h1, h.told.kept hg h2, hx, h.fld, h.code, h.nb, h.nm, h.ne, h.ok, h.dnb⟩
theorem MAt.to (h : MAt w0 w b mb f p g fs sz lv cd s n sv dn) (hx : Ext w w') : MAt w0 w' b mb f p g fs sz lv cd s n sv dn :=
  h.kept (hx.grownBy none) (by simp) (by simp) (h.ext.trans hx)
theorem MAt.wrote (h : MAt w0 w b mb f p g fs sz lv cd s n sv dn) (hg : w.grownBy w' (some b)) {sv' : Value} {dn' : Int} (hb : BlkOf w' b (mcells f sz lv mb s' sv' dn') 167) (hm : s'.mem = s.mem) (hd : 0 ≤ dn' ∧ dn' ≤ 16384) (ho : Okm p s') : MAt w0 w' b mb f p g fs sz lv cd s' n sv' dn' :=
  ⟨hb, by rw [hm]; exact h.told.kept hg (fun e => h.ne (Option.some.inj e).symm), Turned.ext (c := mb) (Turned.one hg) h.ext h.nb h.nm, h.fld, h.code, h.nb, h.nm, h.ne, ho, hd⟩
set_option maxHeartbeats 1000000 in
theorem mown_any (h : MAt w0 w b mb f p g fs sz lv cd s n sv dn) (x : Int) : Calls Tryz.prog 148 #[.pointer (some ⟨b, 0, none⟩), .int .i64 x] w fun e w' => e = .returned (.int .i64 (fadd p s.fp x)) ∧ ∃ m, w' = w.drewN m := by
  have c0 : w.cell? ⟨b, 0, none⟩ = some f := h.blk.cell 0
  have c5 : w.cell? ⟨b, 5, none⟩ = some (.int .i64 s.fp) := h.blk.cell 5
  have HF := Lib.hid (h.fld.ext h.ext)
  clear h
  go_enter Tryz.func148, Tryz.ntmps148
  go_wp2_with fail
  go_quiet ((go_at_call 136; exact add_q HF.out _ _ _))
  go_wp2_with fail
  go_ret
  exact ⟨rfl, _, rfl⟩
theorem noted_ok (h : Okm p s) {i v : Int} (hl : lk s.mem i = some v) : Okm p (s.noted i v) :=
  ⟨h.pc, h.fp, h.ap, h.rv, h.mem, fun c hc => by
    simp only [Ms.noted, List.mem_append, List.mem_singleton] at hc
    rcases hc with hc | rfl
    · exact h.acc c hc
    · exact hl⟩
theorem MAt.note0 (h : MAt w0 w b mb f p g fs sz lv cd s n sv dn) {i v : Int} (hl : lk s.mem i = some v) (hg : w.grownBy w' (some b)) {cs : List Value} (hb : BlkOf w' b cs 167) (hcs : cs = mcells f sz lv mb (s.noted i v) sv dn) : MAt w0 w' b mb f p g fs sz lv cd (s.noted i v) n sv dn ∧ Turned b mb w w' :=
  ⟨h.wrote hg (by rw [← hcs]; exact hb) rfl h.dnb (noted_ok h.ok hl), Turned.one hg⟩
def NoteGot (w0 w : World) (b mb : Nat) (f : Value) (p g : Int) (fs : List Int) (sz : Int) (lv : Value) (cd : List In4) (s : Ms) (n : Int) (sv : Value) (dn : Int) (i v : Int) (e : Ending) (w' : World) : Prop :=
  e = .returned (.tuple #[]) ∧ MAt w0 w' b mb f p g fs sz lv cd (s.noted i v) n sv dn ∧ Turned b mb w w'
set_option maxHeartbeats 2000000 in
theorem mnote_any (h : MAt w0 w b mb f p g fs sz lv cd s n sv dn) {i v : Int} (h0 : 0 ≤ i) (h1 : i ≤ 2147483647) (hl : lk s.mem i = some v) (h2 : s.acc.length ≤ 2) : Calls Tryz.prog 172 #[.pointer (some ⟨b, 0, none⟩), .int .i64 i] w (NoteGot w0 w b mb f p g fs sz lv cd s n sv dn i v) := by
  have c3 : w.cell? ⟨b, 3, none⟩ = some (.map (some mb)) := h.blk.cell 3
  have c14 : w.cell? ⟨b, 14, none⟩ = some (.int .i64 s.acc.length) := h.blk.cell 14
  have d8 : w.cell? ⟨b, 8, none⟩ = some (.int .i64 (accA s.acc 0)) := h.blk.cell 8
  have d9 : w.cell? ⟨b, 9, none⟩ = some (.int .i64 (accA s.acc 1)) := h.blk.cell 9
  have d10 : w.cell? ⟨b, 10, none⟩ = some (.int .i64 (accA s.acc 2)) := h.blk.cell 10
  have d11 : w.cell? ⟨b, 11, none⟩ = some (.int .i64 (accI s.acc 0)) := h.blk.cell 11
  have d12 : w.cell? ⟨b, 12, none⟩ = some (.int .i64 (accI s.acc 1)) := h.blk.cell 12
  have d13 : w.cell? ⟨b, 13, none⟩ = some (.int .i64 (accI s.acc 2)) := h.blk.cell 13
  have f8 := h.blk.free 8
  have f9 := h.blk.free 9
  have f10 := h.blk.free 10
  have f11 := h.blk.free 11
  have f12 := h.blk.free 12
  have f13 := h.blk.free 13
  have f14 := h.blk.free 14
  have hlk : (Instr.lookup 163 (.map (some mb)) (.int .i64 i) false).run Tryz.prog w.drew = .ok (.int .i64 v) w.drew := (h.told.kept ((Ext.drew w).grownBy none) (by simp)).look Tryz.underlying3 Tryz.underlying163 zeroI h0 h1 hl
  have H := Lib.hid h; have HL := Lib.hid hl
  clear h hl
  rcases len_cases h2 with e | ⟨x, e⟩ | ⟨x, y, e⟩
  · rw [e] at c14
    have E := Lib.hid e; clear e h2
    replace c14 : w.cell? ⟨b, 14, none⟩ = some (.int .i64 0) := c14
    go_enter Tryz.func172, Tryz.ntmps172
    go_wp2_with fail
    go_region_held3 (fun w' => w'.cell? ⟨b, 14, none⟩ = some (.int .i64 0) ∧ w'.cell? ⟨b, 3, none⟩ = some (.map (some mb))) (first | exact ⟨c14, c3⟩ | exact ⟨(World.cell?_setCell_other _ _ _ _ (by simp)).trans c14, (World.cell?_setCell_other _ _ _ _ (by simp)).trans c3⟩ | exact ⟨(World.cell?_setCell_other _ _ _ _ (by simp)).trans ((World.cell?_setCell_other _ _ _ _ (by simp)).trans c14), (World.cell?_setCell_other _ _ _ _ (by simp)).trans ((World.cell?_setCell_other _ _ _ _ (by simp)).trans c3)⟩) (fail)
    go_wp2_with fail
    go_end0
    exact ⟨rfl, H.out.note0 HL.out (grown_ext (grown_one (grown_one (setCell_grown w b 8 (.int .i64 i)) (setCell_grown _ b 11 (.int .i64 v))) (setCell_grown _ b 14 (.int .i64 1))) (Ext.drew _)) (((H.out.blk.set 8 (.int .i64 i)).set 11 (.int .i64 v)).set 14 (.int .i64 1)) (by simp [mcells, Ms.noted, E.out, accA, accI])⟩
  · rw [e] at c14
    have E := Lib.hid e; clear e h2
    replace c14 : w.cell? ⟨b, 14, none⟩ = some (.int .i64 1) := c14
    go_enter Tryz.func172, Tryz.ntmps172
    go_wp2_with fail
    go_region_held3 (fun w' => w'.cell? ⟨b, 14, none⟩ = some (.int .i64 1) ∧ w'.cell? ⟨b, 3, none⟩ = some (.map (some mb))) (first | exact ⟨c14, c3⟩ | exact ⟨(World.cell?_setCell_other _ _ _ _ (by simp)).trans c14, (World.cell?_setCell_other _ _ _ _ (by simp)).trans c3⟩ | exact ⟨(World.cell?_setCell_other _ _ _ _ (by simp)).trans ((World.cell?_setCell_other _ _ _ _ (by simp)).trans c14), (World.cell?_setCell_other _ _ _ _ (by simp)).trans ((World.cell?_setCell_other _ _ _ _ (by simp)).trans c3)⟩) (fail)
    go_wp2_with fail
    go_end0
    exact ⟨rfl, H.out.note0 HL.out (grown_ext (grown_one (grown_one (setCell_grown w b 9 (.int .i64 i)) (setCell_grown _ b 12 (.int .i64 v))) (setCell_grown _ b 14 (.int .i64 2))) (Ext.drew _)) (((H.out.blk.set 9 (.int .i64 i)).set 12 (.int .i64 v)).set 14 (.int .i64 2)) (by simp [mcells, Ms.noted, E.out, accA, accI])⟩
  · rw [e] at c14
    have E := Lib.hid e; clear e h2
    replace c14 : w.cell? ⟨b, 14, none⟩ = some (.int .i64 2) := c14
    go_enter Tryz.func172, Tryz.ntmps172
    go_wp2_with fail
    go_region_held3 (fun w' => w'.cell? ⟨b, 14, none⟩ = some (.int .i64 2) ∧ w'.cell? ⟨b, 3, none⟩ = some (.map (some mb))) (first | exact ⟨c14, c3⟩ | exact ⟨(World.cell?_setCell_other _ _ _ _ (by simp)).trans c14, (World.cell?_setCell_other _ _ _ _ (by simp)).trans c3⟩ | exact ⟨(World.cell?_setCell_other _ _ _ _ (by simp)).trans ((World.cell?_setCell_other _ _ _ _ (by simp)).trans c14), (World.cell?_setCell_other _ _ _ _ (by simp)).trans ((World.cell?_setCell_other _ _ _ _ (by simp)).trans c3)⟩) (fail)
    go_wp2_with fail
    go_end0
    exact ⟨rfl, H.out.note0 HL.out (grown_ext (grown_one (grown_one (setCell_grown w b 10 (.int .i64 i)) (setCell_grown _ b 13 (.int .i64 v))) (setCell_grown _ b 14 (.int .i64 3))) (Ext.drew _)) (((H.out.blk.set 10 (.int .i64 i)).set 13 (.int .i64 v)).set 14 (.int .i64 3)) (by simp [mcells, Ms.noted, E.out, accA, accI])⟩
end
def Stops (ty : TypeId) (w0 : World) (n : Int) (e : Ending) (w' : World) : Prop := e = .panicked [{ v := .iface ty (.agg #[.int .i64 n]), recovered := false }] ∧ Ext w0 w'
theorem must_no {w0 w : World} (hx : Ext w0 w) : Calls Tryz.prog 146 #[.bool false] w (Stops 192 w0 7) := by
  have HX := Lib.hid hx; clear hx
  go_enter Tryz.func146, Tryz.ntmps146
  go_wp2_with fail
  exact ⟨rfl, rfl, HX.out⟩
theorem must_yes (w : World) : Calls Tryz.prog 146 #[.bool true] w fun e w' => e = .returned (.tuple #[]) ∧ w = w' := by
  go_enter Tryz.func146, Tryz.ntmps146
  go_wp2_with fail
  go_end0
  exact ⟨rfl, rfl⟩
end Go.Proofs.YtgnomhbbbcfehaaGreatDoor
end
section
namespace Go.Att
structure CellsOf (mem l : List (Int × Int)) : Prop where
  inc : l.Pairwise (fun x y => x.1 < y.1)
  iff : ∀ c, c ∈ l ↔ c ∈ mem ∧ 0 < c.1
theorem inc_ext : ∀ (a b : List (Int × Int)), a.Pairwise (fun x y => x.1 < y.1) → b.Pairwise (fun x y => x.1 < y.1) → (∀ c, c ∈ a ↔ c ∈ b) → a = b
  | [], [], _, _, _ => rfl
  | [], y :: b, _, _, h => by have := (h y).2 (by simp); simp at this
  | x :: a, [], _, _, h => by have := (h x).1 (by simp); simp at this
  | x :: a, y :: b, ha, hb, h => by
    rw [List.pairwise_cons] at ha hb
    have hxy : x = y := by
      have h1 := (h x).1 (by simp)
      have h2 := (h y).2 (by simp)
      rw [List.mem_cons] at h1 h2
      rcases h1 with h1 | h1
      · exact h1
      · rcases h2 with h2 | h2
        · exact h2.symm
        · have := hb.1 x h1
          have := ha.1 y h2
          omega
    subst hxy
    rw [inc_ext a b ha.2 hb.2 (fun c => ?_)]
    constructor
    · intro hc
      have h1 := (h c).1 (by simp [hc])
      rw [List.mem_cons] at h1
      rcases h1 with rfl | h1
      · have := ha.1 c hc; omega
      · exact h1
    · intro hc
      have h1 := (h c).2 (by simp [hc])
      rw [List.mem_cons] at h1
      rcases h1 with rfl | h1
      · have := hb.1 c hc; omega
      · exact h1
theorem CellsOf.one {mem a b : List (Int × Int)} (h : CellsOf mem a) (k : CellsOf mem b) : a = b :=
  inc_ext a b h.inc k.inc (fun c => (h.iff c).trans (k.iff c).symm)
def Uq (mem : List (Int × Int)) : Prop := ∀ c ∈ mem, lk mem c.1 = some c.2
theorem Uq.one {mem : List (Int × Int)} (h : Uq mem) {c d : Int × Int} (hc : c ∈ mem) (hd : d ∈ mem) (e : c.1 = d.1) : c = d := by
  have h1 := h c hc
  have h2 := h d hd
  rw [e, h2] at h1
  injection h1 with h1
  exact Prod.ext e h1.symm
theorem Uq.told {mem : List (Int × Int)} (h : Uq mem) {i v : Int} (hl : lk mem i = none) : Uq (mem ++ [(i, v)]) := by
  intro c hc
  rw [List.mem_append, List.mem_singleton] at hc
  rcases hc with hc | rfl
  · exact lk_keep (h c hc)
  · exact lk_new hl
theorem uq_start : Uq [(0, 0)] := by
  intro c hc
  rw [List.mem_singleton] at hc
  subst hc; rfl
def PM (r : Rs) : Prop := ∀ v s, r = .go v s → Uq s.mem
theorem pm_no {k : Int} : PM (.no k) := fun _ _ e => by cases e
theorem pm_go {v : Int} {s : Ms} (h : Uq s.mem) : PM (.go v s) := by
  intro u t e
  injection e with _ e
  rw [← e]; exact h
theorem pm_look {s : Ms} (h : Uq s.mem) (i : Int) : PM (s.look i) := by
  unfold Ms.look
  split
  · exact pm_no
  · exact pm_go h
theorem pm_tell {s : Ms} (h : Uq s.mem) (i x : Int) : PM (s.tell i x) := by
  unfold Ms.tell
  split
  · split
    · exact pm_go h
    · exact pm_no
  · rename_i hl
    exact pm_go (h.told hl)
theorem pm_bind {r : Rs} {f : Int → Ms → Rs} (h : PM r) (h2 : ∀ v s, Uq s.mem → PM (f v s)) : PM (r.bind f) := by
  cases r with
  | go v s => exact h2 v s (h v s rfl)
  | no e => exact pm_no
theorem pm_one (p : Int) (s : Ms) (x : In4) (h : Uq s.mem) : PM (s.one p x) := by
  unfold Ms.one
  have hto : ∀ n u t, Uq t.mem → PM (Ms.to n u t) := fun _ _ _ h => pm_go h
  split
  · refine pm_bind ?_ (fun _ _ h => hto _ _ _ h)
    unfold Ms.comp
    refine pm_bind (pm_look h _) (fun u t h => pm_bind (pm_look h _) (fun v t2 h => ?_))
    split
    · exact pm_no
    · exact pm_tell h _ _
  split
  · exact pm_bind (pm_tell h _ _) (fun _ _ h => hto _ _ _ h)
  split
  · refine pm_bind (pm_look h _) (fun u t h => pm_bind (pm_look h _) (fun v t2 h => ?_))
    split
    · exact hto _ _ _ h
    · exact pm_no
  split
  · exact hto _ _ _ h
  split
  · exact pm_bind (pm_look h _) (fun _ _ h => hto _ _ _ h)
  split
  · exact pm_bind (pm_tell h _ _) (fun _ _ h => pm_bind (pm_tell h _ _) (fun _ _ h => pm_go h))
  split
  · exact pm_bind (pm_look h _) (fun _ _ h => pm_bind (pm_look h _) (fun _ _ h => pm_bind (pm_look h _) (fun _ _ h => pm_go h)))
  split
  · exact pm_bind (pm_tell h _ _) (fun _ _ h => hto _ _ _ h)
  split
  · exact pm_bind (pm_look h _) (fun _ _ h => pm_bind (pm_tell h _ _) (fun _ _ h => hto _ _ _ h))
  exact pm_no
structure Ended (p : Int) (l0 : List Stp) (n m : Nat) (l : List Stp) (out : Int) (mem : List (Int × Int)) : Prop where
  size : mem.length ≤ m + 3 * n
  bd : ∀ c ∈ mem, (0 ≤ c.1 ∧ c.1 < p) ∧ (0 ≤ c.2 ∧ c.2 < p)
  uq : Uq mem
  last : ∃ l' t, l = l' ++ [t] ∧ accI t.acc 0 = out ∧ l0.length ≤ l'.length ∧ l'.length ≤ l0.length + n
theorem halt_ended {p : Int} {L l : List Stp} {s : Ms} {i out : Int} {mem : List (Int × Int)} {n : Nat} (h : Okm p s) (hu : Uq s.mem) (hr : (match s.blank.look i with
        | .no e => Rw.no e
        | .go v s' => .done (L ++ [s.note s'.acc]) v s'.mem) = .done l out mem) : Ended p L n s.mem.length l out mem := by
  cases hl : s.blank.look i with
  | no e => rw [hl] at hr; cases hr
  | go v s' =>
    rw [hl] at hr
    simp only [Rw.done.injEq] at hr
    obtain ⟨rfl, rfl, rfl⟩ := hr
    obtain ⟨h1, h2, rfl⟩ := look_ok (blank_ok h) hl
    exact ⟨by simp [Ms.blank], h1.mem, hu, L, _, rfl, by simp [Ms.note, Ms.blank, accI], Nat.le_refl _, by omega⟩
theorem runM_ended {p : Int} (hp : 2 ≤ p) (cd : List In4) : ∀ (n : Nat) (L : List Stp) (s : Ms) (l : List Stp) (out : Int) (mem : List (Int × Int)), Okm p s → Uq s.mem → runM p cd n L s = .done l out mem → Ended p L n s.mem.length l out mem := by
  intro n
  induction n with
  | zero =>
    intro L s l out mem h hu hr
    unfold runM at hr
    split at hr
    · cases hr
    split at hr
    · exact halt_ended h hu hr
    · cases hr
  | succ n ih =>
    intro L s l out mem h hu hr
    unfold runM at hr
    split at hr
    · cases hr
    split at hr
    · exact halt_ended h hu hr
    · split at hr
      · cases hr
      · rename_i v s' he
        have ha := one_aft hp (blank_ok h) he
        have hq := pm_one p s.blank _ hu _ _ he
        obtain ⟨k1, k2, k3, l', t, k4, k5, k6, k7⟩ := ih _ _ _ _ _ ha.ok hq hr
        have hsz := ha.size
        have hb : s.blank.mem.length = s.mem.length := rfl
        refine ⟨by omega, k2, k3, l', t, k4, k5, ?_, ?_⟩
        · simp at k6; omega
        · simp at k7; omega
theorem walkM_ended {p sz lim : Int} {cd : List In4} {l : List Stp} {out : Int} {mem : List (Int × Int)} (hp : 2 ≤ p) (h : walkM p sz cd lim = .done l out mem) : Ended p [] lim.toNat 1 l out mem ∧ 0 ≤ lim ∧ lim ≤ 16384 := by
  unfold walkM at h
  split at h
  · rename_i hf
    refine ⟨runM_ended hp cd _ _ _ _ _ _ (start_ok hp) uq_start h, ?_⟩
    unfold faultM at hf
    split at hf
    · cases hf
    · split at hf
      · cases hf
      · omega
  · cases h
structure UpTo (mem L : List (Int × Int)) (low : Int) : Prop where
  inc : L.Pairwise (fun x y => x.1 < y.1)
  iff : ∀ c, c ∈ L ↔ c ∈ mem ∧ 0 < c.1 ∧ c.1 ≤ low
theorem UpTo.start (mem : List (Int × Int)) : UpTo mem [] 0 := ⟨.nil, fun c => by simp⟩
theorem UpTo.step {mem L : List (Int × Int)} {low : Int} (h : UpTo mem L low) (hu : Uq mem) (h0 : 0 ≤ low) {c : Int × Int} (hc : c ∈ mem) (hl : low < c.1) (hb : ∀ d ∈ mem, low < d.1 → c.1 ≤ d.1) : UpTo mem (L ++ [c]) c.1 := by
  refine ⟨?_, fun d => ?_⟩
  · rw [List.pairwise_append]
    refine ⟨h.inc, by simp, fun a ha b hb' => ?_⟩
    rw [List.mem_singleton] at hb'
    subst hb'
    have := (h.iff a).1 ha
    omega
  · rw [List.mem_append, List.mem_singleton, h.iff]
    constructor
    · rintro (h1 | rfl)
      · exact ⟨h1.1, h1.2.1, by omega⟩
      · exact ⟨hc, by omega, by omega⟩
    · rintro ⟨h1, h2, h3⟩
      by_cases h4 : d.1 ≤ low
      · exact .inl ⟨h1, h2, h4⟩
      · have := hb d h1 (by omega)
        exact .inr (hu.one h1 hc (by omega))
theorem UpTo.end {mem L : List (Int × Int)} {low : Int} (h : UpTo mem L low) (hn : ∀ d ∈ mem, d.1 ≤ low) : CellsOf mem L :=
  ⟨h.inc, fun c => (h.iff c).trans ⟨fun k => ⟨k.1, k.2.1⟩, fun k => ⟨k.1, k.2, hn c k.1⟩⟩⟩
theorem UpTo.len {mem L : List (Int × Int)} {low : Int} (h : UpTo mem L low) : L.length ≤ mem.length := by
  have hn : L.Nodup := by
    refine List.Pairwise.imp ?_ h.inc
    intro a b hab e; subst e; omega
  have hsub : ∀ c ∈ L, c ∈ mem := fun c hc => ((h.iff c).1 hc).1
  clear h
  induction L generalizing mem with
  | nil => simp
  | cons c t ih =>
    rw [List.nodup_cons] at hn
    have hc := hsub c (by simp)
    have := ih (mem := mem.erase c) hn.2 (fun d hd => (List.mem_erase_of_ne (fun e => hn.1 (by rw [← e]; exact hd))).2 (hsub d (by simp [hd])))
    rw [List.length_erase_of_mem hc] at this
    have := List.length_pos_of_mem hc
    simp; omega
end Go.Att
end
