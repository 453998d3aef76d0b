/- The program's machine: a stop that is caught. RulesBroken: a list of numbers of the call's own that grows; the program's order of two pairs; the function value of a cell. -/
import Derived.Test.YtnmjaddhbecopaaGreatDoorM8
import Derived.Defers
import Derived.Recover
import Derived.Test.YtnmjaddhbecopaaGreatDoorKp
import Derived.Test.YtnmjaddhbecopaaGreatDoorQt
import Derived.Deep.AppendLies
section
namespace Go.Att
open Go.RowKit
/-- What the deferred call leaves of a stop. -/
def StopCaught (ts te tp ti tr : TypeId) (w : World) (k : Int) (r1 r2 r3 : Nat) (older : List PanicEntry) (e : Ending) (u' : FrameMode) (w' : World) : Prop :=
  e = .returned (.tuple #[]) ∧ u' = .panicking ({ v := .iface ts (.agg #[.int .i64 k]), recovered := true } :: older) ∧ BlkOf w' r1 [.pointer none] tp ∧ BlkOf w' r2 [.int .i64 0] ti ∧ BlkOf w' r3 [.iface te (.int .i64 k)] tr ∧ ∀ w0, Ext w0 w → w0.heap.size ≤ r1 → w0.heap.size ≤ r2 → w0.heap.size ≤ r3 → Ext w0 w'
end Go.Att
namespace Go.Proofs.YtnmjaddhbecopaaGreatDoor
open Go.RowKit Go.Att Go.Maps
attribute [local go_sem ↓] Go.wp_at_zero Go.wp_at_succ
theorem rep15 : Array.replicate 15 undef = #[undef, undef, undef, undef, undef, undef, undef, undef, undef, undef, undef, undef, undef, undef, undef] := rfl
theorem rep12m : Array.replicate 12 undef = #[undef, undef, undef, undef, undef, undef, undef, undef, undef, undef, undef, undef] := rfl
set_option maxRecDepth 100000 in
set_option maxHeartbeats 1000000 in
theorem mcatch_idle (p q r : Value) (w : World) :
    CallsD Tryz.prog 197 #[p, q, r] .returning w fun e u' w' => e = .returned (.tuple #[]) ∧ u' = .returning ∧ w = w' := by
  refine callsD_of_wpS Tryz.func197 rfl fun c₀ cs hu => ?_
  apply wpS_seq
  apply wpS_region
  simp [wpOpsS, go_sem, recoverD, hu, Tryz.ntmps197, Exit.thenS, rep12m]
  refine wpS_of_wp ?_
  go_wp2_with fail
  cases c₀ with
  | mk a1 a2 a3 a4 a5 a6 a7 =>
  have hu' : a5 = .returning := hu
  subst hu'
  refine ⟨rfl, .returning, rfl, .tuple #[], ?_, rfl, rfl, rfl⟩
  simp [results, Tryz.results197]
set_option maxRecDepth 100000 in
set_option maxHeartbeats 1000000 in
theorem mcatch_stops (r1 r2 r3 : Nat) (k : Int) (older : List PanicEntry) (w : World) {v1 v2 v3 : Value} (h1 : BlkOf w r1 [v1] 184) (h2 : BlkOf w r2 [v2] 3) (h3 : BlkOf w r3 [v3] 31) (n1 : r1 ≠ r2) (n2 : r1 ≠ r3) (n3 : r2 ≠ r3) :
    CallsD Tryz.prog 197 #[.pointer (some ⟨r1, 0, none⟩), .pointer (some ⟨r2, 0, none⟩), .pointer (some ⟨r3, 0, none⟩)] (.panicking ({ v := .iface 256 (.agg #[.int .i64 k]), recovered := false } :: older)) w (StopCaught 256 112 184 3 31 w k r1 r2 r3 older) := by
  have hta : ∀ w, (Instr.typeAssert (.iface 256 (.agg #[.int .i64 k])) 20 256 true).run Tryz.prog w = .ok (.tuple #[.agg #[.int .i64 k], .bool true]) w := fun _ => by kernel_rfl
  have hx := Ext.alloc w (Obj.cells #[.int .i64 k] 256)
  have hz := h1.ext hx
  have c1 : (w.alloc (Obj.cells #[.int .i64 k] 256)).cell? ⟨r1, 0, none⟩ = some v1 := (h1.ext hx).cell 0
  have c2 : (w.alloc (Obj.cells #[.int .i64 k] 256)).cell? ⟨r2, 0, none⟩ = some v2 := (h2.ext hx).cell 0
  have c3 : (w.alloc (Obj.cells #[.int .i64 k] 256)).cell? ⟨r3, 0, none⟩ = some v3 := (h3.ext hx).cell 0
  have f1 := (h1.ext hx).free 0
  have f2 := (h2.ext hx).free 0
  have f3 := (h3.ext hx).free 0
  have m1 := h1.lt; have m2 := h2.lt; have m3 := h3.lt
  have HX := Lib.hid hx; have HA := Lib.hid h1; have HB := Lib.hid h2; have HC := Lib.hid h3
  clear hx h1 h2 h3 hz
  refine callsD_of_wpS Tryz.func197 rfl fun c₀ cs hu => ?_
  apply wpS_seq
  apply wpS_region
  simp [wpOpsS, go_sem, recoverD, hu, Tryz.ntmps197, Exit.thenS, rep12m]
  refine wpS_of_wp ?_
  go_wp2_with fail
  have s0 : (w.alloc (Obj.cells #[.int .i64 k] 256)).cell? ⟨w.heap.size, 0, none⟩ = some (.int .i64 k) := (BlkOf.new w [.int .i64 k] 256).cell 0
  have g1 : w.heap.size ≠ r1 := by omega
  have g2 : w.heap.size ≠ r2 := by omega
  have g3 : w.heap.size ≠ r3 := by omega
  replace HA := Lib.hid (HA.out.ext HX.out); replace HB := Lib.hid (HB.out.ext HX.out); replace HC := Lib.hid (HC.out.ext HX.out)
  clear m1 m2 m3 hta
  generalize w.alloc (Obj.cells #[.int .i64 k] 256) = W at *
  generalize w.heap.size = sb at *
  have k1 := g1.symm
  have k2 := g2.symm
  have k3 := g3.symm
  go_region_held3 (fun w' => w'.cell? ⟨sb, 0, none⟩ = some (.int .i64 k)) (first | exact s0 | exact (World.cell?_setCell_other _ _ _ _ (by simp)).trans s0 | exact (World.cell?_setCell_other _ _ _ _ (by simp)).trans ((World.cell?_setCell_other _ _ _ _ (by simp)).trans s0) | exact (World.cell?_setCell_other _ _ _ _ (by simp)).trans ((World.cell?_setCell_other _ _ _ _ (by simp)).trans ((World.cell?_setCell_other _ _ _ _ (by simp)).trans s0))) (fail)
  rename_i hHeld; clear hHeld
  go_wp2_with fail
  have G1 := setCell_grown W r1 0 (.pointer none)
  have G2 := setCell_grown (W.setCell ⟨r1, 0, none⟩ (.pointer none)) r2 0 (.int .i64 0)
  have G3 := setCell_grown ((W.setCell ⟨r1, 0, none⟩ (.pointer none)).setCell ⟨r2, 0, none⟩ (.int .i64 0)) r3 0 (.iface 112 (.int .i64 k))
  have X4 := Ext.drew (((W.setCell ⟨r1, 0, none⟩ (.pointer none)).setCell ⟨r2, 0, none⟩ (.int .i64 0)).setCell ⟨r3, 0, none⟩ (.iface 112 (.int .i64 k)))
  have B1 : BlkOf (((W.setCell ⟨r1, 0, none⟩ (.pointer none)).setCell ⟨r2, 0, none⟩ (.int .i64 0)).setCell ⟨r3, 0, none⟩ (.iface 112 (.int .i64 k))).drew r1 [.pointer none] 184 := (((HA.out.set 0 (.pointer none)).grown G2 (fun e => n1 (Option.some.inj e))).grown G3 (fun e => n2 (Option.some.inj e))).ext X4
  have B2 : BlkOf (((W.setCell ⟨r1, 0, none⟩ (.pointer none)).setCell ⟨r2, 0, none⟩ (.int .i64 0)).setCell ⟨r3, 0, none⟩ (.iface 112 (.int .i64 k))).drew r2 [.int .i64 0] 3 := (((HB.out.grown G1 (fun e => n1 (Option.some.inj e).symm)).set 0 (.int .i64 0)).grown G3 (fun e => n3 (Option.some.inj e))).ext X4
  have B3 : BlkOf (((W.setCell ⟨r1, 0, none⟩ (.pointer none)).setCell ⟨r2, 0, none⟩ (.int .i64 0)).setCell ⟨r3, 0, none⟩ (.iface 112 (.int .i64 k))).drew r3 [.iface 112 (.int .i64 k)] 31 := (((HC.out.grown G1 (fun e => n2 (Option.some.inj e).symm)).grown G2 (fun e => n3 (Option.some.inj e).symm)).set 0 (.iface 112 (.int .i64 k))).ext X4
  refine ⟨rfl, _, rfl, .tuple #[], ?_, rfl, rfl, B1, B2, B3, ?_⟩
  · simp [results, Tryz.results197]
  · intro w0 hx h1 h2 h3
    exact Ext.trans (Below.setCell (Below.setCell (Below.setCell (hx.trans HX.out) h1 _) h2 _) h3 _) X4
end Go.Proofs.YtnmjaddhbecopaaGreatDoor
end
section
namespace Go.Att
open Go.RowKit
/-- A list of numbers of the call's own, made behind W0. -/
def OwnL (W0 : World) (e : TypeId) (w : World) (v : Value) (l : List Int) : Prop := w.ownsRow W0.heap.size e 1 v l.length (l.map (Value.int .i64))
theorem OwnL.ext {W0 w w' : World} {e : TypeId} {v : Value} {l : List Int} (h : OwnL W0 e w v l) (hx : Ext w w') : OwnL W0 e w' v l := own_ext h hx
theorem OwnL.ints {W0 w : World} {e : TypeId} {v : Value} {l : List Int} (h : OwnL W0 e w v l) : Ints w v l := Ints.of_own h
theorem OwnL.nil (W0 w : World) (e : TypeId) : OwnL W0 e w (.slice none 0 0) [] := ⟨rfl, .inl ⟨rfl, rfl⟩⟩
section
variable {P : Program} {o : Oper} {a : Act} {Q : Exit → Act → World → Prop} {w : World}
/-- 'append(s, x, ..)' onto it, x .. just boxed. -/
theorem wp_grow {K : Act → World → Prop} (s x : Operand) (t : TypeId) (ho : o.op = .call { callee := .builtin .append, args := #[s, x], argTypes := #[t, t] })
    {e : TypeId} (ht : SlT P t e 1 8 (.int .i64 0)) {W0 : World} (hX : Ext W0 w) {v : Value} {l : List Int} (hO : OwnL W0 e w v l) (hs : a.eval s = v) (news : List Int) (m : Nat) (hm : news.length = m) (h0 : 0 < m)
    (hx : a.eval x = .slice (some ⟨w.heap.size, 0, none⟩) m m) (hb : l.length + m ≤ 4294967296)
    (h : ∀ v' w', OwnL W0 e w' v' (l ++ news) → Ext W0 w' → K (a.put o.dst v') w') : o.wp P a (w.alloc (.cells (news.map (Value.int .i64)).toArray e)) K Q := by
  obtain ⟨i, hi, hiz, his, hib⟩ := ht.inf
  have hO' : (w.alloc (.cells (news.map (Value.int .i64)).toArray e)).ownsRow W0.heap.size e 1 v l.length (l.map (Value.int .i64)) := hO.alloc _
  refine wp_append_lies _ s x t ho W0.heap.size e i _ 1 8 ht.und hi hiz his hib rfl (by omega) v _ _ hs hO' ⟨w.heap.size, 0, none⟩ m m (news.map (Value.int .i64)) hx (by simp [hm]) ?_ ?_ h0 (by unfold maxLen; omega) (by omega) (by have := hX.size; simp; omega) _ rfl ?_
  · have := World.news_of_block (cs := (news.map (Value.int .i64)).toArray) (t := e) (fr := (0, 0)) (heap_alloc_new w _)
    simpa using this
  · intro u hu; simp only [List.mem_map] at hu; obtain ⟨y, _, rfl⟩ := hu; rfl
  · intro g cap w' k1 k2 _ _
    refine h _ w' ?_ ?_
    · unfold OwnL
      rw [List.length_append, hm, List.map_append]; exact k1
    · exact Ext.own_grown (hX.trans (Ext.alloc _ _)) hO' k2
theorem step_grow {ops : Array Oper} {K : Act → World → Prop} {E : Prop} (hgd : o.guard = none) (s x : Operand) (t : TypeId) (ho : o.op = .call { callee := .builtin .append, args := #[s, x], argTypes := #[t, t] })
    {e : TypeId} (ht : SlT P t e 1 8 (.int .i64 0)) {W0 : World} (hX : Ext W0 w) {v : Value} {l : List Int} (hO : OwnL W0 e w v l) (hs : a.eval s = v) (news : List Int) (m : Nat) (hm : news.length = m) (h0 : 0 < m)
    (hx : a.eval x = .slice (some ⟨w.heap.size, 0, none⟩) m m) (hb : l.length + m ≤ 4294967296)
    (h : ∀ v' w', OwnL W0 e w' v' (l ++ news) → Ext W0 w' → K (a.put o.dst v') w') : if Region.wanted o (yielded ops a.tmps) = true then Oper.wp P o a (w.alloc (.cells (news.map (Value.int .i64)).toArray e)) K Q else E := by
  have hw : Region.wanted o (yielded ops a.tmps) = true := by simp [Region.wanted, hgd]
  rw [if_pos hw]
  exact wp_grow s x t ho ht hX hO hs news m hm h0 hx hb h
theorem wpList_grow {ops : Array Oper} {rest : List Oper} (hgd : o.guard = none) (s x : Operand) (t : TypeId) (ho : o.op = .call { callee := .builtin .append, args := #[s, x], argTypes := #[t, t] })
    {e : TypeId} (ht : SlT P t e 1 8 (.int .i64 0)) {W0 : World} (hX : Ext W0 w) {v : Value} {l : List Int} (hO : OwnL W0 e w v l) (hs : a.eval s = v) (news : List Int) (m : Nat) (hm : news.length = m) (h0 : 0 < m)
    (hx : a.eval x = .slice (some ⟨w.heap.size, 0, none⟩) m m) (hb : l.length + m ≤ 4294967296)
    (h : ∀ v' w', OwnL W0 e w' v' (l ++ news) → Ext W0 w' → wpList P ops Q rest (a.put o.dst v') w') : wpList P ops Q (o :: rest) a (w.alloc (.cells (news.map (Value.int .i64)).toArray e)) :=
  wpList_plain hgd fun _ hK => wp_grow s x t ho ht hX hO hs news m hm h0 hx hb fun v' w' k1 k2 => hK _ _ (h v' w' k1 k2)
end
end Go.Att
namespace Go.Proofs.YtnmjaddhbecopaaGreatDoor
open Go.RowKit Go.Att
section
variable {w : World} {q : Nat} {f : Value} {p g : Int} {fs : List Int} {sz out : Int} {cd : List In4} {lv rv nv : Value} {r n : List Int}
set_option maxRecDepth 100000 in
set_option maxHeartbeats 4000000 in
theorem jorder_any (hf : Fld w f p g fs) (hc : w.cell? ⟨q, 0, none⟩ = some f) (b w0 c x : Int) : Calls Tryz.prog 188 #[.pointer (some ⟨q, 0, none⟩), .int .i64 b, .int .i64 w0, .int .i64 c, .int .i64 x] w fun e w' => e = .returned (.slice (some ⟨w.heap.size, 0, none⟩) 2 2) ∧ ∃ m, w' = (w.drewN m).alloc (Obj.cells ((ordK p b w0 c x).map (Value.int .i64)).toArray 3) := by
  have HF := Lib.hid hf
  clear hf
  go_enter Tryz.func188, Tryz.ntmps188
  go_wp2_with fail
  go_quiet ((go_at_call 179; exact sub_q HF.out _ _ _))
  have HC2 := Lib.hid ((Ext.drewN w nq).cell hc)
  have hc2 := HC2.out
  have HF2 := Lib.hid (HF.out.ext (Ext.drewN w nq))
  go_wp2_with (go_at_call 179; refine (sub_any HF2.out _ _).mono ?_; rintro e w1 ⟨rfl, m, rfl⟩)
  have HF3 := Lib.hid (HF.out.ext (Ext.drewN w (nq + m)))
  have hc3 := (Ext.drewN w (nq + m)).cell hc
  clear hc hc2
  generalize hW : w.drewN (nq + m) = W at *
  have HWE := Lib.hid hW
  clear hW HC2 HF2 HF
  refine wp_region_quiet_tail 14 (by kernel_rfl) (by kernel_rfl) ?_
  simp only [List.take_succ_cons, List.take_zero, List.drop_succ_cons, List.drop_zero]
  repeat (go_big_quiet_step ((go_at_call 123; exact mul_q HF3.out _ _ _)))
  refine wpQuiet_nil ?_
  rintro _ ⟨nq2, rfl⟩
  clear hc3
  go_wp2_with fail
  go_ret
  obtain rfl : w.drewN (nq + m) = W := HWE.out
  exact ⟨rfl, nq + m + nq2, by rw [drewN_drewN]; rfl⟩
/-- The function value of a cell. -/
def CellGot (w : World) (q : Nat) (ji : Int) (e : Ending) (w' : World) : Prop := ∃ q1 q2, e = .returned (.func (.func 241) #[] #[.pointer (some ⟨q1, 0, none⟩), .pointer (some ⟨q2, 0, none⟩)]) ∧ Ext w w' ∧ w'.cell? ⟨q1, 0, none⟩ = some (.pointer (some ⟨q, 0, none⟩)) ∧ w'.cell? ⟨q2, 0, none⟩ = some (.int .i64 ji)
set_option maxRecDepth 100000 in
set_option maxHeartbeats 4000000 in
theorem jcellf_any (q : Nat) (ji : Int) (w : World) : Calls Tryz.prog 185 #[.pointer (some ⟨q, 0, none⟩), .int .i64 ji] w (CellGot w q ji) := by
  have hmf : ∀ (fn : Fn) (first cap : Array Value) (w : World), (Instr.makeFunc fn first cap).run Tryz.prog w = .ok (.func fn first cap) w := fun _ _ _ _ => rfl
  go_enter Tryz.func185, Tryz.ntmps185
  go_wp2_with fail
  go_ret
  exact ⟨_, _, rfl, (Ext.alloc _ _).trans (Ext.alloc _ _), by simp, by simp⟩
end
end Go.Proofs.YtnmjaddhbecopaaGreatDoor
end
