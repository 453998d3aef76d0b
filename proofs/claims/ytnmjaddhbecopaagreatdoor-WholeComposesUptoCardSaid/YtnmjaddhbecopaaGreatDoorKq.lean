/- RulesBroken: a list of numbers of the call's own that grows; the program's order of two pairs; the function value of a cell. -/
import Derived.Test.YtnmjaddhbecopaaGreatDoorKp
import Derived.Test.YtnmjaddhbecopaaGreatDoorQt
import Derived.Deep.AppendLies
namespace Go.Att
open Go.RowKit
/-- A list of numbers of the call's own, made behind W0. -/
def OwnL (W0 : World) (e : TypeId) (w : World) (v : Value) (l : List Int) : Prop := w.ownsRow W0.heap.size e 1 v l.length (l.map (Value.int .i64))
theorem OwnL.ext {W0 w w' : World} {e : TypeId} {v : Value} {l : List Int} (h : OwnL W0 e w v l) (hx : Ext w w') : OwnL W0 e w' v l := own_ext h hx
theorem OwnL.ints {W0 w : World} {e : TypeId} {v : Value} {l : List Int} (h : OwnL W0 e w v l) : Ints w v l := Ints.of_own h
theorem OwnL.nil (W0 w : World) (e : TypeId) : OwnL W0 e w (.slice none 0 0) [] := ⟨rfl, .inl ⟨rfl, rfl⟩⟩
section
variable {P : Program} {o : Oper} {a : Act} {Q : Exit → Act → World → Prop} {w : World}
/-- 'append(s, x, ..)' onto it, x .. just boxed. -/
theorem wp_grow {K : Act → World → Prop} (s x : Operand) (t : TypeId) (ho : o.op = .call { callee := .builtin .append, args := #[s, x], argTypes := #[t, t] })
    {e : TypeId} (ht : SlT P t e 1 8 (.int .i64 0)) {W0 : World} (hX : Ext W0 w) {v : Value} {l : List Int} (hO : OwnL W0 e w v l) (hs : a.eval s = v) (news : List Int) (m : Nat) (hm : news.length = m) (h0 : 0 < m)
    (hx : a.eval x = .slice (some ⟨w.heap.size, 0, none⟩) m m) (hb : l.length + m ≤ 4294967296)
    (h : ∀ v' w', OwnL W0 e w' v' (l ++ news) → Ext W0 w' → K (a.put o.dst v') w') : o.wp P a (w.alloc (.cells (news.map (Value.int .i64)).toArray e)) K Q := by
  obtain ⟨i, hi, hiz, his, hib⟩ := ht.inf
  have hO' : (w.alloc (.cells (news.map (Value.int .i64)).toArray e)).ownsRow W0.heap.size e 1 v l.length (l.map (Value.int .i64)) := hO.alloc _
  refine wp_append_lies _ s x t ho W0.heap.size e i _ 1 8 ht.und hi hiz his hib rfl (by omega) v _ _ hs hO' ⟨w.heap.size, 0, none⟩ m m (news.map (Value.int .i64)) hx (by simp [hm]) ?_ ?_ h0 (by unfold maxLen; omega) (by omega) (by have := hX.size; simp; omega) _ rfl ?_
  · have := World.news_of_block (cs := (news.map (Value.int .i64)).toArray) (t := e) (fr := (0, 0)) (heap_alloc_new w _)
    simpa using this
  · intro u hu; simp only [List.mem_map] at hu; obtain ⟨y, _, rfl⟩ := hu; rfl
  · intro g cap w' k1 k2 _ _
    refine h _ w' ?_ ?_
    · unfold OwnL
      rw [List.length_append, hm, List.map_append]; exact k1
    · exact Ext.own_grown (hX.trans (Ext.alloc _ _)) hO' k2
theorem step_grow {ops : Array Oper} {K : Act → World → Prop} {E : Prop} (hgd : o.guard = none) (s x : Operand) (t : TypeId) (ho : o.op = .call { callee := .builtin .append, args := #[s, x], argTypes := #[t, t] })
    {e : TypeId} (ht : SlT P t e 1 8 (.int .i64 0)) {W0 : World} (hX : Ext W0 w) {v : Value} {l : List Int} (hO : OwnL W0 e w v l) (hs : a.eval s = v) (news : List Int) (m : Nat) (hm : news.length = m) (h0 : 0 < m)
    (hx : a.eval x = .slice (some ⟨w.heap.size, 0, none⟩) m m) (hb : l.length + m ≤ 4294967296)
    (h : ∀ v' w', OwnL W0 e w' v' (l ++ news) → Ext W0 w' → K (a.put o.dst v') w') : if Region.wanted o (yielded ops a.tmps) = true then Oper.wp P o a (w.alloc (.cells (news.map (Value.int .i64)).toArray e)) K Q else E := by
  have hw : Region.wanted o (yielded ops a.tmps) = true := by simp [Region.wanted, hgd]
  rw [if_pos hw]
  exact wp_grow s x t ho ht hX hO hs news m hm h0 hx hb h
theorem wpList_grow {ops : Array Oper} {rest : List Oper} (hgd : o.guard = none) (s x : Operand) (t : TypeId) (ho : o.op = .call { callee := .builtin .append, args := #[s, x], argTypes := #[t, t] })
    {e : TypeId} (ht : SlT P t e 1 8 (.int .i64 0)) {W0 : World} (hX : Ext W0 w) {v : Value} {l : List Int} (hO : OwnL W0 e w v l) (hs : a.eval s = v) (news : List Int) (m : Nat) (hm : news.length = m) (h0 : 0 < m)
    (hx : a.eval x = .slice (some ⟨w.heap.size, 0, none⟩) m m) (hb : l.length + m ≤ 4294967296)
    (h : ∀ v' w', OwnL W0 e w' v' (l ++ news) → Ext W0 w' → wpList P ops Q rest (a.put o.dst v') w') : wpList P ops Q (o :: rest) a (w.alloc (.cells (news.map (Value.int .i64)).toArray e)) :=
  wpList_plain hgd fun _ hK => wp_grow s x t ho ht hX hO hs news m hm h0 hx hb fun v' w' k1 k2 => hK _ _ (h v' w' k1 k2)
end
end Go.Att
namespace Go.Proofs.YtnmjaddhbecopaaGreatDoor
open Go.RowKit Go.Att
section
variable {w : World} {q : Nat} {f : Value} {p g : Int} {fs : List Int} {sz out : Int} {cd : List In4} {lv rv nv : Value} {r n : List Int}
set_option maxRecDepth 100000 in
set_option maxHeartbeats 4000000 in
theorem jorder_any (hf : Fld w f p g fs) (hc : w.cell? ⟨q, 0, none⟩ = some f) (b w0 c x : Int) : Calls Tryz.prog 188 #[.pointer (some ⟨q, 0, none⟩), .int .i64 b, .int .i64 w0, .int .i64 c, .int .i64 x] w fun e w' => e = .returned (.slice (some ⟨w.heap.size, 0, none⟩) 2 2) ∧ ∃ m, w' = (w.drewN m).alloc (Obj.cells ((ordK p b w0 c x).map (Value.int .i64)).toArray 3) := by
  have HF := Lib.hid hf
  clear hf
  go_enter Tryz.func188, Tryz.ntmps188
  go_wp2_with fail
  go_quiet ((go_at_call 179; exact sub_q HF.out _ _ _))
  have HC2 := Lib.hid ((Ext.drewN w nq).cell hc)
  have hc2 := HC2.out
  have HF2 := Lib.hid (HF.out.ext (Ext.drewN w nq))
  go_wp2_with (go_at_call 179; refine (sub_any HF2.out _ _).mono ?_; rintro e w1 ⟨rfl, m, rfl⟩)
  have HF3 := Lib.hid (HF.out.ext (Ext.drewN w (nq + m)))
  have hc3 := (Ext.drewN w (nq + m)).cell hc
  clear hc hc2
  generalize hW : w.drewN (nq + m) = W at *
  have HWE := Lib.hid hW
  clear hW HC2 HF2 HF
  refine wp_region_quiet_tail 14 (by kernel_rfl) (by kernel_rfl) ?_
  simp only [List.take_succ_cons, List.take_zero, List.drop_succ_cons, List.drop_zero]
  repeat (go_big_quiet_step ((go_at_call 123; exact mul_q HF3.out _ _ _)))
  refine wpQuiet_nil ?_
  rintro _ ⟨nq2, rfl⟩
  clear hc3
  go_wp2_with fail
  go_ret
  obtain rfl : w.drewN (nq + m) = W := HWE.out
  exact ⟨rfl, nq + m + nq2, by rw [drewN_drewN]; rfl⟩
/-- The function value of a cell. -/
def CellGot (w : World) (q : Nat) (ji : Int) (e : Ending) (w' : World) : Prop := ∃ q1 q2, e = .returned (.func (.func 241) #[] #[.pointer (some ⟨q1, 0, none⟩), .pointer (some ⟨q2, 0, none⟩)]) ∧ Ext w w' ∧ w'.cell? ⟨q1, 0, none⟩ = some (.pointer (some ⟨q, 0, none⟩)) ∧ w'.cell? ⟨q2, 0, none⟩ = some (.int .i64 ji)
set_option maxRecDepth 100000 in
set_option maxHeartbeats 4000000 in
theorem jcellf_any (q : Nat) (ji : Int) (w : World) : Calls Tryz.prog 185 #[.pointer (some ⟨q, 0, none⟩), .int .i64 ji] w (CellGot w q ji) := by
  have hmf : ∀ (fn : Fn) (first cap : Array Value) (w : World), (Instr.makeFunc fn first cap).run Tryz.prog w = .ok (.func fn first cap) w := fun _ _ _ _ => rfl
  go_enter Tryz.func185, Tryz.ntmps185
  go_wp2_with fail
  go_ret
  exact ⟨_, _, rfl, (Ext.alloc _ _).trans (Ext.alloc _ _), by simp, by simp⟩
end
end Go.Proofs.YtnmjaddhbecopaaGreatDoor
