/- The program's machine: Clip of its steps; Walk. -/
import Derived.Test.YtainhfnanamobaaGreatDoorMb
namespace Go.Att
open Go.RowKit
/-- All cells of steps are numbers. -/
theorem flatS_int (l : List Stp) (j : Nat) (h : j < l.length * 10) : ∃ x : Int, (flatS l)[j]? = some (.int .i64 x) := by
  have hj : j < (flatS l).length := by rw [flatS_length]; exact h
  have hm := List.getElem_mem hj
  unfold flatS at hm
  rw [List.mem_flatMap] at hm
  obtain ⟨t, _, hm⟩ := hm
  rw [List.mem_map] at hm
  obtain ⟨x, _, hx⟩ := hm
  exact ⟨x, by rw [List.getElem?_eq_getElem hj]; exact congrArg some hx.symm⟩
section
variable {w : World} {v : Value} {l : List Stp} {x : Value}
theorem stp_c0 (h : Sl w 10 v l.length (flatS l)) (i : Nat) (hi : i < l.length) (hx : (flatS l)[i * 10]? = some x) : w.cell? (elt v i 10) = some x := by
  have := Sl.cell h i 0 hi (by omega)
  simp only [Addr.add, if_true, Nat.add_zero] at this
  rw [this, hx]
theorem stp_c (h : Sl w 10 v l.length (flatS l)) (i k : Nat) (hi : i < l.length) (hk : k < 10) (h0 : k ≠ 0) (hx : (flatS l)[i * 10 + k]? = some x) : w.cell? ⟨(elt v i 10).block, (elt v i 10).off + k, none⟩ = some x := by
  have := Sl.cell h i k hi hk
  simp only [Addr.add] at this
  rw [if_neg h0] at this
  rw [this, hx]
end
end Go.Att
namespace Go.Proofs.YtainhfnanamobaaGreatDoor
open Go.RowKit Go.Att
attribute [local go_sem ↓] Go.wp_at_zero Go.wp_at_succ
theorem run_clip {P : Program} {t e sz bytes : Nat} {z : Value} (ht : SlT P t e sz bytes z) (ao : Option Addr) (n cap : Nat) (h : n ≤ cap) (w : World) :
    (Instr.sliceAt t (.slice ao n cap) none (some (.int .i64 n)) (some (.int .i64 n))).run P w = .ok (sliced ao 0 n n sz) w := by
  have hu : P.underlying t = some (.slice (P.elem t)) := by rw [ht.und, elem_of ht.und]
  rw [run_sliceAt_slice (h := hu), run_slice_hm (ht := hu) (h0 := by omega) (h2 := by omega) (h3 := by omega), elem_of ht.und, ht.run_size]
  simp [Result.andThen]
theorem clip_sl {w : World} {sz n cap : Nat} {ao : Option Addr} {cs : List Value} (h : Sl w sz (.slice ao n cap) n cs) : Sl w sz (sliced ao 0 n n sz) n cs := by
  obtain ⟨ao', cap', e, h2, h3, h4, h5⟩ := h
  injection e with e1 e2 e3
  subst e1 e3
  refine ⟨ao, n, ?_, h2, Nat.le_refl _, by omega, fun i hi => ?_⟩
  · unfold sliced
    cases ao with
    | none => simp
    | some a => simp [Addr.add]
  · obtain ⟨b, off, q1, q2⟩ := h5 i hi
    exact ⟨b, off, q1, q2⟩
section
variable {w : World} {p g : Int} {fs : List Int} {sz : Int} {lv : Value} {cd : List In4} {lim : Int}
set_option maxRecDepth 100000 in
set_option maxHeartbeats 2000000 in
theorem clip_any {B n : Nat} {v : Value} {xs : List Value} (h : w.ownsRow B 94 10 v n xs) : Calls Tryz.prog 91 #[v] w fun e w' => w = w' ∧ ∃ u, e = .returned u ∧ Sl w 10 u n xs := by
  have hs := Sl.of_own h (by omega)
  obtain ⟨ao, cap, e, _, hcap, _⟩ := hs
  subst e
  have hs' := Sl.of_own h (by omega)
  have hll := fun w' => Sl.run_len (P := Tryz.prog) hs' slStep 3 w'
  have hcl := fun w' => run_clip slStep ao n cap hcap w'
  have HS := Lib.hid (clip_sl hs')
  clear h hs'
  generalize hsl : sliced ao 0 n n 10 = u at hcl HS
  clear hsl
  go_enter Tryz.func91, Tryz.ntmps91
  go_wp2_with fail
  go_ret
  exact ⟨rfl, _, rfl, HS.out⟩
/-- What the program's walk comes to. -/
def PWalk (w : World) (r : Rw) (e : Ending) (w' : World) : Prop :=
  match r with
  | .done l _ _ => ∃ sv, e = .returned (.tuple #[sv, .nilIface]) ∧ Sl w' 10 sv l.length (flatS l) ∧ l.length ≤ 16385 ∧ Ext w w'
  | .no k => e = .returned (.tuple #[.slice none 0 0, .iface 77 (.int .i64 k)]) ∧ Ext w w'
set_option maxRecDepth 100000 in
set_option maxHeartbeats 4000000 in
theorem mwalk_any {f : Value} (hf : Fld w f p g fs) (hc : Inqs w lv cd) : Calls Tryz.prog 44 #[f, .agg #[.int .i64 sz, lv], .int .i64 lim] w (PWalk w (walkM p sz cd lim)) := by
  obtain ⟨ao, cap, rfl⟩ := hc.shape
  have hx := Ext.alloc w (Obj.cells #[.int .i64 sz, .slice ao cd.length cap] 24)
  have HX := Lib.hid hx
  have HF := Lib.hid (hf.ext hx); have HC := Lib.hid (hc.ext hx)
  clear hf hc hx
  go_enter Tryz.func44, Tryz.ntmps44
  go_wp2_with fail
  refine (mbegun_any (sz := sz) (lim := lim) HF.out HC.out).mono ?_
  intro e w1 h1
  cases hR : walkM p sz cd lim with
  | no k =>
    rw [hR] at h1
    obtain ⟨rfl, hx1⟩ := h1
    have HX1 := Lib.hid (HX.out.trans hx1); have HRR := Lib.hid hR
    clear hx1 hR
    go_wp2_with fail
    go_ret2
    rw [HRR.out]
    exact ⟨rfl, HX1.out⟩
  | done l out mem =>
    rw [hR] at h1
    obtain ⟨b, mb, cs, sv, nn, rfl, c3, c15, c16, hb, hm, hmb, hl1, hl2, hb1, hb2, ho, hx1⟩ := h1
    have HX1 := Lib.hid (HX.out.trans hx1); have HRR := Lib.hid hR; have HO := Lib.hid ho; have HL2 := Lib.hid hl2
    clear hx1 hR c3 c16 hb hm hmb hl1 hb1 hb2 ho hl2
    go_wp2_with (go_at_call 91; refine (clip_any HO.out).mono ?_; rintro e w2 ⟨rfl, u, rfl, hu⟩)
    go_ret2
    rw [HRR.out]
    exact ⟨_, rfl, hu, HL2.out, HX1.out⟩
end
end Go.Proofs.YtainhfnanamobaaGreatDoor
