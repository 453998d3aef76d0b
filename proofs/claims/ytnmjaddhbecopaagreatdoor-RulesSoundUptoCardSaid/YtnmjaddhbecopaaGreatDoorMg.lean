/- The document's machine: Fault; Walk. -/
import Derived.Test.YtnmjaddhbecopaaGreatDoorMf
import Derived.Test.YtnmjaddhbecopaaGreatDoorMb
namespace Go.Proofs.YtnmjaddhbecopaaGreatDoor
open Go.RowKit Go.Att
attribute [local go_sem ↓] Go.wp_at_zero Go.wp_at_succ
section
variable {w : World} {p : Int} {sz : Int} {lv : Value} {cd : List In4} {lim : Int}
set_option maxRecDepth 100000 in
set_option maxHeartbeats 4000000 in
theorem dfault_any (hc : Inqs w lv cd) : Calls Tryz.prog 43 #[.int .i64 p, .agg #[.int .i64 sz, lv], .int .i64 lim] w fun e w' => e = .returned (.int .i64 (faultM p sz cd.length lim)) ∧ Ext w w' := by
  have hll : ∀ w', (Builtin.len_ #[46] 3 #[lv]).run Tryz.prog w' = .ok (.int .i64 cd.length) w' := fun w' => hc.run_len (P := Tryz.prog) slIns 3 w'
  have hcl := hc.len
  obtain ⟨ao, cap, rfl⟩ := hc.shape
  clear hc
  obtain ⟨n, hn⟩ : ∃ n, cd.length = n := ⟨_, rfl⟩
  rw [hn] at hll hcl ⊢
  clear hn
  have HX := Lib.hid (Ext.alloc w (Obj.cells #[.int .i64 sz, .slice ao n cap] 48))
  by_cases t1 : sz < 0
  · have d1 : decide (sz < 0) = true := by simpa using t1
    have HE : Hid (faultM p sz n lim = 2) := Lib.hid (by unfold faultM; rw [if_pos (.inl t1)])
    go_enter Tryz.func43, Tryz.ntmps43
    go_wp2_with fail
    go_ret
    exact ⟨by rw [HE.out]; rfl, HX.out⟩
  have d1 : decide (sz < 0) = false := by simpa using t1
  by_cases t2 : 65536 < sz
  · have d2 : decide ((65536 : Int) < sz) = true := by simpa using t2
    have HE : Hid (faultM p sz n lim = 2) := Lib.hid (by unfold faultM; rw [if_pos (.inr (.inl t2))])
    go_enter Tryz.func43, Tryz.ntmps43
    go_wp2_with fail
    go_ret
    exact ⟨by rw [HE.out]; rfl, HX.out⟩
  have d2 : decide ((65536 : Int) < sz) = false := by simpa using t2
  by_cases t3 : n = 0
  · have d3 : ((n : Int) == 0) = true := by rw [beq_iff_eq]; omega
    have HE : Hid (faultM p sz n lim = 2) := Lib.hid (by unfold faultM; rw [if_pos (.inr (.inr (.inl t3)))])
    clear t3
    go_enter Tryz.func43, Tryz.ntmps43
    go_wp2_with fail
    go_ret
    exact ⟨by rw [HE.out]; rfl, HX.out⟩
  have d3 : ((n : Int) == 0) = false := by rw [beq_eq_false_iff_ne]; omega
  by_cases t4 : 4096 < n
  · have d4 : decide ((4096 : Int) < n) = true := by rw [decide_eq_true_eq]; omega
    have HE : Hid (faultM p sz n lim = 2) := Lib.hid (by unfold faultM; rw [if_pos (.inr (.inr (.inr (.inl t4))))])
    go_enter Tryz.func43, Tryz.ntmps43
    go_wp2_with fail
    go_ret
    exact ⟨by rw [HE.out]; rfl, HX.out⟩
  have d4 : decide ((4096 : Int) < n) = false := by rw [decide_eq_false_iff_not]; omega
  by_cases t5 : p < n
  · have d5 : decide (p < (n : Int)) = true := by simpa using t5
    have HE : Hid (faultM p sz n lim = 2) := Lib.hid (by unfold faultM; rw [if_pos (.inr (.inr (.inr (.inr t5))))])
    go_enter Tryz.func43, Tryz.ntmps43
    go_wp2_with fail
    go_ret
    exact ⟨by rw [HE.out]; rfl, HX.out⟩
  have d5 : decide (p < (n : Int)) = false := by simpa using t5
  have HNF : Hid (¬ (sz < 0 ∨ 65536 < sz ∨ n = 0 ∨ 4096 < n ∨ p < n)) := Lib.hid (by rintro (h | h | h | h | h) <;> contradiction)
  by_cases t6 : lim < 0
  · have d6 : decide (lim < 0) = true := by simpa using t6
    have HE : Hid (faultM p sz n lim = 3) := Lib.hid (by unfold faultM; rw [if_neg HNF.out, if_pos (.inl t6)])
    go_enter Tryz.func43, Tryz.ntmps43
    go_wp2_with fail
    go_ret
    exact ⟨by rw [HE.out]; rfl, HX.out⟩
  have d6 : decide (lim < 0) = false := by simpa using t6
  by_cases t7 : 16384 < lim
  · have d7 : decide ((16384 : Int) < lim) = true := by simpa using t7
    have HE : Hid (faultM p sz n lim = 3) := Lib.hid (by unfold faultM; rw [if_neg HNF.out, if_pos (.inr t7)])
    go_enter Tryz.func43, Tryz.ntmps43
    go_wp2_with fail
    go_ret
    exact ⟨by rw [HE.out]; rfl, HX.out⟩
  have d7 : decide ((16384 : Int) < lim) = false := by simpa using t7
  have HE : Hid (faultM p sz n lim = 0) := Lib.hid (by unfold faultM; rw [if_neg HNF.out, if_neg (by omega)])
  go_enter Tryz.func43, Tryz.ntmps43
  go_wp2_with fail
  go_ret
  exact ⟨by rw [HE.out]; rfl, HX.out⟩
end
theorem own_ne_own {w : World} {B e e' sz sz' n n' : Nat} {v v' : Value} {xs ys : List Value} (h : w.ownsRow B e sz v n xs) (h' : w.ownsRow B e' sz' v' n' ys) (hne : e ≠ e') : v'.ownBlock = none ∨ v.ownBlock ≠ v'.ownBlock := by
  rcases h'.2 with ⟨rfl, _⟩ | ⟨g, cap, cur, rfl, _, hg, _⟩
  · exact .inl rfl
  · right
    rcases h.2 with ⟨rfl, _⟩ | ⟨g2, cap2, cur2, rfl, _, hg2, _⟩
    · simp [Value.ownBlock]
    · intro e2
      simp [Value.ownBlock] at e2
      subst e2
      rw [hg] at hg2
      simp at hg2
      exact hne hg2.2.symm
theorem row_grown {w w' : World} {B e sz n : Nat} {v v' : Value} {xs : List Value} (h : w.ownsRow B e sz v n xs) (hg : w.grownBy w' v'.ownBlock) (hne : v'.ownBlock = none ∨ v.ownBlock ≠ v'.ownBlock) : w'.ownsRow B e sz v n xs := by
  refine ⟨h.1, ?_⟩
  rcases h.2 with h2 | ⟨g, cap, cur, rfl, hb, hh, r⟩
  · exact .inl h2
  · refine .inr ⟨g, cap, cur, rfl, hb, ?_, r⟩
    rw [hg.block g (lt_of_block hh) (fun e => by
      rcases hne with hn | hn
      · rw [hn] at e; cases e
      · exact hn (by simpa [Value.ownBlock] using e))]
    exact hh
theorem dk_row {b : Nat} {w w' : World} {cv cv' : Value} (k : DK b w w' cv cv') {B e sz n : Nat} {v : Value} {xs : List Value} (h : w.ownsRow B e sz v n xs) (h1 : v.ownBlock ≠ some b) (h2 : cv.ownBlock = none ∨ v.ownBlock ≠ cv.ownBlock) : w'.ownsRow B e sz v n xs := by
  refine ⟨h.1, ?_⟩
  rcases h.2 with h3 | ⟨g, cap, cur, rfl, hb, hh, r⟩
  · exact .inl h3
  · refine .inr ⟨g, cap, cur, rfl, hb, ?_, r⟩
    have hcv : cv.ownBlock ≠ some g := by
      rcases h2 with hn | hn
      · rw [hn]; simp
      · exact fun e => hn (by rw [e]; rfl)
    rw [(k g (lt_of_block hh) (fun e => h1 (by subst e; rfl)) hcv).1]
    exact hh
theorem step_row {W : World} {B E : Nat} {v : Value} {L : List Stp} {s d : Ms} (h1 : d.pc = s.pc) (h2 : d.fp = s.fp) (h3 : d.ap = s.ap) (h4 : d.rv = s.rv) (h : W.ownsRow B E 10 v (L.length + 1) (flatS L ++ [.int .i64 d.pc, .int .i64 d.fp, .int .i64 d.ap, .int .i64 d.rv, .int .i64 (accA d.acc 0), .int .i64 (accA d.acc 1), .int .i64 (accA d.acc 2), .int .i64 (accI d.acc 0), .int .i64 (accI d.acc 1), .int .i64 (accI d.acc 2)])) : W.ownsRow B E 10 v (L ++ [s.note d.acc]).length (flatS (L ++ [s.note d.acc])) := by
  rw [h1, h2, h3, h4] at h
  exact flatS_own h
theorem runM_any_blank (p : Int) (cd : List In4) (k : Nat) (L : List Stp) (s t : Ms) (h : s.blank = t.blank) : runM p cd k L s = runM p cd k L t := by
  have h1 : s.pc = t.pc := by show s.blank.pc = t.blank.pc; rw [h]
  have h2 : s.fp = t.fp := by show s.blank.fp = t.blank.fp; rw [h]
  have h3 : ∀ acc, s.note acc = t.note acc := fun acc => by
    have h4 : s.ap = t.ap := by show s.blank.ap = t.blank.ap; rw [h]
    have h5 : s.rv = t.rv := by show s.blank.rv = t.blank.rv; rw [h]
    unfold Ms.note; rw [h1, h2, h4, h5]
  cases k with
  | zero => unfold runM; simp only [h, h1, h2, h3]
  | succ k => unfold runM; simp only [h, h1, h2, h3]
/-- What the document's walk comes to. -/
def DWalk (w : World) (r : Rw) (e : Ending) (w' : World) : Prop :=
  match r with
  | .done l _out mem => ∃ sv cv, e = .returned (.tuple #[sv, cv, .int .i64 0]) ∧ w'.ownsRow w.heap.size 247 10 sv l.length (flatS l) ∧ w'.ownsRow w.heap.size 193 2 cv mem.length (flatP mem) ∧ l.length ≤ 16385 ∧ Ext w w'
  | .no k => e = .returned (.tuple #[.slice none 0 0, .slice none 0 0, .int .i64 k]) ∧ Ext w w'
section
variable {w0 w w' : World} {b : Nat} {p : Int} {s : Ms} {cv : Value} {sl : Int}
end
section
variable {w : World} {p : Int} {sz : Int} {lv : Value} {cd : List In4} {lim : Int}
end
end Go.Proofs.YtnmjaddhbecopaaGreatDoor
