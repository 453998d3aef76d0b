/- The document's machine: Fault; Walk. -/
import Derived.Test.YtainhfnanamobaaGreatDoorMf
import Derived.Test.YtainhfnanamobaaGreatDoorMb
namespace Go.Proofs.YtainhfnanamobaaGreatDoor
open Go.RowKit Go.Att
attribute [local go_sem ↓] Go.wp_at_zero Go.wp_at_succ
section
variable {w : World} {p : Int} {sz : Int} {lv : Value} {cd : List In4} {lim : Int}
set_option maxRecDepth 100000 in
set_option maxHeartbeats 4000000 in
theorem dfault_any (hc : Inqs w lv cd) : Calls Tryz.prog 23 #[.int .i64 p, .agg #[.int .i64 sz, lv], .int .i64 lim] w fun e w' => e = .returned (.int .i64 (faultM p sz cd.length lim)) ∧ Ext w w' := by
  have hll : ∀ w', (Builtin.len_ #[22] 3 #[lv]).run Tryz.prog w' = .ok (.int .i64 cd.length) w' := fun w' => hc.run_len (P := Tryz.prog) slIns 3 w'
  have hcl := hc.len
  obtain ⟨ao, cap, rfl⟩ := hc.shape
  clear hc
  obtain ⟨n, hn⟩ : ∃ n, cd.length = n := ⟨_, rfl⟩
  rw [hn] at hll hcl ⊢
  clear hn
  have HX := Lib.hid (Ext.alloc w (Obj.cells #[.int .i64 sz, .slice ao n cap] 24))
  by_cases t1 : sz < 0
  · have d1 : decide (sz < 0) = true := by simpa using t1
    have HE : Hid (faultM p sz n lim = 2) := Lib.hid (by unfold faultM; rw [if_pos (.inl t1)])
    go_enter Tryz.func23, Tryz.ntmps23
    go_wp2_with fail
    go_ret
    exact ⟨by rw [HE.out]; rfl, HX.out⟩
  have d1 : decide (sz < 0) = false := by simpa using t1
  by_cases t2 : 65536 < sz
  · have d2 : decide ((65536 : Int) < sz) = true := by simpa using t2
    have HE : Hid (faultM p sz n lim = 2) := Lib.hid (by unfold faultM; rw [if_pos (.inr (.inl t2))])
    go_enter Tryz.func23, Tryz.ntmps23
    go_wp2_with fail
    go_ret
    exact ⟨by rw [HE.out]; rfl, HX.out⟩
  have d2 : decide ((65536 : Int) < sz) = false := by simpa using t2
  by_cases t3 : n = 0
  · have d3 : ((n : Int) == 0) = true := by rw [beq_iff_eq]; omega
    have HE : Hid (faultM p sz n lim = 2) := Lib.hid (by unfold faultM; rw [if_pos (.inr (.inr (.inl t3)))])
    clear t3
    go_enter Tryz.func23, Tryz.ntmps23
    go_wp2_with fail
    go_ret
    exact ⟨by rw [HE.out]; rfl, HX.out⟩
  have d3 : ((n : Int) == 0) = false := by rw [beq_eq_false_iff_ne]; omega
  by_cases t4 : 4096 < n
  · have d4 : decide ((4096 : Int) < n) = true := by rw [decide_eq_true_eq]; omega
    have HE : Hid (faultM p sz n lim = 2) := Lib.hid (by unfold faultM; rw [if_pos (.inr (.inr (.inr (.inl t4))))])
    go_enter Tryz.func23, Tryz.ntmps23
    go_wp2_with fail
    go_ret
    exact ⟨by rw [HE.out]; rfl, HX.out⟩
  have d4 : decide ((4096 : Int) < n) = false := by rw [decide_eq_false_iff_not]; omega
  by_cases t5 : p < n
  · have d5 : decide (p < (n : Int)) = true := by simpa using t5
    have HE : Hid (faultM p sz n lim = 2) := Lib.hid (by unfold faultM; rw [if_pos (.inr (.inr (.inr (.inr t5))))])
    go_enter Tryz.func23, Tryz.ntmps23
    go_wp2_with fail
    go_ret
    exact ⟨by rw [HE.out]; rfl, HX.out⟩
  have d5 : decide (p < (n : Int)) = false := by simpa using t5
  have HNF : Hid (¬ (sz < 0 ∨ 65536 < sz ∨ n = 0 ∨ 4096 < n ∨ p < n)) := Lib.hid (by rintro (h | h | h | h | h) <;> contradiction)
  by_cases t6 : lim < 0
  · have d6 : decide (lim < 0) = true := by simpa using t6
    have HE : Hid (faultM p sz n lim = 3) := Lib.hid (by unfold faultM; rw [if_neg HNF.out, if_pos (.inl t6)])
    go_enter Tryz.func23, Tryz.ntmps23
    go_wp2_with fail
    go_ret
    exact ⟨by rw [HE.out]; rfl, HX.out⟩
  have d6 : decide (lim < 0) = false := by simpa using t6
  by_cases t7 : 16384 < lim
  · have d7 : decide ((16384 : Int) < lim) = true := by simpa using t7
    have HE : Hid (faultM p sz n lim = 3) := Lib.hid (by unfold faultM; rw [if_neg HNF.out, if_pos (.inr t7)])
    go_enter Tryz.func23, Tryz.ntmps23
    go_wp2_with fail
    go_ret
    exact ⟨by rw [HE.out]; rfl, HX.out⟩
  have d7 : decide ((16384 : Int) < lim) = false := by simpa using t7
  have HE : Hid (faultM p sz n lim = 0) := Lib.hid (by unfold faultM; rw [if_neg HNF.out, if_neg (by omega)])
  go_enter Tryz.func23, Tryz.ntmps23
  go_wp2_with fail
  go_ret
  exact ⟨by rw [HE.out]; rfl, HX.out⟩
end
theorem own_ne_own {w : World} {B e e' sz sz' n n' : Nat} {v v' : Value} {xs ys : List Value} (h : w.ownsRow B e sz v n xs) (h' : w.ownsRow B e' sz' v' n' ys) (hne : e ≠ e') : v'.ownBlock = none ∨ v.ownBlock ≠ v'.ownBlock := by
  rcases h'.2 with ⟨rfl, _⟩ | ⟨g, cap, cur, rfl, _, hg, _⟩
  · exact .inl rfl
  · right
    rcases h.2 with ⟨rfl, _⟩ | ⟨g2, cap2, cur2, rfl, _, hg2, _⟩
    · simp [Value.ownBlock]
    · intro e2
      simp [Value.ownBlock] at e2
      subst e2
      rw [hg] at hg2
      simp at hg2
      exact hne hg2.2.symm
theorem row_grown {w w' : World} {B e sz n : Nat} {v v' : Value} {xs : List Value} (h : w.ownsRow B e sz v n xs) (hg : w.grownBy w' v'.ownBlock) (hne : v'.ownBlock = none ∨ v.ownBlock ≠ v'.ownBlock) : w'.ownsRow B e sz v n xs := by
  refine ⟨h.1, ?_⟩
  rcases h.2 with h2 | ⟨g, cap, cur, rfl, hb, hh, r⟩
  · exact .inl h2
  · refine .inr ⟨g, cap, cur, rfl, hb, ?_, r⟩
    rw [hg.block g (lt_of_block hh) (fun e => by
      rcases hne with hn | hn
      · rw [hn] at e; cases e
      · exact hn (by simpa [Value.ownBlock] using e))]
    exact hh
theorem dk_row {b : Nat} {w w' : World} {cv cv' : Value} (k : DK b w w' cv cv') {B e sz n : Nat} {v : Value} {xs : List Value} (h : w.ownsRow B e sz v n xs) (h1 : v.ownBlock ≠ some b) (h2 : cv.ownBlock = none ∨ v.ownBlock ≠ cv.ownBlock) : w'.ownsRow B e sz v n xs := by
  refine ⟨h.1, ?_⟩
  rcases h.2 with h3 | ⟨g, cap, cur, rfl, hb, hh, r⟩
  · exact .inl h3
  · refine .inr ⟨g, cap, cur, rfl, hb, ?_, r⟩
    have hcv : cv.ownBlock ≠ some g := by
      rcases h2 with hn | hn
      · rw [hn]; simp
      · exact fun e => hn (by rw [e]; rfl)
    rw [(k g (lt_of_block hh) (fun e => h1 (by subst e; rfl)) hcv).1]
    exact hh
theorem step_row {W : World} {B E : Nat} {v : Value} {L : List Stp} {s d : Ms} (h1 : d.pc = s.pc) (h2 : d.fp = s.fp) (h3 : d.ap = s.ap) (h4 : d.rv = s.rv) (h : W.ownsRow B E 10 v (L.length + 1) (flatS L ++ [.int .i64 d.pc, .int .i64 d.fp, .int .i64 d.ap, .int .i64 d.rv, .int .i64 (accA d.acc 0), .int .i64 (accA d.acc 1), .int .i64 (accA d.acc 2), .int .i64 (accI d.acc 0), .int .i64 (accI d.acc 1), .int .i64 (accI d.acc 2)])) : W.ownsRow B E 10 v (L ++ [s.note d.acc]).length (flatS (L ++ [s.note d.acc])) := by
  rw [h1, h2, h3, h4] at h
  exact flatS_own h
theorem runM_any_blank (p : Int) (cd : List In4) (k : Nat) (L : List Stp) (s t : Ms) (h : s.blank = t.blank) : runM p cd k L s = runM p cd k L t := by
  have h1 : s.pc = t.pc := by show s.blank.pc = t.blank.pc; rw [h]
  have h2 : s.fp = t.fp := by show s.blank.fp = t.blank.fp; rw [h]
  have h3 : ∀ acc, s.note acc = t.note acc := fun acc => by
    have h4 : s.ap = t.ap := by show s.blank.ap = t.blank.ap; rw [h]
    have h5 : s.rv = t.rv := by show s.blank.rv = t.blank.rv; rw [h]
    unfold Ms.note; rw [h1, h2, h4, h5]
  cases k with
  | zero => unfold runM; simp only [h, h1, h2, h3]
  | succ k => unfold runM; simp only [h, h1, h2, h3]
/-- What the document's walk comes to. -/
def DWalk (w : World) (r : Rw) (e : Ending) (w' : World) : Prop :=
  match r with
  | .done l _out mem => ∃ sv cv, e = .returned (.tuple #[sv, cv, .int .i64 0]) ∧ w'.ownsRow w.heap.size 94 10 sv l.length (flatS l) ∧ w'.ownsRow w.heap.size 110 2 cv mem.length (flatP mem) ∧ l.length ≤ 16385 ∧ Ext w w'
  | .no k => e = .returned (.tuple #[.slice none 0 0, .slice none 0 0, .int .i64 k]) ∧ Ext w w'
/-- The document's machine at the head of a round: the count of what was looked at is an old one. -/
structure DHd (w0 w : World) (b : Nat) (p : Int) (s : Ms) (cv : Value) (sl : Int) : Prop where
  blk : BlkOf w b ((dcells p cv s 0).set 12 (.int .i64 sl)) 156
  own : w.ownsRow w0.heap.size 110 2 cv s.mem.length (flatP s.mem)
  ext : Ext w0 w
  nb : w0.heap.size ≤ b
  ok : Okm p s
  lo : 2 ≤ p
  hi : p ≤ 2147483647
  len : s.mem.length ≤ 100000
  acc : s.acc = []
section
variable {w0 w w' : World} {b : Nat} {p : Int} {s : Ms} {cv : Value} {sl : Int}
theorem DHd.to (h : DHd w0 w b p s cv sl) (hx : Ext w w') : DHd w0 w' b p s cv sl := ⟨h.blk.ext hx, own_ext h.own hx, h.ext.trans hx, h.nb, h.ok, h.lo, h.hi, h.len, h.acc⟩
theorem DHd.fresh (h : DHd w0 w b p s cv sl) : DAt w0 (w.setCell ⟨b, 12, none⟩ (.int .i64 0)) b p s cv 0 := by
  have hn : cv.ownBlock ≠ some b := own_not_blk h.own h.blk (by decide)
  have hb := h.blk.set 12 (.int .i64 0)
  rw [show ((dcells p cv s 0).set 12 (.int .i64 sl)).set 12 (.int .i64 0) = dcells p cv s 0 by simp [dcells, h.acc]] at hb
  exact ⟨hb, (Turned.one (c := b) (setCell_grown _ _ _ _)).own h.own hn hn, Below.setCell h.ext h.nb _, h.nb, h.ok, h.lo, h.hi, h.len⟩
end
/-- The loop of the document's walk, at its head. -/
def DRun (w0 w : World) (b : Nat) (p : Int) (cd : List In4) (R : Rw) (lim : Int) (sv : Value) : Prop :=
  ∃ (k : Nat) (L : List Stp) (s : Ms) (cv : Value) (sl : Int), DHd w0 w b p s cv sl ∧ s.mem.length ≤ 1 + 2 * L.length ∧ (L.length : Int) + k = lim ∧ runM p cd k L s = R ∧ w.ownsRow w0.heap.size 94 10 sv L.length (flatS L)
theorem drun_next {w1 w9 W : World} {mb : Nat} {p : Int} {cd : List In4} {R : Rw} {lim : Int} {k : Nat} {L : List Stp} {s s' d : Ms} {x : In4} {v : Int} {cv sv : Value} {pc fp ap rv : Int}
    (hg : w9.grownBy W (some mb)) (hb : BlkOf W mb ((((((((((((dcells p cv d 0).set 2 (.int .i64 pc)).set 3 (.int .i64 fp)).set 4 (.int .i64 ap)).set 5 (.int .i64 rv)).set 6 (.int .i64 0)).set 7 (.int .i64 0)).set 8 (.int .i64 0)).set 9 (.int .i64 0)).set 10 (.int .i64 0)).set 11 (.int .i64 0))) 156)
    (hc : w9.ownsRow w1.heap.size 110 2 cv d.mem.length (flatP d.mem)) (hx : Ext w1 w9) (ho : w9.ownsRow w1.heap.size 94 10 sv (L ++ [s.note d.acc]).length (flatS (L ++ [s.note d.acc])))
    (g1 : pc = s'.pc) (g2 : fp = s'.fp) (g3 : ap = s'.ap) (g4 : rv = s'.rv) (ha : d.acc = s'.acc) (hm : d.mem = s'.mem) (hmm : s.mem.length ≤ 1 + 2 * L.length) (hk : (L.length : Int) + ((k + 1 : Nat) : Int) = lim) (hm7 : d.mem.length ≤ s.mem.length + 2)
    (hpc : ¬ (cd.length : Int) ≤ s.pc) (hxi : x = nthI cd s.pc.toNat) (hop : x.op ≠ 0) (hone : s.blank.one p x = .go v s') (hR : runM p cd (k + 1) L s = R) (hok : Okm p s) (hlo : 2 ≤ p) (hhi : p ≤ 2147483647) (hL : (L.length : Int) ≤ 16383) (hcb : cv.ownBlock ≠ some mb) (hsb : sv.ownBlock ≠ some mb) (hnb : w1.heap.size ≤ mb) : DRun w1 W mb p cd R lim sv := by
  subst g1 g2 g3 g4
  have hl : (L ++ [s.note d.acc]).length = L.length + 1 := by simp
  have hok' := (one_aft hlo (blank_ok hok) hone).ok
  refine ⟨k, L ++ [s.note d.acc], s'.blank, cv, d.acc.length, ⟨?_, ?_, Turned.ext (c := mb) (Turned.one hg) hx hnb hnb, hnb, blank_ok hok', hlo, hhi, ?_, rfl⟩, ?_, ?_, ?_, (Turned.one (c := mb) hg).own ho hsb hsb⟩
  · rw [show (dcells p cv s'.blank 0).set 12 (.int .i64 (d.acc.length : Int)) = ((((((((((((dcells p cv d 0).set 2 (.int .i64 s'.pc)).set 3 (.int .i64 s'.fp)).set 4 (.int .i64 s'.ap)).set 5 (.int .i64 s'.rv)).set 6 (.int .i64 0)).set 7 (.int .i64 0)).set 8 (.int .i64 0)).set 9 (.int .i64 0)).set 10 (.int .i64 0)).set 11 (.int .i64 0))) by simp [dcells, Ms.blank, accA, accI]]
    exact hb
  · show W.ownsRow w1.heap.size _ 2 cv s'.mem.length (flatP s'.mem)
    rw [← hm]
    exact (Turned.one (c := mb) hg).own hc hcb hcb
  · show s'.mem.length ≤ 100000
    rw [← hm]; omega
  · show s'.mem.length ≤ _
    rw [← hm, hl]; omega
  · rw [hl]; omega
  · rw [ha, runM_any_blank p cd k _ s'.blank s' rfl, ← hR]
    subst hxi
    rw [runM_go hpc hop hone]
section
variable {w : World} {p : Int} {sz : Int} {lv : Value} {cd : List In4} {lim : Int}
set_option maxRecDepth 100000 in
set_option maxHeartbeats 8000000 in
theorem dwalk_any (hc : Inqs w lv cd) (hlo : 3 ≤ p) (hhi : p ≤ 2147483647) : Calls Tryz.prog 49 #[.int .i64 p, .agg #[.int .i64 sz, lv], .int .i64 lim] w (DWalk w (walkM p sz cd lim)) := by
  have hll : ∀ w', (Builtin.len_ #[22] 3 #[lv]).run Tryz.prog w' = .ok (.int .i64 cd.length) w' := fun w' => hc.run_len (P := Tryz.prog) slIns 3 w'
  have hcl := hc.len
  obtain ⟨ao, cap, rfl⟩ := hc.shape
  have hxk := Ext.alloc w (Obj.cells #[.int .i64 sz, .slice ao cd.length cap] 24)
  have hbk := BlkOf.new w [.int .i64 sz, .slice ao cd.length cap] 24
  have hck := hc.ext hxk
  have HXK := Lib.hid hxk; have HBK := Lib.hid hbk; have HCK := Lib.hid hck
  clear hc hxk hbk hck
  go_enter Tryz.func49, Tryz.ntmps49
  go_wp2_with fail
  refine (dfault_any (p := p) (sz := sz) (lim := lim) HCK.out).mono ?_
  rintro e w1 ⟨rfl, hx1⟩
  have hXW := HXK.out.trans hx1
  have hB1 := HBK.out.ext hx1
  have hC1 := HCK.out.ext hx1
  have hlt := hB1.lt
  have HQ : Hid (w.heap.size < w1.heap.size) := Lib.hid hlt
  clear HXK HBK HCK hx1 hlt
  generalize hkb : w.heap.size = kb at hB1 ⊢
  have HXW := Lib.hid hXW; have HB := Lib.hid hB1; have HC := Lib.hid hC1; have HKB := Lib.hid hkb
  clear hXW hB1 hC1 hkb
  by_cases hf : faultM p sz cd.length lim = 0
  · rw [hf]
    have HR : Hid (walkM p sz cd lim = runM p cd lim.toNat [] (startM p sz)) := Lib.hid (by unfold walkM; rw [if_pos hf])
    have hb : 0 ≤ sz ∧ sz ≤ 65536 ∧ 0 ≤ lim ∧ lim ≤ 16384 := by
      unfold faultM at hf
      split at hf
      · cases hf
      · split at hf
        · cases hf
        · omega
    obtain ⟨hs0, hs1, hl0, hl1⟩ := hb
    clear hf
    have hlo2 : 2 ≤ p := by omega
    have hone : fof p 1 = 1 := fof_small ⟨by omega, by omega⟩
    have hw1 : IntKind.i64.wrap (1 + sz) = 1 + sz := IntWalk.i64_in _ (by omega)
    have s1 : (w1.alloc (Obj.cells #[.int .i64 0, .int .i64 0] 110)).heap.size = w1.heap.size + 1 := by simp
    have x1 := Ext.alloc w1 (Obj.cells #[.int .i64 0, .int .i64 0] 110)
    have x2 := Ext.alloc (w1.alloc (Obj.cells #[.int .i64 0, .int .i64 0] 110)) (Obj.cells #[.int .i64 p, .slice (some ⟨w1.heap.size, 0, none⟩) 1 1, .int .i64 0, .int .i64 0, .int .i64 0, .int .i64 0, .int .i64 0, .int .i64 0, .int .i64 0, .int .i64 0, .int .i64 0, .int .i64 0, .int .i64 0, .int .i64 0] 156)
    have B1 : BlkOf ((w1.alloc (Obj.cells #[.int .i64 0, .int .i64 0] 110)).alloc (Obj.cells #[.int .i64 p, .slice (some ⟨w1.heap.size, 0, none⟩) 1 1, .int .i64 0, .int .i64 0, .int .i64 0, .int .i64 0, .int .i64 0, .int .i64 0, .int .i64 0, .int .i64 0, .int .i64 0, .int .i64 0, .int .i64 0, .int .i64 0] 156)) (w1.heap.size + 1) [.int .i64 p, (.slice (some ⟨w1.heap.size, 0, none⟩) 1 1), .int .i64 0, .int .i64 0, .int .i64 0, .int .i64 0, .int .i64 0, .int .i64 0, .int .i64 0, .int .i64 0, .int .i64 0, .int .i64 0, .int .i64 0, .int .i64 0] 156 := by
      have := BlkOf.new (w1.alloc (Obj.cells #[.int .i64 0, .int .i64 0] 110)) [.int .i64 p, (.slice (some ⟨w1.heap.size, 0, none⟩) 1 1), .int .i64 0, .int .i64 0, .int .i64 0, .int .i64 0, .int .i64 0, .int .i64 0, .int .i64 0, .int .i64 0, .int .i64 0, .int .i64 0, .int .i64 0, .int .i64 0] 156
      rw [s1] at this; exact this
    have B0 : BlkOf ((w1.alloc (Obj.cells #[.int .i64 0, .int .i64 0] 110)).alloc (Obj.cells #[.int .i64 p, .slice (some ⟨w1.heap.size, 0, none⟩) 1 1, .int .i64 0, .int .i64 0, .int .i64 0, .int .i64 0, .int .i64 0, .int .i64 0, .int .i64 0, .int .i64 0, .int .i64 0, .int .i64 0, .int .i64 0, .int .i64 0] 156)) w1.heap.size [.int .i64 0, .int .i64 0] 110 := (BlkOf.new w1 [.int .i64 0, .int .i64 0] 110).ext x2
    have O1 : ((w1.alloc (Obj.cells #[.int .i64 0, .int .i64 0] 110)).alloc (Obj.cells #[.int .i64 p, .slice (some ⟨w1.heap.size, 0, none⟩) 1 1, .int .i64 0, .int .i64 0, .int .i64 0, .int .i64 0, .int .i64 0, .int .i64 0, .int .i64 0, .int .i64 0, .int .i64 0, .int .i64 0, .int .i64 0, .int .i64 0] 156)).ownsRow w1.heap.size 110 2 (.slice (some ⟨w1.heap.size, 0, none⟩) 1 1) 1 (flatP [(0, 0)]) := ⟨rfl, .inr ⟨w1.heap.size, 1, #[.int .i64 0, .int .i64 0], rfl, Nat.le_refl _, B0, Nat.le_refl _, by unfold maxLen; omega, rfl, rfl⟩⟩
    have hx12 := x1.trans x2
    have HB2 := Lib.hid (HB.out.ext hx12)
    have HNB : Hid (w1.heap.size ≤ w1.heap.size + 1) := Lib.hid (by omega)
    have HX12 := Lib.hid hx12; have HB1 := Lib.hid B1; have HO1 := Lib.hid O1
    clear s1 x1 x2 B1 B0 O1 hx12
    go_upto_region 5 with (fail)
    generalize ((w1.alloc (Obj.cells #[.int .i64 0, .int .i64 0] 110)).alloc (Obj.cells #[.int .i64 p, .slice (some ⟨w1.heap.size, 0, none⟩) 1 1, .int .i64 0, .int .i64 0, .int .i64 0, .int .i64 0, .int .i64 0, .int .i64 0, .int .i64 0, .int .i64 0, .int .i64 0, .int .i64 0, .int .i64 0, .int .i64 0] 156)) = W2 at *
    have b0 : W2.cell? ⟨kb, 0, none⟩ = some (.int .i64 sz) := HB2.out.cell 0
    have hkb : kb < w1.heap.size := by have := HQ.out; have := HKB.out; omega
    have m2 : W2.cell? ⟨w1.heap.size + 1, 2, none⟩ = some (.int .i64 0) := HB1.out.cell 2
    have f2 := HB1.out.free 2
    have m3 : W2.cell? ⟨w1.heap.size + 1, 3, none⟩ = some (.int .i64 0) := HB1.out.cell 3
    have f3 := HB1.out.free 3
    have m4 : W2.cell? ⟨w1.heap.size + 1, 4, none⟩ = some (.int .i64 0) := HB1.out.cell 4
    have f4 := HB1.out.free 4
    have m5 : W2.cell? ⟨w1.heap.size + 1, 5, none⟩ = some (.int .i64 0) := HB1.out.cell 5
    have f5 := HB1.out.free 5
    have m6 : W2.cell? ⟨w1.heap.size + 1, 6, none⟩ = some (.int .i64 0) := HB1.out.cell 6
    have f6 := HB1.out.free 6
    have m7 : W2.cell? ⟨w1.heap.size + 1, 7, none⟩ = some (.int .i64 0) := HB1.out.cell 7
    have f7 := HB1.out.free 7
    have m8 : W2.cell? ⟨w1.heap.size + 1, 8, none⟩ = some (.int .i64 0) := HB1.out.cell 8
    have f8 := HB1.out.free 8
    have m9 : W2.cell? ⟨w1.heap.size + 1, 9, none⟩ = some (.int .i64 0) := HB1.out.cell 9
    have f9 := HB1.out.free 9
    have m10 : W2.cell? ⟨w1.heap.size + 1, 10, none⟩ = some (.int .i64 0) := HB1.out.cell 10
    have f10 := HB1.out.free 10
    have m11 : W2.cell? ⟨w1.heap.size + 1, 11, none⟩ = some (.int .i64 0) := HB1.out.cell 11
    have f11 := HB1.out.free 11
    go_upto_region 7 with (go_at_call 27; refine (rof_any _ _ _ hlo2 hhi).mono ?_; rintro e mw ⟨rfl, rfl⟩)
    have hg : W2.grownBy ((((((((((W2.setCell ⟨w1.heap.size + 1, 2, none⟩ (.int .i64 0)).setCell ⟨w1.heap.size + 1, 3, none⟩ (.int .i64 1)).setCell ⟨w1.heap.size + 1, 4, none⟩ (.int .i64 (fof p (1 + sz)))).setCell ⟨w1.heap.size + 1, 5, none⟩ (.int .i64 0)).setCell ⟨w1.heap.size + 1, 6, none⟩ (.int .i64 0)).setCell ⟨w1.heap.size + 1, 7, none⟩ (.int .i64 0)).setCell ⟨w1.heap.size + 1, 8, none⟩ (.int .i64 0)).setCell ⟨w1.heap.size + 1, 9, none⟩ (.int .i64 0)).setCell ⟨w1.heap.size + 1, 10, none⟩ (.int .i64 0)).setCell ⟨w1.heap.size + 1, 11, none⟩ (.int .i64 0)) (some (w1.heap.size + 1)) := grown_one (grown_one (grown_one (grown_one (grown_one (grown_one (grown_one (grown_one (grown_one (setCell_grown W2 (w1.heap.size + 1) 2 (.int .i64 0)) (setCell_grown _ (w1.heap.size + 1) 3 (.int .i64 1))) (setCell_grown _ (w1.heap.size + 1) 4 (.int .i64 (fof p (1 + sz))))) (setCell_grown _ (w1.heap.size + 1) 5 (.int .i64 0))) (setCell_grown _ (w1.heap.size + 1) 6 (.int .i64 0))) (setCell_grown _ (w1.heap.size + 1) 7 (.int .i64 0))) (setCell_grown _ (w1.heap.size + 1) 8 (.int .i64 0))) (setCell_grown _ (w1.heap.size + 1) 9 (.int .i64 0))) (setCell_grown _ (w1.heap.size + 1) 10 (.int .i64 0))) (setCell_grown _ (w1.heap.size + 1) 11 (.int .i64 0))
    have hb := ((((((((((HB1.out).set 2 (.int .i64 0)).set 3 (.int .i64 1)).set 4 (.int .i64 (fof p (1 + sz)))).set 5 (.int .i64 0)).set 6 (.int .i64 0)).set 7 (.int .i64 0)).set 8 (.int .i64 0)).set 9 (.int .i64 0)).set 10 (.int .i64 0)).set 11 (.int .i64 0)
    have hd : DHd w1 ((((((((((W2.setCell ⟨w1.heap.size + 1, 2, none⟩ (.int .i64 0)).setCell ⟨w1.heap.size + 1, 3, none⟩ (.int .i64 1)).setCell ⟨w1.heap.size + 1, 4, none⟩ (.int .i64 (fof p (1 + sz)))).setCell ⟨w1.heap.size + 1, 5, none⟩ (.int .i64 0)).setCell ⟨w1.heap.size + 1, 6, none⟩ (.int .i64 0)).setCell ⟨w1.heap.size + 1, 7, none⟩ (.int .i64 0)).setCell ⟨w1.heap.size + 1, 8, none⟩ (.int .i64 0)).setCell ⟨w1.heap.size + 1, 9, none⟩ (.int .i64 0)).setCell ⟨w1.heap.size + 1, 10, none⟩ (.int .i64 0)).setCell ⟨w1.heap.size + 1, 11, none⟩ (.int .i64 0)) (w1.heap.size + 1) p (startM p sz) (.slice (some ⟨w1.heap.size, 0, none⟩) 1 1) 0 := by
      refine ⟨?_, ?_, Turned.ext (c := w1.heap.size + 1) (Turned.one hg) HX12.out (by omega) (by omega), by omega, start_ok hlo2, hlo2, hhi, by simp [startM], rfl⟩
      · rw [show (dcells p (.slice (some ⟨w1.heap.size, 0, none⟩) 1 1) (startM p sz) 0).set 12 (.int .i64 0) = dcells p (.slice (some ⟨w1.heap.size, 0, none⟩) 1 1) (startM p sz) 0 by simp [dcells, startM]]
        rw [show dcells p (.slice (some ⟨w1.heap.size, 0, none⟩) 1 1) (startM p sz) 0 = [.int .i64 p, (.slice (some ⟨w1.heap.size, 0, none⟩) 1 1), .int .i64 0, .int .i64 1, .int .i64 (fof p (1 + sz)), .int .i64 0, .int .i64 0, .int .i64 0, .int .i64 0, .int .i64 0, .int .i64 0, .int .i64 0, .int .i64 0, .int .i64 0] by simp [dcells, startM, accA, accI, hone]]
        exact hb
      · exact (Turned.one (c := w1.heap.size + 1) hg).own HO1.out (by simp [Value.ownBlock]) (by simp [Value.ownBlock])
    have hbk := HB2.out.grown hg (fun e => by have := Option.some.inj e; omega)
    have HDR : Hid (DRun w1 ((((((((((W2.setCell ⟨w1.heap.size + 1, 2, none⟩ (.int .i64 0)).setCell ⟨w1.heap.size + 1, 3, none⟩ (.int .i64 1)).setCell ⟨w1.heap.size + 1, 4, none⟩ (.int .i64 (fof p (1 + sz)))).setCell ⟨w1.heap.size + 1, 5, none⟩ (.int .i64 0)).setCell ⟨w1.heap.size + 1, 6, none⟩ (.int .i64 0)).setCell ⟨w1.heap.size + 1, 7, none⟩ (.int .i64 0)).setCell ⟨w1.heap.size + 1, 8, none⟩ (.int .i64 0)).setCell ⟨w1.heap.size + 1, 9, none⟩ (.int .i64 0)).setCell ⟨w1.heap.size + 1, 10, none⟩ (.int .i64 0)).setCell ⟨w1.heap.size + 1, 11, none⟩ (.int .i64 0)) (w1.heap.size + 1) p cd (walkM p sz cd lim) lim (.slice none 0 0)) := Lib.hid ⟨lim.toNat, [], startM p sz, _, 0, hd, by simp [startM], by simp; omega, HR.out.symm, World.ownsRow_nil _ _ _ _⟩
    have HBK := Lib.hid hbk
    have hbx : kb ≠ w1.heap.size + 1 := by omega
    clear hg hb hd hbk m2 f2 m3 f3 m4 f4 m5 f5 m6 f6 m7 f7 m8 f8 m9 f9 m10 f10 m11 f11 b0 HO1 HB1 HB2 HX12 hone
    generalize ((((((((((W2.setCell ⟨w1.heap.size + 1, 2, none⟩ (.int .i64 0)).setCell ⟨w1.heap.size + 1, 3, none⟩ (.int .i64 1)).setCell ⟨w1.heap.size + 1, 4, none⟩ (.int .i64 (fof p (1 + sz)))).setCell ⟨w1.heap.size + 1, 5, none⟩ (.int .i64 0)).setCell ⟨w1.heap.size + 1, 6, none⟩ (.int .i64 0)).setCell ⟨w1.heap.size + 1, 7, none⟩ (.int .i64 0)).setCell ⟨w1.heap.size + 1, 8, none⟩ (.int .i64 0)).setCell ⟨w1.heap.size + 1, 9, none⟩ (.int .i64 0)).setCell ⟨w1.heap.size + 1, 10, none⟩ (.int .i64 0)).setCell ⟨w1.heap.size + 1, 11, none⟩ (.int .i64 0)) = W3 at *
    generalize w1.heap.size + 1 = mb at *
    have HBX := Lib.hid hbx
    clear hbx
    go_wp2_with fail
    -- LOOP
    go_loopw [12] (fun x12 wr => DRun w1 wr mb p cd (walkM p sz cd lim) lim x12) (fun x12 _ => 20000 - slen x12)
    case atStart => exact HDR.out
    case round =>
      clear HDR HBK
      obtain ⟨k, L, s, cv, sl, h, hmm, hk, hR, ho⟩ := hrel
      have hls : ∀ w', (Builtin.len_ #[87] 3 #[u12]).run Tryz.prog w' = .ok (.int .i64 L.length) w' := fun w' => Sl.run_len (P := Tryz.prog) (Sl.of_own ho (by omega)) slStep 3 w'
      obtain ⟨sa, scap, rfl⟩ := own_shape ho
      have hnsb : ((.slice sa L.length scap) : Value).ownBlock ≠ some mb := own_not_blk ho h.blk (by decide)
      have hcsb : cv.ownBlock ≠ some mb := own_not_blk h.own h.blk (by decide)
      have c2 : wr.cell? ⟨mb, 2, none⟩ = some (.int .i64 s.pc) := h.blk.cell 2
      have b1 : wr.cell? ⟨kb, 1, none⟩ = some (.slice ao cd.length cap) := (HB.out.ext h.ext).cell 1
      have hpc0 := h.ok.pc
      have hlen : L.length + 1 ≤ 4294967296 := by omega
      have H := Lib.hid h; have HMM := Lib.hid hmm; have HK := Lib.hid hk; have HRR := Lib.hid hR; have HO := Lib.hid ho; have HNS := Lib.hid hnsb; have HCS := Lib.hid hcsb
      clear h hmm hk hR ho hnsb hcsb
      by_cases hpc : (cd.length : Int) ≤ s.pc
      · have d8 : decide ((cd.length : Int) ≤ s.pc) = true := by simpa using hpc
        have HPC := Lib.hid hpc; clear hpc
        go_wp2_with fail
        go_quiet (fail)
        go_wp2_with fail
        go_ret3
        rw [← HRR.out, runM_out HPC.out]
        exact ⟨rfl, (HXW.out.trans H.out.ext).trans (Ext.drewN _ _)⟩
      · have d8 : decide ((cd.length : Int) ≤ s.pc) = false := by simpa using hpc
        have HPC := Lib.hid hpc
        go_wp2_with fail
        go_quiet (fail)
        replace H := Lib.hid (H.out.to (Ext.drewN wr nq)); replace HO := Lib.hid (own_ext HO.out (Ext.drewN wr nq))
        clear c2 b1 d8
        generalize wr.drewN nq = W4 at *
        have c2 : W4.cell? ⟨mb, 2, none⟩ = some (.int .i64 s.pc) := H.out.blk.cell 2
        have b1 : W4.cell? ⟨kb, 1, none⟩ = some (.slice ao cd.length cap) := (HB.out.ext H.out.ext).cell 1
        have hj : s.pc.toNat < cd.length := by omega
        have hpl : s.pc < cd.length := by omega
        have hcode := HC.out.ext H.out.ext
        have hix : ∀ w', (Instr.indexAt 22 (.slice ao cd.length cap) (.int .i64 s.pc)).run Tryz.prog w' = .ok (.pointer (some (elt (.slice ao cd.length cap) s.pc.toNat 4))) w' := fun w' => by
          have := hcode.run_index (P := Tryz.prog) slIns s.pc.toNat hj w'
          rw [Int.toNat_of_nonneg hpc0.1] at this; exact this
        have e0 := hcode.c0 s.pc.toNat hj
        have e1 := hcode.c1 s.pc.toNat hj
        have e2 := hcode.c2 s.pc.toNat hj
        have e3 := hcode.c3 s.pc.toNat hj
        clear hcode hj hpc
        obtain ⟨x, hx⟩ : ∃ x, x = nthI cd s.pc.toNat := ⟨_, rfl⟩
        rw [← hx] at e0 e1 e2 e3
        have HXI := Lib.hid hx; clear hx
        generalize elt (.slice ao cd.length cap) s.pc.toNat 4 = ea at *
        have q1 := World.new_ne W4 _ e0
        have q2 := World.new_ne W4 _ c2
        have q3 := World.new_ne W4 _ b1
        go_wp2_with fail
        go_region_held3 (fun w' => w'.cell? ⟨mb, 2, none⟩ = some (.int .i64 s.pc) ∧ w'.cell? ⟨kb, 1, none⟩ = some (.slice ao cd.length cap) ∧ w'.cell? ea = some (.int .i64 x.op) ∧ w'.cell? ⟨ea.block, ea.off + 1, none⟩ = some (.int .i64 x.a) ∧ w'.cell? ⟨ea.block, ea.off + 2, none⟩ = some (.int .i64 x.b) ∧ w'.cell? ⟨ea.block, ea.off + 3, none⟩ = some (.int .i64 x.c)) (go_keep) (fail)
        rename_i hHeld; clear hHeld
        have hxA : Ext W4 (W4.alloc (.cells #[.int .i64 x.op, .int .i64 x.a, .int .i64 x.b, .int .i64 x.c] 97)).drew := (Ext.alloc _ _).trans (Ext.drew _)
        have hbA : BlkOf (W4.alloc (.cells #[.int .i64 x.op, .int .i64 x.a, .int .i64 x.b, .int .i64 x.c] 97)).drew W4.heap.size (insCs x) 97 := BlkOf.new W4 (insCs x) 97
        have hz1 : W4.heap.size ≠ mb := by have := H.out.blk.lt; omega
        have hz2 : cv.ownBlock ≠ some W4.heap.size := fun e => by have := (H.out.own.lt _ e).2; omega
        have hz3 : w1.heap.size ≤ W4.heap.size := H.out.ext.size
        replace H := Lib.hid (H.out.to hxA); replace HO := Lib.hid (own_ext HO.out hxA)
        have HI := Lib.hid hbA; have HZ1 := Lib.hid hz1; have HZ2 := Lib.hid hz2; have HZ3 := Lib.hid hz3
        clear c2 b1 e0 e1 e2 e3 q1 q2 q3 hix hxA hbA hz1 hz2 hz3
        generalize (W4.alloc (.cells #[.int .i64 x.op, .int .i64 x.a, .int .i64 x.b, .int .i64 x.c] 97)).drew = W5 at *
        generalize W4.heap.size = zb at *
        have z0 : W5.cell? ⟨zb, 0, none⟩ = some (.int .i64 x.op) := HI.out.cell 0
        have z1 : W5.cell? ⟨zb, 1, none⟩ = some (.int .i64 x.a) := HI.out.cell 1
        have z2 : W5.cell? ⟨zb, 2, none⟩ = some (.int .i64 x.b) := HI.out.cell 2
        have z3 : W5.cell? ⟨zb, 3, none⟩ = some (.int .i64 x.c) := HI.out.cell 3
        have c12 : W5.cell? ⟨mb, 12, none⟩ = some (.int .i64 sl) := H.out.blk.cell 12
        have f12 := H.out.blk.free 12
        have hkl := HK.out
        by_cases hop : x.op = 0
        · have hob : (x.op != 0) = false := by simpa using hop
          have HOP := Lib.hid hop; clear hop
          cases k with
          | zero =>
            have hlb : ((L.length : Int) == lim) = true := by simpa using hkl
            clear hkl
            go_upto_region 14 with (fail)
            have hd := H.out.fresh
            have hg := setCell_grown W5 mb 12 (.int .i64 0)
            have hi6 := HI.out.grown hg (fun e => HZ1.out (Option.some.inj e))
            have ho6 := (Turned.one (c := mb) hg).own HO.out HNS.out HNS.out
            have HACC := Lib.hid H.out.acc; have HMX := Lib.hid H.out.ok
            clear H HI HO z0 z1 z2 z3 c12 f12 hg
            generalize W5.setCell ⟨mb, 12, none⟩ (.int .i64 0) = W6 at *
            have H := Lib.hid hd; have HI := Lib.hid hi6; have HO := Lib.hid ho6
            clear hd hi6 ho6
            have z0 : W6.cell? ⟨zb, 0, none⟩ = some (.int .i64 x.op) := HI.out.cell 0
            have z1 : W6.cell? ⟨zb, 1, none⟩ = some (.int .i64 x.a) := HI.out.cell 1
            have z2 : W6.cell? ⟨zb, 2, none⟩ = some (.int .i64 x.b) := HI.out.cell 2
            have z3 : W6.cell? ⟨zb, 3, none⟩ = some (.int .i64 x.c) := HI.out.cell 3
            have hnse := own_ne_own HO.out H.out.own (by decide)
            go_wp2_with fail
            refine (ddo_any H.out x HACC.out (by have := HMM.out; have := HK.out; omega)).mono ?_
            rintro e w7 ⟨d, cv7, pc, fp, ap, rv, rfl, hd7, hk7, ha7, hm7, hz7, hs7⟩
            have ho7 := dk_row hk7 HO.out HNS.out hnse
            have hi7 := hk7.blk HI.out HZ1.out HZ2.out
            have hx8 := Ext.alloc w7 (Obj.cells #[.int .i64 pc, .int .i64 fp, .int .i64 ap, .int .i64 rv, .int .i64 0, .int .i64 0, .int .i64 0, .int .i64 0, .int .i64 0, .int .i64 0] 94)
            have hn8 := BlkOf.new w7 (ncs pc fp ap rv) 94
            replace hn8 : BlkOf (w7.alloc (Obj.cells #[.int .i64 pc, .int .i64 fp, .int .i64 ap, .int .i64 rv, .int .i64 0, .int .i64 0, .int .i64 0, .int .i64 0, .int .i64 0, .int .i64 0] 94)) w7.heap.size (ncs pc fp ap rv) 94 := hn8
            have hne8 : w7.heap.size ≠ mb := by have := hd7.blk.lt; omega
            have hsv8 : ((.slice sa L.length scap) : Value).ownBlock ≠ some w7.heap.size := fun e => by have := (ho7.lt _ e).2; omega
            have HD := Lib.hid (hd7.to hx8); have HA7 := Lib.hid ha7; have HM7 := Lib.hid hm7; have HZZ := Lib.hid hz7; have HSS := Lib.hid hs7; have HN8 := Lib.hid hn8; have HNE8 := Lib.hid hne8; have HSV8 := Lib.hid hsv8
            clear H HI HO z0 z1 z2 z3 hnse hd7 hk7 ha7 hm7 hz7 hs7 hn8 hne8 hsv8
            have HO := Lib.hid (own_ext ho7 hx8); have HI := Lib.hid (hi7.ext hx8); clear ho7 hi7 hx8
            go_upto_region 15 with (fail)
            generalize (w7.alloc (Obj.cells #[.int .i64 pc, .int .i64 fp, .int .i64 ap, .int .i64 rv, .int .i64 0, .int .i64 0, .int .i64 0, .int .i64 0, .int .i64 0, .int .i64 0] 94)) = W8 at *
            generalize w7.heap.size = nb at *
            have c13 : W8.cell? ⟨mb, 13, none⟩ = some (.int .i64 d.er) := HD.out.blk.cell 13
            have HEX := Lib.hid HD.out.ext
            have hdz := HZZ.out HOP.out
            cases hl : lk s.mem (fadd p s.fp x.a) with
            | none =>
              have hde : d = ⟨s, 10⟩ := by rw [hdz, dlook_d0, hl]
              have her : d.er = 10 := by rw [hde]
              rw [her] at c13
              have HL := Lib.hid hl; clear hdz hl hde her
              go_wp2_with fail
              go_quiet (fail)
              go_wp2_with fail
              go_ret3
              rw [← HRR.out, runM_blank (by have := HPC.out; omega) (by rw [← HXI.out]; exact HOP.out) (by rw [← HXI.out]; exact HL.out)]
              exact ⟨rfl, (HXW.out.trans HEX.out).trans (Ext.drewN _ _)⟩
            | some v =>
              have hde : d = ⟨s.noted (fadd p s.fp x.a) v, 0⟩ := by rw [hdz, dlook_d0, hl]
              have her : d.er = 0 := by rw [hde]
              rw [her] at c13 HD
              have HL := Lib.hid hl; have HDE := Lib.hid hde; clear hdz hl hde her
              have c2 : W8.cell? ⟨mb, 2, none⟩ = some (.int .i64 d.s.pc) := HD.out.blk.cell 2
              have c3 : W8.cell? ⟨mb, 3, none⟩ = some (.int .i64 d.s.fp) := HD.out.blk.cell 3
              have c4 : W8.cell? ⟨mb, 4, none⟩ = some (.int .i64 d.s.ap) := HD.out.blk.cell 4
              have c5 : W8.cell? ⟨mb, 5, none⟩ = some (.int .i64 d.s.rv) := HD.out.blk.cell 5
              have c6 : W8.cell? ⟨mb, 6, none⟩ = some (.int .i64 (accA d.s.acc 0)) := HD.out.blk.cell 6
              have c7 : W8.cell? ⟨mb, 7, none⟩ = some (.int .i64 (accA d.s.acc 1)) := HD.out.blk.cell 7
              have c8 : W8.cell? ⟨mb, 8, none⟩ = some (.int .i64 (accA d.s.acc 2)) := HD.out.blk.cell 8
              have c9 : W8.cell? ⟨mb, 9, none⟩ = some (.int .i64 (accI d.s.acc 0)) := HD.out.blk.cell 9
              have c10 : W8.cell? ⟨mb, 10, none⟩ = some (.int .i64 (accI d.s.acc 1)) := HD.out.blk.cell 10
              have c11 : W8.cell? ⟨mb, 11, none⟩ = some (.int .i64 (accI d.s.acc 2)) := HD.out.blk.cell 11
              have HOo := HO.out
              have hxx := HD.out.ext.size
              go_upto_region 18 with (refine wpList_appNw rfl _ _ 87 rfl slStep rfl hxx HOo rfl #[.int .i64 d.s.pc, .int .i64 d.s.fp, .int .i64 d.s.ap, .int .i64 d.s.rv, .int .i64 (accA d.s.acc 0), .int .i64 (accA d.s.acc 1), .int .i64 (accA d.s.acc 2), .int .i64 (accI d.s.acc 0), .int .i64 (accI d.s.acc 1), .int .i64 (accI d.s.acc 2)] rfl (by simp [Value.oneCell']) rfl hlen (by omega) ?_; intro v9 w9 HO9 HG9 HM9; obtain ⟨va, vcap, rfl⟩ := own_shape HO9; have HO9x := Lib.hid HO9; have HG9x := Lib.hid HG9; clear HO9 HG9 HM9)
              have hb9 := HD.out.blk.grown HG9x.out (fun e => HNS.out e.symm)
              have hc9 : w9.ownsRow w1.heap.size 110 2 cv7 d.s.mem.length (flatP d.s.mem) := row_grown HD.out.own HG9x.out (own_ne_own HD.out.own HOo (by decide))
              have hx9 : Ext w1 w9 := Ext.own_grown HD.out.ext HOo HG9x.out
              have hi9 := HI.out.grown HG9x.out (fun e => own_not_blk HOo HI.out (by decide) e.symm)
              have hn9 := HN8.out.grown HG9x.out (fun e => HSV8.out e.symm)
              have z0 : w9.cell? ⟨zb, 0, none⟩ = some (.int .i64 x.op) := hi9.cell 0
              have HB9 := Lib.hid hb9; have HC9 := Lib.hid hc9; have HX9 := Lib.hid hx9; have HI9 := Lib.hid hi9; have HN9 := Lib.hid hn9; have HOK := Lib.hid HD.out.ok; have HLN := Lib.hid HD.out.len
              clear c2 c3 c4 c5 c6 c7 c8 c9 c10 c11 c13 hb9 hc9 hx9 hi9 hn9 hxx HOo HD HO HI HN8
              have hop0 : (x.op == 0) = true := by simpa using HOP.out
              have c1 : w9.cell? ⟨mb, 1, none⟩ = some cv7 := HB9.out.cell 1
              go_wp2_with fail
              go_quiet (fail)
              go_wp2_with fail
              go_ret3
              rw [← HRR.out, runM_halt (by have := HPC.out; omega) (by rw [← HXI.out]; exact HOP.out) (by rw [← HXI.out]; exact HL.out), ← HXI.out]
              have hacc : d.s.acc = [(fadd p s.fp x.a, v)] := by rw [HDE.out]; show s.acc ++ _ = _; rw [HACC.out]; rfl
              have hmem : d.s.mem = s.mem := by rw [HDE.out]; rfl
              have hregs : d.s.pc = s.pc ∧ d.s.fp = s.fp ∧ d.s.ap = s.ap ∧ d.s.rv = s.rv := by rw [HDE.out]; exact ⟨rfl, rfl, rfl, rfl⟩
              have hoF := step_row hregs.1 hregs.2.1 hregs.2.2.1 hregs.2.2.2 HO9x.out
              rw [hacc] at hoF
              have hcF := HC9.out
              rw [hmem] at hcF
              have hsz : w.heap.size ≤ w1.heap.size := by have := HQ.out; omega
              exact ⟨_, _, rfl, own_ext (ownrow_lower hoF hsz) (Ext.drewN _ _), own_ext (ownrow_lower hcF hsz) (Ext.drewN _ _), by have := HK.out; simp; omega, (HXW.out.trans HX9.out).trans (Ext.drewN _ _)⟩
          | succ k =>
            have hlb : ((L.length : Int) == lim) = false := by rw [beq_eq_false_iff_ne]; omega
            clear hkl
            go_upto_region 14 with (fail)
            have hd := H.out.fresh
            have hg := setCell_grown W5 mb 12 (.int .i64 0)
            have hi6 := HI.out.grown hg (fun e => HZ1.out (Option.some.inj e))
            have ho6 := (Turned.one (c := mb) hg).own HO.out HNS.out HNS.out
            have HACC := Lib.hid H.out.acc; have HMX := Lib.hid H.out.ok
            clear H HI HO z0 z1 z2 z3 c12 f12 hg
            generalize W5.setCell ⟨mb, 12, none⟩ (.int .i64 0) = W6 at *
            have H := Lib.hid hd; have HI := Lib.hid hi6; have HO := Lib.hid ho6
            clear hd hi6 ho6
            have z0 : W6.cell? ⟨zb, 0, none⟩ = some (.int .i64 x.op) := HI.out.cell 0
            have z1 : W6.cell? ⟨zb, 1, none⟩ = some (.int .i64 x.a) := HI.out.cell 1
            have z2 : W6.cell? ⟨zb, 2, none⟩ = some (.int .i64 x.b) := HI.out.cell 2
            have z3 : W6.cell? ⟨zb, 3, none⟩ = some (.int .i64 x.c) := HI.out.cell 3
            have hnse := own_ne_own HO.out H.out.own (by decide)
            go_wp2_with fail
            refine (ddo_any H.out x HACC.out (by have := HMM.out; have := HK.out; omega)).mono ?_
            rintro e w7 ⟨d, cv7, pc, fp, ap, rv, rfl, hd7, hk7, ha7, hm7, hz7, hs7⟩
            have ho7 := dk_row hk7 HO.out HNS.out hnse
            have hi7 := hk7.blk HI.out HZ1.out HZ2.out
            have hx8 := Ext.alloc w7 (Obj.cells #[.int .i64 pc, .int .i64 fp, .int .i64 ap, .int .i64 rv, .int .i64 0, .int .i64 0, .int .i64 0, .int .i64 0, .int .i64 0, .int .i64 0] 94)
            have hn8 := BlkOf.new w7 (ncs pc fp ap rv) 94
            replace hn8 : BlkOf (w7.alloc (Obj.cells #[.int .i64 pc, .int .i64 fp, .int .i64 ap, .int .i64 rv, .int .i64 0, .int .i64 0, .int .i64 0, .int .i64 0, .int .i64 0, .int .i64 0] 94)) w7.heap.size (ncs pc fp ap rv) 94 := hn8
            have hne8 : w7.heap.size ≠ mb := by have := hd7.blk.lt; omega
            have hsv8 : ((.slice sa L.length scap) : Value).ownBlock ≠ some w7.heap.size := fun e => by have := (ho7.lt _ e).2; omega
            have HD := Lib.hid (hd7.to hx8); have HA7 := Lib.hid ha7; have HM7 := Lib.hid hm7; have HZZ := Lib.hid hz7; have HSS := Lib.hid hs7; have HN8 := Lib.hid hn8; have HNE8 := Lib.hid hne8; have HSV8 := Lib.hid hsv8
            clear H HI HO z0 z1 z2 z3 hnse hd7 hk7 ha7 hm7 hz7 hs7 hn8 hne8 hsv8
            have HO := Lib.hid (own_ext ho7 hx8); have HI := Lib.hid (hi7.ext hx8); clear ho7 hi7 hx8
            go_upto_region 15 with (fail)
            generalize (w7.alloc (Obj.cells #[.int .i64 pc, .int .i64 fp, .int .i64 ap, .int .i64 rv, .int .i64 0, .int .i64 0, .int .i64 0, .int .i64 0, .int .i64 0, .int .i64 0] 94)) = W8 at *
            generalize w7.heap.size = nb at *
            have c13 : W8.cell? ⟨mb, 13, none⟩ = some (.int .i64 d.er) := HD.out.blk.cell 13
            have HEX := Lib.hid HD.out.ext
            have hdz := HZZ.out HOP.out
            cases hl : lk s.mem (fadd p s.fp x.a) with
            | none =>
              have hde : d = ⟨s, 10⟩ := by rw [hdz, dlook_d0, hl]
              have her : d.er = 10 := by rw [hde]
              rw [her] at c13
              have HL := Lib.hid hl; clear hdz hl hde her
              go_wp2_with fail
              go_quiet (fail)
              go_wp2_with fail
              go_ret3
              rw [← HRR.out, runM_blank (by have := HPC.out; omega) (by rw [← HXI.out]; exact HOP.out) (by rw [← HXI.out]; exact HL.out)]
              exact ⟨rfl, (HXW.out.trans HEX.out).trans (Ext.drewN _ _)⟩
            | some v =>
              have hde : d = ⟨s.noted (fadd p s.fp x.a) v, 0⟩ := by rw [hdz, dlook_d0, hl]
              have her : d.er = 0 := by rw [hde]
              rw [her] at c13 HD
              have HL := Lib.hid hl; have HDE := Lib.hid hde; clear hdz hl hde her
              have c2 : W8.cell? ⟨mb, 2, none⟩ = some (.int .i64 d.s.pc) := HD.out.blk.cell 2
              have c3 : W8.cell? ⟨mb, 3, none⟩ = some (.int .i64 d.s.fp) := HD.out.blk.cell 3
              have c4 : W8.cell? ⟨mb, 4, none⟩ = some (.int .i64 d.s.ap) := HD.out.blk.cell 4
              have c5 : W8.cell? ⟨mb, 5, none⟩ = some (.int .i64 d.s.rv) := HD.out.blk.cell 5
              have c6 : W8.cell? ⟨mb, 6, none⟩ = some (.int .i64 (accA d.s.acc 0)) := HD.out.blk.cell 6
              have c7 : W8.cell? ⟨mb, 7, none⟩ = some (.int .i64 (accA d.s.acc 1)) := HD.out.blk.cell 7
              have c8 : W8.cell? ⟨mb, 8, none⟩ = some (.int .i64 (accA d.s.acc 2)) := HD.out.blk.cell 8
              have c9 : W8.cell? ⟨mb, 9, none⟩ = some (.int .i64 (accI d.s.acc 0)) := HD.out.blk.cell 9
              have c10 : W8.cell? ⟨mb, 10, none⟩ = some (.int .i64 (accI d.s.acc 1)) := HD.out.blk.cell 10
              have c11 : W8.cell? ⟨mb, 11, none⟩ = some (.int .i64 (accI d.s.acc 2)) := HD.out.blk.cell 11
              have HOo := HO.out
              have hxx := HD.out.ext.size
              go_upto_region 18 with (refine wpList_appNw rfl _ _ 87 rfl slStep rfl hxx HOo rfl #[.int .i64 d.s.pc, .int .i64 d.s.fp, .int .i64 d.s.ap, .int .i64 d.s.rv, .int .i64 (accA d.s.acc 0), .int .i64 (accA d.s.acc 1), .int .i64 (accA d.s.acc 2), .int .i64 (accI d.s.acc 0), .int .i64 (accI d.s.acc 1), .int .i64 (accI d.s.acc 2)] rfl (by simp [Value.oneCell']) rfl hlen (by omega) ?_; intro v9 w9 HO9 HG9 HM9; obtain ⟨va, vcap, rfl⟩ := own_shape HO9; have HO9x := Lib.hid HO9; have HG9x := Lib.hid HG9; clear HO9 HG9 HM9)
              have hb9 := HD.out.blk.grown HG9x.out (fun e => HNS.out e.symm)
              have hc9 : w9.ownsRow w1.heap.size 110 2 cv7 d.s.mem.length (flatP d.s.mem) := row_grown HD.out.own HG9x.out (own_ne_own HD.out.own HOo (by decide))
              have hx9 : Ext w1 w9 := Ext.own_grown HD.out.ext HOo HG9x.out
              have hi9 := HI.out.grown HG9x.out (fun e => own_not_blk HOo HI.out (by decide) e.symm)
              have hn9 := HN8.out.grown HG9x.out (fun e => HSV8.out e.symm)
              have z0 : w9.cell? ⟨zb, 0, none⟩ = some (.int .i64 x.op) := hi9.cell 0
              have HB9 := Lib.hid hb9; have HC9 := Lib.hid hc9; have HX9 := Lib.hid hx9; have HI9 := Lib.hid hi9; have HN9 := Lib.hid hn9; have HOK := Lib.hid HD.out.ok; have HLN := Lib.hid HD.out.len
              clear c2 c3 c4 c5 c6 c7 c8 c9 c10 c11 c13 hb9 hc9 hx9 hi9 hn9 hxx HOo HD HO HI HN8
              have hop0 : (x.op == 0) = true := by simpa using HOP.out
              have c1 : w9.cell? ⟨mb, 1, none⟩ = some cv7 := HB9.out.cell 1
              go_wp2_with fail
              go_quiet (fail)
              go_wp2_with fail
              go_ret3
              rw [← HRR.out, runM_halt (by have := HPC.out; omega) (by rw [← HXI.out]; exact HOP.out) (by rw [← HXI.out]; exact HL.out), ← HXI.out]
              have hacc : d.s.acc = [(fadd p s.fp x.a, v)] := by rw [HDE.out]; show s.acc ++ _ = _; rw [HACC.out]; rfl
              have hmem : d.s.mem = s.mem := by rw [HDE.out]; rfl
              have hregs : d.s.pc = s.pc ∧ d.s.fp = s.fp ∧ d.s.ap = s.ap ∧ d.s.rv = s.rv := by rw [HDE.out]; exact ⟨rfl, rfl, rfl, rfl⟩
              have hoF := step_row hregs.1 hregs.2.1 hregs.2.2.1 hregs.2.2.2 HO9x.out
              rw [hacc] at hoF
              have hcF := HC9.out
              rw [hmem] at hcF
              have hsz : w.heap.size ≤ w1.heap.size := by have := HQ.out; omega
              exact ⟨_, _, rfl, own_ext (ownrow_lower hoF hsz) (Ext.drewN _ _), own_ext (ownrow_lower hcF hsz) (Ext.drewN _ _), by have := HK.out; simp; omega, (HXW.out.trans HX9.out).trans (Ext.drewN _ _)⟩
        · have hob : (x.op != 0) = true := by simpa using hop
          have HOP := Lib.hid hop; clear hop
          cases k with
          | zero =>
            have hlb : ((L.length : Int) == lim) = true := by simpa using hkl
            clear hkl
            go_wp2_with fail
            go_ret3
            rw [← HRR.out, runM_long (by have := HPC.out; omega) (by rw [← HXI.out]; exact HOP.out)]
            exact ⟨rfl, HXW.out.trans H.out.ext⟩
          | succ k =>
            have hlb : ((L.length : Int) == lim) = false := by rw [beq_eq_false_iff_ne]; omega
            have hL1 : (L.length : Int) ≤ 16383 := by omega
            clear hkl
            go_upto_region 14 with (fail)
            have hd := H.out.fresh
            have hg := setCell_grown W5 mb 12 (.int .i64 0)
            have hi6 := HI.out.grown hg (fun e => HZ1.out (Option.some.inj e))
            have ho6 := (Turned.one (c := mb) hg).own HO.out HNS.out HNS.out
            have HACC := Lib.hid H.out.acc; have HMX := Lib.hid H.out.ok
            clear H HI HO z0 z1 z2 z3 c12 f12 hg
            generalize W5.setCell ⟨mb, 12, none⟩ (.int .i64 0) = W6 at *
            have H := Lib.hid hd; have HI := Lib.hid hi6; have HO := Lib.hid ho6
            clear hd hi6 ho6
            have z0 : W6.cell? ⟨zb, 0, none⟩ = some (.int .i64 x.op) := HI.out.cell 0
            have z1 : W6.cell? ⟨zb, 1, none⟩ = some (.int .i64 x.a) := HI.out.cell 1
            have z2 : W6.cell? ⟨zb, 2, none⟩ = some (.int .i64 x.b) := HI.out.cell 2
            have z3 : W6.cell? ⟨zb, 3, none⟩ = some (.int .i64 x.c) := HI.out.cell 3
            have hnse := own_ne_own HO.out H.out.own (by decide)
            go_wp2_with fail
            refine (ddo_any H.out x HACC.out (by have := HMM.out; have := HK.out; omega)).mono ?_
            rintro e w7 ⟨d, cv7, pc, fp, ap, rv, rfl, hd7, hk7, ha7, hm7, hz7, hs7⟩
            have ho7 := dk_row hk7 HO.out HNS.out hnse
            have hi7 := hk7.blk HI.out HZ1.out HZ2.out
            have hx8 := Ext.alloc w7 (Obj.cells #[.int .i64 pc, .int .i64 fp, .int .i64 ap, .int .i64 rv, .int .i64 0, .int .i64 0, .int .i64 0, .int .i64 0, .int .i64 0, .int .i64 0] 94)
            have hn8 := BlkOf.new w7 (ncs pc fp ap rv) 94
            replace hn8 : BlkOf (w7.alloc (Obj.cells #[.int .i64 pc, .int .i64 fp, .int .i64 ap, .int .i64 rv, .int .i64 0, .int .i64 0, .int .i64 0, .int .i64 0, .int .i64 0, .int .i64 0] 94)) w7.heap.size (ncs pc fp ap rv) 94 := hn8
            have hne8 : w7.heap.size ≠ mb := by have := hd7.blk.lt; omega
            have hsv8 : ((.slice sa L.length scap) : Value).ownBlock ≠ some w7.heap.size := fun e => by have := (ho7.lt _ e).2; omega
            have HD := Lib.hid (hd7.to hx8); have HA7 := Lib.hid ha7; have HM7 := Lib.hid hm7; have HZZ := Lib.hid hz7; have HSS := Lib.hid hs7; have HN8 := Lib.hid hn8; have HNE8 := Lib.hid hne8; have HSV8 := Lib.hid hsv8
            clear H HI HO z0 z1 z2 z3 hnse hd7 hk7 ha7 hm7 hz7 hs7 hn8 hne8 hsv8
            have HO := Lib.hid (own_ext ho7 hx8); have HI := Lib.hid (hi7.ext hx8); clear ho7 hi7 hx8
            go_upto_region 15 with (fail)
            generalize (w7.alloc (Obj.cells #[.int .i64 pc, .int .i64 fp, .int .i64 ap, .int .i64 rv, .int .i64 0, .int .i64 0, .int .i64 0, .int .i64 0, .int .i64 0, .int .i64 0] 94)) = W8 at *
            generalize w7.heap.size = nb at *
            have c13 : W8.cell? ⟨mb, 13, none⟩ = some (.int .i64 d.er) := HD.out.blk.cell 13
            have HEX := Lib.hid HD.out.ext
            have hss := HSS.out HOP.out
            have hbl : s.blank = s := by have := HACC.out; cases s; dsimp only at this; subst this; rfl
            cases hone : s.one p x with
            | no q =>
              rw [hone] at hss
              obtain ⟨her, hq⟩ := hss
              have hqb : (q != 0) = true := by rcases hq with rfl | rfl <;> rfl
              rw [her] at c13
              have HON := Lib.hid hone; have HBL := Lib.hid hbl; clear hone hbl her hq
              go_wp2_with fail
              go_quiet (fail)
              go_wp2_with fail
              go_ret3
              rw [← HRR.out, runM_no (by have := HPC.out; omega) (by rw [← HXI.out]; exact HOP.out) (by rw [← HXI.out, HBL.out]; exact HON.out)]
              exact ⟨rfl, (HXW.out.trans HEX.out).trans (Ext.drewN _ _)⟩
            | go v s' =>
              rw [hone] at hss
              obtain ⟨her, hds, g1, g2, g3, g4⟩ := hss
              rw [her] at c13 HD
              have HON := Lib.hid hone; have HBL := Lib.hid hbl; have HDS := Lib.hid hds; have HG := Lib.hid (And.intro g1 (And.intro g2 (And.intro g3 g4))); clear hone hbl her hds g1 g2 g3 g4
              have c2 : W8.cell? ⟨mb, 2, none⟩ = some (.int .i64 d.s.pc) := HD.out.blk.cell 2
              have c3 : W8.cell? ⟨mb, 3, none⟩ = some (.int .i64 d.s.fp) := HD.out.blk.cell 3
              have c4 : W8.cell? ⟨mb, 4, none⟩ = some (.int .i64 d.s.ap) := HD.out.blk.cell 4
              have c5 : W8.cell? ⟨mb, 5, none⟩ = some (.int .i64 d.s.rv) := HD.out.blk.cell 5
              have c6 : W8.cell? ⟨mb, 6, none⟩ = some (.int .i64 (accA d.s.acc 0)) := HD.out.blk.cell 6
              have c7 : W8.cell? ⟨mb, 7, none⟩ = some (.int .i64 (accA d.s.acc 1)) := HD.out.blk.cell 7
              have c8 : W8.cell? ⟨mb, 8, none⟩ = some (.int .i64 (accA d.s.acc 2)) := HD.out.blk.cell 8
              have c9 : W8.cell? ⟨mb, 9, none⟩ = some (.int .i64 (accI d.s.acc 0)) := HD.out.blk.cell 9
              have c10 : W8.cell? ⟨mb, 10, none⟩ = some (.int .i64 (accI d.s.acc 1)) := HD.out.blk.cell 10
              have c11 : W8.cell? ⟨mb, 11, none⟩ = some (.int .i64 (accI d.s.acc 2)) := HD.out.blk.cell 11
              have HOo := HO.out
              have hxx := HD.out.ext.size
              go_upto_region 18 with (refine wpList_appNw rfl _ _ 87 rfl slStep rfl hxx HOo rfl #[.int .i64 d.s.pc, .int .i64 d.s.fp, .int .i64 d.s.ap, .int .i64 d.s.rv, .int .i64 (accA d.s.acc 0), .int .i64 (accA d.s.acc 1), .int .i64 (accA d.s.acc 2), .int .i64 (accI d.s.acc 0), .int .i64 (accI d.s.acc 1), .int .i64 (accI d.s.acc 2)] rfl (by simp [Value.oneCell']) rfl hlen (by omega) ?_; intro v9 w9 HO9 HG9 HM9; obtain ⟨va, vcap, rfl⟩ := own_shape HO9; have HO9x := Lib.hid HO9; have HG9x := Lib.hid HG9; clear HO9 HG9 HM9)
              have hb9 := HD.out.blk.grown HG9x.out (fun e => HNS.out e.symm)
              have hc9 : w9.ownsRow w1.heap.size 110 2 cv7 d.s.mem.length (flatP d.s.mem) := row_grown HD.out.own HG9x.out (own_ne_own HD.out.own HOo (by decide))
              have hx9 : Ext w1 w9 := Ext.own_grown HD.out.ext HOo HG9x.out
              have hi9 := HI.out.grown HG9x.out (fun e => own_not_blk HOo HI.out (by decide) e.symm)
              have hn9 := HN8.out.grown HG9x.out (fun e => HSV8.out e.symm)
              have z0 : w9.cell? ⟨zb, 0, none⟩ = some (.int .i64 x.op) := hi9.cell 0
              have HB9 := Lib.hid hb9; have HC9 := Lib.hid hc9; have HX9 := Lib.hid hx9; have HI9 := Lib.hid hi9; have HN9 := Lib.hid hn9; have HOK := Lib.hid HD.out.ok; have HLN := Lib.hid HD.out.len
              clear c2 c3 c4 c5 c6 c7 c8 c9 c10 c11 c13 hb9 hc9 hx9 hi9 hn9 hxx HOo HD HO HI HN8
              have hop0 : (x.op == 0) = false := by simpa using HOP.out
              have n0 : w9.cell? ⟨nb, 0, none⟩ = some (.int .i64 pc) := HN9.out.cell 0
              have n1 : w9.cell? ⟨nb, 1, none⟩ = some (.int .i64 fp) := HN9.out.cell 1
              have n2 : w9.cell? ⟨nb, 2, none⟩ = some (.int .i64 ap) := HN9.out.cell 2
              have n3 : w9.cell? ⟨nb, 3, none⟩ = some (.int .i64 rv) := HN9.out.cell 3
              have m2 : w9.cell? ⟨mb, 2, none⟩ = some (.int .i64 d.s.pc) := HB9.out.cell 2
              have f2 := HB9.out.free 2
              have m3 : w9.cell? ⟨mb, 3, none⟩ = some (.int .i64 d.s.fp) := HB9.out.cell 3
              have f3 := HB9.out.free 3
              have m4 : w9.cell? ⟨mb, 4, none⟩ = some (.int .i64 d.s.ap) := HB9.out.cell 4
              have f4 := HB9.out.free 4
              have m5 : w9.cell? ⟨mb, 5, none⟩ = some (.int .i64 d.s.rv) := HB9.out.cell 5
              have f5 := HB9.out.free 5
              have m6 : w9.cell? ⟨mb, 6, none⟩ = some (.int .i64 (accA d.s.acc 0)) := HB9.out.cell 6
              have f6 := HB9.out.free 6
              have m7 : w9.cell? ⟨mb, 7, none⟩ = some (.int .i64 (accA d.s.acc 1)) := HB9.out.cell 7
              have f7 := HB9.out.free 7
              have m8 : w9.cell? ⟨mb, 8, none⟩ = some (.int .i64 (accA d.s.acc 2)) := HB9.out.cell 8
              have f8 := HB9.out.free 8
              have m9 : w9.cell? ⟨mb, 9, none⟩ = some (.int .i64 (accI d.s.acc 0)) := HB9.out.cell 9
              have f9 := HB9.out.free 9
              have m10 : w9.cell? ⟨mb, 10, none⟩ = some (.int .i64 (accI d.s.acc 1)) := HB9.out.cell 10
              have f10 := HB9.out.free 10
              have m11 : w9.cell? ⟨mb, 11, none⟩ = some (.int .i64 (accI d.s.acc 2)) := HB9.out.cell 11
              have f11 := HB9.out.free 11
              have hne9 := HNE8.out
              go_wp2_with fail
              have hgF : w9.grownBy ((((((((((w9.setCell ⟨mb, 2, none⟩ (.int .i64 pc)).setCell ⟨mb, 3, none⟩ (.int .i64 fp)).setCell ⟨mb, 4, none⟩ (.int .i64 ap)).setCell ⟨mb, 5, none⟩ (.int .i64 rv)).setCell ⟨mb, 6, none⟩ (.int .i64 0)).setCell ⟨mb, 7, none⟩ (.int .i64 0)).setCell ⟨mb, 8, none⟩ (.int .i64 0)).setCell ⟨mb, 9, none⟩ (.int .i64 0)).setCell ⟨mb, 10, none⟩ (.int .i64 0)).setCell ⟨mb, 11, none⟩ (.int .i64 0)) (some mb) := grown_one (grown_one (grown_one (grown_one (grown_one (grown_one (grown_one (grown_one (grown_one (setCell_grown w9 mb 2 (.int .i64 pc)) (setCell_grown _ mb 3 (.int .i64 fp))) (setCell_grown _ mb 4 (.int .i64 ap))) (setCell_grown _ mb 5 (.int .i64 rv))) (setCell_grown _ mb 6 (.int .i64 0))) (setCell_grown _ mb 7 (.int .i64 0))) (setCell_grown _ mb 8 (.int .i64 0))) (setCell_grown _ mb 9 (.int .i64 0))) (setCell_grown _ mb 10 (.int .i64 0))) (setCell_grown _ mb 11 (.int .i64 0))
              have hbF := ((((((((((HB9.out).set 2 (.int .i64 pc)).set 3 (.int .i64 fp)).set 4 (.int .i64 ap)).set 5 (.int .i64 rv)).set 6 (.int .i64 0)).set 7 (.int .i64 0)).set 8 (.int .i64 0)).set 9 (.int .i64 0)).set 10 (.int .i64 0)).set 11 (.int .i64 0)
              have hregs : d.s.pc = s.pc ∧ d.s.fp = s.fp ∧ d.s.ap = s.ap ∧ d.s.rv = s.rv := by rw [HDS.out]; exact ⟨rfl, rfl, rfl, rfl⟩
              have hoF := step_row hregs.1 hregs.2.1 hregs.2.2.1 hregs.2.2.2 HO9x.out
              have hacc : d.s.acc = s'.acc := by rw [HDS.out]
              have hmem : d.s.mem = s'.mem := by rw [HDS.out]
              have hnext := drun_next (k := k) (R := walkM p sz cd lim) (lim := lim) (x := x) hgF hbF HC9.out HX9.out hoF HG.out.1 HG.out.2.1 HG.out.2.2.1 HG.out.2.2.2 hacc hmem HMM.out HK.out HM7.out (by have := HPC.out; omega) HXI.out HOP.out (by rw [HBL.out]; exact HON.out) HRR.out HMX.out hlo2 hhi hL1 (own_not_blk HC9.out HB9.out (by decide)) (own_not_blk HO9x.out HB9.out (by decide)) HNB.out
              have HNX := Lib.hid hnext
              clear hgF hbF hregs hoF hacc hmem hnext
              go_roundw
              case rel => exact HNX.out
              case measure => simp [slen]; omega
  · have hfb : (faultM p sz cd.length lim != 0) = true := by simpa using hf
    have HR : Hid (walkM p sz cd lim = .no (faultM p sz cd.length lim)) := Lib.hid (by unfold walkM; rw [if_neg hf])
    clear hf
    go_wp2_with fail
    go_ret3
    rw [HR.out]
    exact ⟨rfl, HXW.out⟩
end
end Go.Proofs.YtainhfnanamobaaGreatDoor
