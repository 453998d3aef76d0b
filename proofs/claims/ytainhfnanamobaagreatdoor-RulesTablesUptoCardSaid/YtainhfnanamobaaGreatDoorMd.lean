/- The document's machine: what its block holds; Find, shown, look, tell, must, reckoned. -/
import Derived.Test.YtainhfnanamobaaGreatDoorM8
import Derived.Test.YtainhfnanamobaaGreatDoorHa
namespace Go.Att
open Go.RowKit
/-- The cells of the document's machine. -/
def dcells (p : Int) (cv : Value) (s : Ms) (er : Int) : List Value :=
  [.int .i64 p, cv, .int .i64 s.pc, .int .i64 s.fp, .int .i64 s.ap, .int .i64 s.rv, .int .i64 (accA s.acc 0), .int .i64 (accA s.acc 1), .int .i64 (accA s.acc 2), .int .i64 (accI s.acc 0), .int .i64 (accI s.acc 1), .int .i64 (accI s.acc 2), .int .i64 s.acc.length, .int .i64 er]
theorem lk_at {m : List (Int × Int)} {i : Int} {k : Nat} (hk : k < m.length) (h0 : ∀ j, j < k → (nthP m j).1 ≠ i) (h1 : (nthP m k).1 = i) : lk m i = some (nthP m k).2 := by
  induction m generalizing k with
  | nil => simp at hk
  | cons c m ih =>
    cases k with
    | zero =>
      have e : c.1 = i := by simpa [nthP] using h1
      simp [lk, nthP, e]
    | succ k =>
      have e : c.1 ≠ i := by have := h0 0 (by omega); simpa [nthP] using this
      have := ih (k := k) (by simpa using hk) (fun j hj => by have := h0 (j + 1) (by omega); simpa [nthP] using this) (by simpa [nthP] using h1)
      unfold lk at this ⊢
      rw [List.find?_cons_of_neg (by simpa using e), this]
      simp [nthP]
theorem lk_nowhere {m : List (Int × Int)} {i : Int} (h0 : ∀ j, j < m.length → (nthP m j).1 ≠ i) : lk m i = none := by
  unfold lk
  rw [Option.map_eq_none_iff, List.find?_eq_none]
  intro c hc
  obtain ⟨j, hj, rfl⟩ := List.getElem_of_mem hc
  have := h0 j hj
  rw [nthP_eq hj] at this
  simpa using this
theorem flatP_app (l : List (Int × Int)) (c : Int × Int) : flatP (l ++ [c]) = flatP l ++ [.int .i64 c.1, .int .i64 c.2] := by simp [flatP]
/-- Where a cell is found. -/
def FindGot (m : List (Int × Int)) (i : Int) (w : World) (e : Ending) (w' : World) : Prop :=
  w = w' ∧ ((lk m i = none ∧ e = .returned (.int .i64 (-1))) ∨ ∃ k : Nat, k < m.length ∧ lk m i = some (nthP m k).2 ∧ e = .returned (.int .i64 k))
/-- What else is there stays, and what was told lies elsewhere. -/
def DK (b : Nat) (w w' : World) (cv cv' : Value) : Prop := ∀ q, q < w.heap.size → q ≠ b → cv.ownBlock ≠ some q → w'.heap[q]? = w.heap[q]? ∧ q < w'.heap.size ∧ cv'.ownBlock ≠ some q
section
variable {b : Nat} {w w' w'' : World} {cv cv' cv'' : Value}
theorem DK.refl (b : Nat) (w : World) (cv : Value) : DK b w w cv cv := fun _ h1 _ h3 => ⟨rfl, h1, h3⟩
theorem DK.trans (h : DK b w w' cv cv') (k : DK b w' w'' cv' cv'') : DK b w w'' cv cv'' := fun q h1 h2 h3 => by
  obtain ⟨a1, a2, a3⟩ := h q h1 h2 h3
  obtain ⟨b1, b2, b3⟩ := k q a2 h2 a3
  exact ⟨b1.trans a1, b2, b3⟩
theorem DK.ext (hx : Ext w w') : DK b w w' cv cv := fun q h1 _ h3 => ⟨hx.below.block q h1, Nat.lt_of_lt_of_le h1 hx.size, h3⟩
theorem DK.one (hg : w.grownBy w' (some b)) : DK b w w' cv cv := fun q h1 h2 h3 => ⟨hg.block q h1 (fun e => h2 (Option.some.inj e)), Nat.lt_of_lt_of_le h1 hg.size, h3⟩
theorem DK.own (hg : w.grownBy w' cv.ownBlock) (hm : Moved w cv cv') : DK b w w' cv cv' := fun q h1 _ h3 => ⟨hg.block q h1 (fun e => h3 e.symm), Nat.lt_of_lt_of_le h1 hg.size, by
  rcases hm with e | e
  · rw [e]; exact h3
  · intro hc; have := e _ hc; omega⟩
theorem DK.blk (h : DK b w w' cv cv') {q : Nat} {cs : List Value} {t : TypeId} (hb : BlkOf w q cs t) (h2 : q ≠ b) (h3 : cv.ownBlock ≠ some q) : BlkOf w' q cs t := by
  unfold BlkOf at *; rw [(h q (lt_of_block hb) h2 h3).1]; exact hb
end
end Go.Att
namespace Go.Proofs.YtainhfnanamobaaGreatDoor
open Go.RowKit Go.Att
attribute [local go_sem ↓] Go.wp_at_zero Go.wp_at_succ
theorem slCellsM : SlT Tryz.prog 62 110 2 16 (.agg #[.int .i64 0, .int .i64 0]) := SlT.mk' Tryz.underlying62 (by kernel_rfl) (by decide)
/-- The document's machine lies in a block; w0: the world that it was made in. -/
structure DAt (w0 w : World) (b : Nat) (p : Int) (s : Ms) (cv : Value) (er : Int) : Prop where
  blk : BlkOf w b (dcells p cv s er) 156
  own : w.ownsRow w0.heap.size 110 2 cv s.mem.length (flatP s.mem)
  ext : Ext w0 w
  nb : w0.heap.size ≤ b
  ok : Okm p s
  lo : 2 ≤ p
  hi : p ≤ 2147483647
  len : s.mem.length ≤ 100000
section
variable {w0 w w' : World} {b : Nat} {p : Int} {s s' : Ms} {cv cv' : Value} {er er' : Int}
theorem DAt.prs (h : DAt w0 w b p s cv er) : Prs w cv s.mem := Sl.of_own h.own (by omega)
theorem DAt.not_own (h : DAt w0 w b p s cv er) : cv.ownBlock ≠ some b := own_not_blk h.own h.blk (by decide)
theorem DAt.to (h : DAt w0 w b p s cv er) (hx : Ext w w') : DAt w0 w' b p s cv er := ⟨h.blk.ext hx, own_ext h.own hx, h.ext.trans hx, h.nb, h.ok, h.lo, h.hi, h.len⟩
/-- The block alone was written. -/
theorem DAt.wrote (h : DAt w0 w b p s cv er) (hg : w.grownBy w' (some b)) (hb : BlkOf w' b (dcells p cv s' er') 156) (hm : s'.mem = s.mem) (ho : Okm p s') : DAt w0 w' b p s' cv er' :=
  ⟨hb, by rw [hm]; exact (Turned.one (c := b) hg).own h.own h.not_own h.not_own, Turned.ext (c := b) (Turned.one hg) h.ext h.nb h.nb, h.nb, ho, h.lo, h.hi, by rw [hm]; exact h.len⟩
set_option maxRecDepth 100000 in
set_option maxHeartbeats 2000000 in
theorem dfind_any (h : DAt w0 w b p s cv er) (i : Int) : Calls Tryz.prog 183 #[.pointer (some ⟨b, 0, none⟩), .int .i64 i] w (FindGot s.mem i w) := by
  have c1 : w.cell? ⟨b, 1, none⟩ = some cv := h.blk.cell 1
  have hll := fun w' => h.prs.run_len (P := Tryz.prog) slCellsM 3 w'
  have hlen := h.len
  obtain ⟨ao, cap, rfl⟩ := own_shape h.own
  have HP := Lib.hid h.prs
  clear h
  go_enter Tryz.func183, Tryz.ntmps183
  go_wp2_with fail
  go_loop [5] (fun x5 => ∃ k : Nat, x5 = .int .i64 k ∧ k ≤ s.mem.length ∧ Hid (∀ j, j < k → (nthP s.mem j).1 ≠ i)) (fun x5 => s.mem.length - (intOf x5).toNat)
  case atStart => exact ⟨0, rfl, Nat.zero_le _, Lib.hid (fun j hj => by omega)⟩
  case round =>
    obtain ⟨k, rfl, hk, HJ⟩ := hrel
    by_cases hkl : k < s.mem.length
    · have hix : ∀ w', (Instr.indexAt 62 (.slice ao s.mem.length cap) (.int .i64 k)).run Tryz.prog w' = .ok (.pointer (some (elt (.slice ao s.mem.length cap) k 2))) w' := fun w' => HP.out.run_index (P := Tryz.prog) slCellsM k hkl w'
      have hc := HP.out.fst k hkl
      generalize elt (.slice ao s.mem.length cap) k 2 = ea at *
      by_cases e : (nthP s.mem k).1 = i
      · have he : ((nthP s.mem k).1 == i) = true := by simpa using e
        have HE := Lib.hid e
        clear e
        go_wp2_with fail
        go_ret
        exact ⟨rfl, .inr ⟨k, hkl, lk_at hkl HJ.out HE.out, rfl⟩⟩
      · have he : ((nthP s.mem k).1 == i) = false := by simpa using e
        have HE := Lib.hid e
        clear e
        go_wp2_with fail
        go_round
        case rel => exact ⟨k + 1, by go_num, by omega, Lib.hid (fun j hj => by
          by_cases e : j = k
          · subst e; exact HE.out
          · exact HJ.out j (by omega))⟩
        case measure => simp [intOf]; omega
    · obtain rfl : k = s.mem.length := by omega
      go_wp2_with fail
      go_ret
      exact ⟨rfl, .inl ⟨lk_nowhere HJ.out, rfl⟩⟩
set_option maxRecDepth 100000 in
set_option maxHeartbeats 2000000 in
theorem dshown_any (h : DAt w0 w b p s cv er) {i v : Int} (hl : lk s.mem i = some v) (h2 : s.acc.length ≤ 2) : Calls Tryz.prog 184 #[.pointer (some ⟨b, 0, none⟩), .int .i64 i, .int .i64 v] w fun e w' => e = .returned (.tuple #[]) ∧ DAt w0 w' b p (s.noted i v) cv er ∧ w.grownBy w' (some b) := by
  have c12 : w.cell? ⟨b, 12, none⟩ = some (.int .i64 s.acc.length) := h.blk.cell 12
  have d6 : w.cell? ⟨b, 6, none⟩ = some (.int .i64 (accA s.acc 0)) := h.blk.cell 6
  have d7 : w.cell? ⟨b, 7, none⟩ = some (.int .i64 (accA s.acc 1)) := h.blk.cell 7
  have d8 : w.cell? ⟨b, 8, none⟩ = some (.int .i64 (accA s.acc 2)) := h.blk.cell 8
  have d9 : w.cell? ⟨b, 9, none⟩ = some (.int .i64 (accI s.acc 0)) := h.blk.cell 9
  have d10 : w.cell? ⟨b, 10, none⟩ = some (.int .i64 (accI s.acc 1)) := h.blk.cell 10
  have d11 : w.cell? ⟨b, 11, none⟩ = some (.int .i64 (accI s.acc 2)) := h.blk.cell 11
  have f6 := h.blk.free 6
  have f7 := h.blk.free 7
  have f8 := h.blk.free 8
  have f9 := h.blk.free 9
  have f10 := h.blk.free 10
  have f11 := h.blk.free 11
  have f12 := h.blk.free 12
  have H := Lib.hid h; have HL := Lib.hid hl
  clear h hl
  rcases len_cases h2 with e | ⟨x, e⟩ | ⟨x, y, e⟩
  · rw [e] at c12
    have E := Lib.hid e; clear e h2
    replace c12 : w.cell? ⟨b, 12, none⟩ = some (.int .i64 0) := c12
    go_enter Tryz.func184, Tryz.ntmps184
    go_wp2_with fail
    go_region_held3 (fun w' => w'.cell? ⟨b, 12, none⟩ = some (.int .i64 0)) (first | exact c12 | exact (World.cell?_setCell_other _ _ _ _ (by simp)).trans c12) (fail)
    rename_i hHeld; clear hHeld
    have k12 : (w.setCell ⟨b, 6, none⟩ (.int .i64 i)).cell? ⟨b, 12, none⟩ = some (.int .i64 0) := (World.cell?_setCell_other _ _ _ _ (by simp)).trans c12
    go_wp2_with fail
    go_region_held3 (fun w' => w'.cell? ⟨b, 12, none⟩ = some (.int .i64 0)) (first | exact k12 | exact (World.cell?_setCell_other _ _ _ _ (by simp)).trans k12) (fail)
    rename_i hHeld; clear hHeld
    go_wp2_with fail
    go_end0
    have hG : w.grownBy (((w.setCell ⟨b, 6, none⟩ (.int .i64 i)).setCell ⟨b, 9, none⟩ (.int .i64 v)).setCell ⟨b, 12, none⟩ (.int .i64 1)) (some b) := grown_one (grown_one (setCell_grown w b 6 (.int .i64 i)) (setCell_grown _ b 9 (.int .i64 v))) (setCell_grown _ b 12 (.int .i64 1))
    have hB := (((H.out.blk.set 6 (.int .i64 i)).set 9 (.int .i64 v)).set 12 (.int .i64 1))
    have hX := (Ext.drew (((w.setCell ⟨b, 6, none⟩ (.int .i64 i)).setCell ⟨b, 9, none⟩ (.int .i64 v)).setCell ⟨b, 12, none⟩ (.int .i64 1))).trans (Ext.drew _)
    refine ⟨rfl, (H.out.wrote (s' := s.noted i v) (er' := er) hG ?_ rfl (noted_ok H.out.ok HL.out)).to hX, grown_ext hG hX⟩
    rw [show dcells p cv (s.noted i v) er = (((dcells p cv s er).set 6 (.int .i64 i)).set 9 (.int .i64 v)).set 12 (.int .i64 1) by simp [dcells, Ms.noted, E.out, accA, accI]]
    exact hB
  · rw [e] at c12
    have E := Lib.hid e; clear e h2
    replace c12 : w.cell? ⟨b, 12, none⟩ = some (.int .i64 1) := c12
    go_enter Tryz.func184, Tryz.ntmps184
    go_wp2_with fail
    go_region_held3 (fun w' => w'.cell? ⟨b, 12, none⟩ = some (.int .i64 1)) (first | exact c12 | exact (World.cell?_setCell_other _ _ _ _ (by simp)).trans c12) (fail)
    rename_i hHeld; clear hHeld
    have k12 : (w.setCell ⟨b, 7, none⟩ (.int .i64 i)).cell? ⟨b, 12, none⟩ = some (.int .i64 1) := (World.cell?_setCell_other _ _ _ _ (by simp)).trans c12
    go_wp2_with fail
    go_region_held3 (fun w' => w'.cell? ⟨b, 12, none⟩ = some (.int .i64 1)) (first | exact k12 | exact (World.cell?_setCell_other _ _ _ _ (by simp)).trans k12) (fail)
    rename_i hHeld; clear hHeld
    go_wp2_with fail
    go_end0
    have hG : w.grownBy (((w.setCell ⟨b, 7, none⟩ (.int .i64 i)).setCell ⟨b, 10, none⟩ (.int .i64 v)).setCell ⟨b, 12, none⟩ (.int .i64 2)) (some b) := grown_one (grown_one (setCell_grown w b 7 (.int .i64 i)) (setCell_grown _ b 10 (.int .i64 v))) (setCell_grown _ b 12 (.int .i64 2))
    have hB := (((H.out.blk.set 7 (.int .i64 i)).set 10 (.int .i64 v)).set 12 (.int .i64 2))
    have hX := (Ext.drew (((w.setCell ⟨b, 7, none⟩ (.int .i64 i)).setCell ⟨b, 10, none⟩ (.int .i64 v)).setCell ⟨b, 12, none⟩ (.int .i64 2))).trans (Ext.drew _)
    refine ⟨rfl, (H.out.wrote (s' := s.noted i v) (er' := er) hG ?_ rfl (noted_ok H.out.ok HL.out)).to hX, grown_ext hG hX⟩
    rw [show dcells p cv (s.noted i v) er = (((dcells p cv s er).set 7 (.int .i64 i)).set 10 (.int .i64 v)).set 12 (.int .i64 2) by simp [dcells, Ms.noted, E.out, accA, accI]]
    exact hB
  · rw [e] at c12
    have E := Lib.hid e; clear e h2
    replace c12 : w.cell? ⟨b, 12, none⟩ = some (.int .i64 2) := c12
    go_enter Tryz.func184, Tryz.ntmps184
    go_wp2_with fail
    go_region_held3 (fun w' => w'.cell? ⟨b, 12, none⟩ = some (.int .i64 2)) (first | exact c12 | exact (World.cell?_setCell_other _ _ _ _ (by simp)).trans c12) (fail)
    rename_i hHeld; clear hHeld
    have k12 : (w.setCell ⟨b, 8, none⟩ (.int .i64 i)).cell? ⟨b, 12, none⟩ = some (.int .i64 2) := (World.cell?_setCell_other _ _ _ _ (by simp)).trans c12
    go_wp2_with fail
    go_region_held3 (fun w' => w'.cell? ⟨b, 12, none⟩ = some (.int .i64 2)) (first | exact k12 | exact (World.cell?_setCell_other _ _ _ _ (by simp)).trans k12) (fail)
    rename_i hHeld; clear hHeld
    go_wp2_with fail
    go_end0
    have hG : w.grownBy (((w.setCell ⟨b, 8, none⟩ (.int .i64 i)).setCell ⟨b, 11, none⟩ (.int .i64 v)).setCell ⟨b, 12, none⟩ (.int .i64 3)) (some b) := grown_one (grown_one (setCell_grown w b 8 (.int .i64 i)) (setCell_grown _ b 11 (.int .i64 v))) (setCell_grown _ b 12 (.int .i64 3))
    have hB := (((H.out.blk.set 8 (.int .i64 i)).set 11 (.int .i64 v)).set 12 (.int .i64 3))
    have hX := (Ext.drew (((w.setCell ⟨b, 8, none⟩ (.int .i64 i)).setCell ⟨b, 11, none⟩ (.int .i64 v)).setCell ⟨b, 12, none⟩ (.int .i64 3))).trans (Ext.drew _)
    refine ⟨rfl, (H.out.wrote (s' := s.noted i v) (er' := er) hG ?_ rfl (noted_ok H.out.ok HL.out)).to hX, grown_ext hG hX⟩
    rw [show dcells p cv (s.noted i v) er = (((dcells p cv s er).set 8 (.int .i64 i)).set 11 (.int .i64 v)).set 12 (.int .i64 3) by simp [dcells, Ms.noted, E.out, accA, accI]]
    exact hB
set_option maxRecDepth 100000 in
set_option maxHeartbeats 2000000 in
theorem dlook_err (h : DAt w0 w b p s cv er) (he : er ≠ 0) (i : Int) : Calls Tryz.prog 154 #[.pointer (some ⟨b, 0, none⟩), .int .i64 i] w fun e w' => e = .returned (.int .i64 0) ∧ w = w' := by
  have c13 : w.cell? ⟨b, 13, none⟩ = some (.int .i64 er) := h.blk.cell 13
  have hb : (er != 0) = true := by simpa using he
  clear h he
  go_enter Tryz.func154, Tryz.ntmps154
  go_wp2_with fail
  go_ret
  exact ⟨rfl, rfl⟩
set_option maxRecDepth 100000 in
set_option maxHeartbeats 2000000 in
theorem dlook_no (h : DAt w0 w b p s cv 0) {i : Int} (hl : lk s.mem i = none) : Calls Tryz.prog 154 #[.pointer (some ⟨b, 0, none⟩), .int .i64 i] w fun e w' => e = .returned (.int .i64 0) ∧ DAt w0 w' b p s cv 10 ∧ w.grownBy w' (some b) := by
  have c13 : w.cell? ⟨b, 13, none⟩ = some (.int .i64 0) := h.blk.cell 13
  have f13 := h.blk.free 13
  have H := Lib.hid h; have HL := Lib.hid hl
  clear h hl
  go_enter Tryz.func154, Tryz.ntmps154
  go_wp2_with fail
  refine (dfind_any H.out i).mono ?_
  rintro e w1 ⟨rfl, h1⟩
  rcases h1 with ⟨_, rfl⟩ | ⟨k, _, hk, _⟩
  · go_wp2_with fail
    go_ret
    exact ⟨rfl, H.out.wrote (setCell_grown _ _ _ _) (H.out.blk.set 13 (.int .i64 10)) rfl H.out.ok, setCell_grown _ _ _ _⟩
  · rw [HL.out] at hk; cases hk
set_option maxRecDepth 100000 in
set_option maxHeartbeats 2000000 in
theorem dlook_yes (h : DAt w0 w b p s cv 0) {i v : Int} (hl : lk s.mem i = some v) (h2 : s.acc.length ≤ 2) : Calls Tryz.prog 154 #[.pointer (some ⟨b, 0, none⟩), .int .i64 i] w fun e w' => e = .returned (.int .i64 v) ∧ DAt w0 w' b p (s.noted i v) cv 0 ∧ w.grownBy w' (some b) := by
  have c13 : w.cell? ⟨b, 13, none⟩ = some (.int .i64 0) := h.blk.cell 13
  have c1 : w.cell? ⟨b, 1, none⟩ = some cv := h.blk.cell 1
  have H := Lib.hid h; have HL := Lib.hid hl; have H2 := Lib.hid h2
  clear h hl h2
  go_enter Tryz.func154, Tryz.ntmps154
  go_wp2_with fail
  refine (dfind_any H.out i).mono ?_
  rintro e w1 ⟨rfl, h1⟩
  rcases h1 with ⟨hn, _⟩ | ⟨k, hk, hv, rfl⟩
  · rw [HL.out] at hn; cases hn
  · rw [HL.out] at hv
    obtain rfl : v = (nthP s.mem k).2 := Option.some.inj hv
    have hP := H.out.prs
    have hlen := H.out.len
    obtain ⟨ao, cap, rfl⟩ := own_shape H.out.own
    have hix : ∀ w', (Instr.indexAt 62 (.slice ao s.mem.length cap) (.int .i64 k)).run Tryz.prog w' = .ok (.pointer (some (elt (.slice ao s.mem.length cap) k 2))) w' := fun w' => hP.run_index (P := Tryz.prog) slCellsM k hk w'
    have hc := hP.snd k hk
    have hk100 : k < 100000 := by omega
    have hne : (elt (.slice ao s.mem.length cap) k 2).block ≠ b := by
      obtain ⟨g, cap', cur, e1, hg1, hg2, _⟩ := elt_own H.out.own hk
      have hnb := H.out.not_own
      injection e1 with e1 e2 e3
      subst e1
      have hgb : g ≠ b := by simpa [Value.ownBlock] using hnb
      show ((⟨g, 0, none⟩ : Addr).add (k * 2)).block ≠ b
      rw [Addr.add_lit]; exact hgb
    generalize elt (.slice ao s.mem.length cap) k 2 = ea at *
    have HNE := Lib.hid hne
    clear hv hP hne hk hlen
    have HC := Lib.hid hc
    go_wp2_with fail
    refine (dshown_any H.out HL.out H2.out).mono ?_
    rintro e w2 ⟨rfl, hd, hg⟩
    have hc2 : w2.cell? ⟨ea.block, ea.off + 1, none⟩ = some (.int .i64 (nthP s.mem k).2) := by
      rw [World.cell?_of_block (a := ⟨ea.block, ea.off + 1, none⟩) (hg.block ea.block (World.block_lt_of_cell? w ⟨ea.block, ea.off + 1, none⟩ HC.out) (fun e => HNE.out (Option.some.inj e)))]; exact HC.out
    have c1' : w2.cell? ⟨b, 1, none⟩ = some (.slice ao s.mem.length cap) := hd.blk.cell 1
    have HD := Lib.hid hd; have HG := Lib.hid hg
    clear hd hg hc c1 c13
    go_wp2_with fail
    go_ret
    exact ⟨rfl, HD.out, HG.out⟩
set_option maxRecDepth 100000 in
set_option maxHeartbeats 2000000 in
theorem dmust_idle (h : DAt w0 w b p s cv er) {c : Bool} (hc : er ≠ 0 ∨ c = true) : Calls Tryz.prog 157 #[.pointer (some ⟨b, 0, none⟩), .bool c] w fun e w' => e = .returned (.tuple #[]) ∧ w = w' := by
  have c13 : w.cell? ⟨b, 13, none⟩ = some (.int .i64 er) := h.blk.cell 13
  clear h
  by_cases he : er = 0
  · subst he
    obtain rfl : c = true := hc.resolve_left (fun h => h rfl)
    go_enter Tryz.func157, Tryz.ntmps157
    go_wp2_with fail
    go_end0
    exact ⟨rfl, rfl⟩
  · have hb : (er == 0) = false := by simpa using he
    clear hc he
    go_enter Tryz.func157, Tryz.ntmps157
    go_wp2_with fail
    go_end0
    exact ⟨rfl, rfl⟩
set_option maxRecDepth 100000 in
set_option maxHeartbeats 2000000 in
theorem dmust_no (h : DAt w0 w b p s cv 0) : Calls Tryz.prog 157 #[.pointer (some ⟨b, 0, none⟩), .bool false] w fun e w' => e = .returned (.tuple #[]) ∧ DAt w0 w' b p s cv 7 ∧ w.grownBy w' (some b) := by
  have c13 : w.cell? ⟨b, 13, none⟩ = some (.int .i64 0) := h.blk.cell 13
  have f13 := h.blk.free 13
  have H := Lib.hid h; clear h
  go_enter Tryz.func157, Tryz.ntmps157
  go_wp2_with fail
  go_end0
  exact ⟨rfl, H.out.wrote (setCell_grown _ _ _ _) (H.out.blk.set 13 (.int .i64 7)) rfl H.out.ok, setCell_grown _ _ _ _⟩
set_option maxRecDepth 100000 in
set_option maxHeartbeats 2000000 in
theorem dtell_err (h : DAt w0 w b p s cv er) (he : er ≠ 0) (i x : Int) : Calls Tryz.prog 156 #[.pointer (some ⟨b, 0, none⟩), .int .i64 i, .int .i64 x] w fun e w' => e = .returned (.tuple #[]) ∧ w = w' := by
  have c13 : w.cell? ⟨b, 13, none⟩ = some (.int .i64 er) := h.blk.cell 13
  have hb : (er != 0) = true := by simpa using he
  clear h he
  go_enter Tryz.func156, Tryz.ntmps156
  go_wp2_with fail
  refine bodyPost_ret (results_none rfl _ _ _) rfl ?_
  exact ⟨rfl, rfl⟩
set_option maxRecDepth 100000 in
set_option maxHeartbeats 4000000 in
theorem dtell_no (h : DAt w0 w b p s cv 0) {i x y : Int} (hy : fof p x = y) (hl : ¬ s.may i y) : Calls Tryz.prog 156 #[.pointer (some ⟨b, 0, none⟩), .int .i64 i, .int .i64 x] w fun e w' => e = .returned (.tuple #[]) ∧ DAt w0 w' b p s cv 7 ∧ w.grownBy w' (some b) := by
  obtain ⟨v, hv, hne⟩ := may_no hl
  have c0 : w.cell? ⟨b, 0, none⟩ = some (.int .i64 p) := h.blk.cell 0
  have c1 : w.cell? ⟨b, 1, none⟩ = some cv := h.blk.cell 1
  have c13 : w.cell? ⟨b, 13, none⟩ = some (.int .i64 0) := h.blk.cell 13
  have f13 := h.blk.free 13
  have hp2 := h.lo
  have hhi := h.hi
  have H := Lib.hid h; have HV := Lib.hid hv; have HY := Lib.hid hy; have HNE := Lib.hid hne
  clear h hl hv hy hne
  go_enter Tryz.func156, Tryz.ntmps156
  go_wp2_with (go_at_call 27; refine (rof_any _ _ _ hp2 hhi).mono ?_; rintro e w1 ⟨rfl, rfl⟩)
  refine (dfind_any H.out i).mono ?_
  rintro e w1 ⟨rfl, h1⟩
  rcases h1 with ⟨hn, _⟩ | ⟨k, hk, hv, rfl⟩
  · rw [HV.out] at hn; cases hn
  · rw [HV.out] at hv
    obtain rfl : v = (nthP s.mem k).2 := Option.some.inj hv
    have hP := H.out.prs
    have hlen := H.out.len
    obtain ⟨ao, cap, rfl⟩ := own_shape H.out.own
    have hix : ∀ w', (Instr.indexAt 62 (.slice ao s.mem.length cap) (.int .i64 k)).run Tryz.prog w' = .ok (.pointer (some (elt (.slice ao s.mem.length cap) k 2))) w' := fun w' => hP.run_index (P := Tryz.prog) slCellsM k hk w'
    have hc := hP.snd k hk
    generalize elt (.slice ao s.mem.length cap) k 2 = ea at *
    have hb : ((nthP s.mem k).2 != fof p x) = true := by rw [HY.out]; simpa using HNE.out
    have hge : decide ((0 : Int) ≤ (k : Int)) = true := by simp
    clear hv hP hk hlen
    go_wp2_with fail
    refine bodyPost_ret (results_none rfl _ _ _) rfl ?_
    exact ⟨rfl, H.out.wrote (setCell_grown _ _ _ _) (H.out.blk.set 13 (.int .i64 7)) rfl H.out.ok, setCell_grown _ _ _ _⟩
set_option maxRecDepth 100000 in
set_option maxHeartbeats 4000000 in
theorem dtell_same (h : DAt w0 w b p s cv 0) {i x y : Int} (hy : fof p x = y) (hl : lk s.mem i = some y) (h2 : s.acc.length ≤ 2) : Calls Tryz.prog 156 #[.pointer (some ⟨b, 0, none⟩), .int .i64 i, .int .i64 x] w fun e w' => e = .returned (.tuple #[]) ∧ DAt w0 w' b p (s.told i y) cv 0 ∧ w.grownBy w' (some b) := by
  have c0 : w.cell? ⟨b, 0, none⟩ = some (.int .i64 p) := h.blk.cell 0
  have c1 : w.cell? ⟨b, 1, none⟩ = some cv := h.blk.cell 1
  have c13 : w.cell? ⟨b, 13, none⟩ = some (.int .i64 0) := h.blk.cell 13
  have hp2 := h.lo
  have hhi := h.hi
  have H := Lib.hid h; have HV := Lib.hid hl; have HY := Lib.hid hy; have H2 := Lib.hid h2
  clear h hl hy h2
  go_enter Tryz.func156, Tryz.ntmps156
  go_wp2_with (go_at_call 27; refine (rof_any _ _ _ hp2 hhi).mono ?_; rintro e w1 ⟨rfl, rfl⟩)
  refine (dfind_any H.out i).mono ?_
  rintro e w1 ⟨rfl, h1⟩
  rcases h1 with ⟨hn, _⟩ | ⟨k, hk, hv, rfl⟩
  · rw [HV.out] at hn; cases hn
  · rw [HV.out] at hv
    have hP := H.out.prs
    have hlen := H.out.len
    obtain ⟨ao, cap, rfl⟩ := own_shape H.out.own
    have hix : ∀ w', (Instr.indexAt 62 (.slice ao s.mem.length cap) (.int .i64 k)).run Tryz.prog w' = .ok (.pointer (some (elt (.slice ao s.mem.length cap) k 2))) w' := fun w' => hP.run_index (P := Tryz.prog) slCellsM k hk w'
    have hc := hP.snd k hk
    generalize elt (.slice ao s.mem.length cap) k 2 = ea at *
    have hyk : (nthP s.mem k).2 = fof p x := by rw [HY.out]; exact (Option.some.inj hv).symm
    rw [hyk] at hc
    have hb : (fof p x != fof p x) = false := by simp
    have hge : decide ((0 : Int) ≤ (k : Int)) = true := by simp
    have hlt : decide ((k : Int) < 0) = false := by simp
    clear hv hP hk hlen hyk
    go_wp2_with (go_at_call 184; refine (dshown_any H.out (by rw [HY.out]; exact HV.out) H2.out).mono ?_; rintro e w2 ⟨rfl, hd, hg⟩)
    go_end0
    rw [HY.out] at hd
    have et : s.told i y = s.noted i y := by unfold Ms.told Ms.noted; rw [HV.out]
    rw [et]
    exact ⟨rfl, hd, hg⟩
set_option maxRecDepth 100000 in
set_option maxHeartbeats 4000000 in
theorem dtell_new (h : DAt w0 w b p s cv 0) {i x y : Int} (hy : fof p x = y) (hi : 0 ≤ i ∧ i < p) (hyb : 0 ≤ y ∧ y < p) (hl : lk s.mem i = none) (h2 : s.acc.length ≤ 2) (hn : s.mem.length + 1 ≤ 100000) : Calls Tryz.prog 156 #[.pointer (some ⟨b, 0, none⟩), .int .i64 i, .int .i64 x] w fun e w' => e = .returned (.tuple #[]) ∧ ∃ cv', DAt w0 w' b p (s.told i y) cv' 0 ∧ DK b w w' cv cv' := by
  have c0 : w.cell? ⟨b, 0, none⟩ = some (.int .i64 p) := h.blk.cell 0
  have c1 : w.cell? ⟨b, 1, none⟩ = some cv := h.blk.cell 1
  have c13 : w.cell? ⟨b, 13, none⟩ = some (.int .i64 0) := h.blk.cell 13
  have hp2 := h.lo
  have hhi := h.hi
  have h63 : s.mem.length + 1 ≤ 4294967296 := by omega
  have H := Lib.hid h; have HV := Lib.hid hl; have HY := Lib.hid hy; have H2 := Lib.hid h2; have HI := Lib.hid hi; have HYB := Lib.hid hyb; have HN := Lib.hid hn
  clear h hl hy h2 hi hyb hn
  go_enter Tryz.func156, Tryz.ntmps156
  go_wp2_with (go_at_call 27; refine (rof_any _ _ _ hp2 hhi).mono ?_; rintro e w1 ⟨rfl, rfl⟩)
  refine (dfind_any H.out i).mono ?_
  rintro e w1 ⟨rfl, h1⟩
  rcases h1 with ⟨_, rfl⟩ | ⟨k, hk, hv, _⟩
  · have HO := H.out.own
    go_wp2_with (refine wpList_appNw rfl _ _ 62 rfl slCellsM rfl H.out.ext.size HO rfl #[.int .i64 i, .int .i64 (fof p x)] rfl (by simp [Value.oneCell']) rfl h63 (by omega) ?_; intro v2 w2 HO2 HG2 HM2; obtain ⟨av, acap, rfl⟩ := own_shape HO2; have hb2 := H.out.blk.grown HG2 (fun e => H.out.not_own e.symm); have e1 : w2.cell? ⟨b, 1, none⟩ = some cv := hb2.cell 1; have g1 := hb2.free 1; have HBx := Lib.hid hb2; have HOx := Lib.hid HO2; have HGx := Lib.hid HG2; have HMx := Lib.hid HM2; clear hb2 HO2 HG2 HM2)
    have hm : (s.half i y).mem = s.mem ++ [(i, y)] := by unfold Ms.half Ms.told; dsimp only; rw [HV.out]
    have hmay : s.may i y := .inl HV.out
    have hG3 := setCell_grown w2 b 1 (.slice av (s.mem.length + 1) acap)
    have hX2 : Ext w0 w2 := Ext.own_grown H.out.ext H.out.own HGx.out
    have hown3 := (Turned.one (c := b) hG3).own HOx.out (own_not_blk HOx.out HBx.out (by decide)) (own_not_blk HOx.out HBx.out (by decide))
    have hd3 : DAt w0 (w2.setCell ⟨b, 1, none⟩ (.slice av (s.mem.length + 1) acap)) b p (s.half i y) (.slice av (s.mem.length + 1) acap) 0 := by
      refine ⟨HBx.out.set 1 _, ?_, Turned.ext (c := b) (Turned.one hG3) hX2 H.out.nb H.out.nb, H.out.nb, half_ok H.out.ok hmay HI.out HYB.out, hp2, hhi, ?_⟩
      · rw [hm, flatP_app, List.length_append, ← HY.out]; exact hown3
      · rw [hm, List.length_append]; exact HN.out
    refine (dshown_any hd3 (i := i) (v := fof p x) (by rw [HY.out]; exact told_lk hmay) H2.out).mono ?_
    rintro e w4 ⟨rfl, hd4, hg4⟩
    rw [HY.out] at hd4
    have HD := Lib.hid hd4; have HK := Lib.hid (((DK.own (b := b) HGx.out HMx.out).trans (DK.one hG3)).trans (DK.one hg4))
    clear hd4 hg4 hd3 hown3 hX2 hG3
    go_wp2_with fail
    go_end0
    exact ⟨rfl, _, HD.out, HK.out⟩
  · rw [HV.out] at hv; cases hv
theorem told_same {s : Ms} {i y : Int} (h : lk s.mem i = some y) : s.told i y = s.noted i y := by unfold Ms.told Ms.noted; rw [h]
/-- A cell may be told: whichever way. -/
theorem dtell_yes (h : DAt w0 w b p s cv 0) {i x y : Int} (hy : fof p x = y) (hi : 0 ≤ i ∧ i < p) (hyb : 0 ≤ y ∧ y < p) (hl : s.may i y) (h2 : s.acc.length ≤ 2) (hn : s.mem.length + 1 ≤ 100000) : Calls Tryz.prog 156 #[.pointer (some ⟨b, 0, none⟩), .int .i64 i, .int .i64 x] w fun e w' => e = .returned (.tuple #[]) ∧ ∃ cv', DAt w0 w' b p (s.told i y) cv' 0 ∧ DK b w w' cv cv' := by
  rcases hl with hl | hl
  · exact dtell_new h hy hi hyb hl h2 hn
  · exact (dtell_same h hy hl h2).mono fun e w' h => ⟨h.1, _, h.2.1, DK.one h.2.2⟩
set_option maxRecDepth 100000 in
set_option maxHeartbeats 4000000 in
theorem dreck_op (h : DAt w0 w b p s cv er) (op x y : Int) (hop : op = 1 ∨ op = 2 ∨ op = 3 ∨ op = 6) : Calls Tryz.prog 155 #[.pointer (some ⟨b, 0, none⟩), .int .i64 op, .int .i64 x, .int .i64 y] w fun e w' => e = .returned (.int .i64 (reck p op x y)) ∧ w = w' := by
  have c0 : w.cell? ⟨b, 0, none⟩ = some (.int .i64 p) := h.blk.cell 0
  have hp2 := h.lo
  have hhi := h.hi
  clear h
  rcases hop with rfl | rfl | rfl | rfl
  · go_enter Tryz.func155, Tryz.ntmps155
    go_wp2_with (go_at_call 89; refine (radd_any _ _ _ _ hp2 hhi).mono ?_; rintro e w1 ⟨rfl, rfl⟩)
    go_ret
    exact ⟨by simp [reck], rfl⟩
  · go_enter Tryz.func155, Tryz.ntmps155
    go_wp2_with (go_at_call 86; refine (rsub_any _ _ _ _ hp2 hhi).mono ?_; rintro e w1 ⟨rfl, rfl⟩)
    go_ret
    exact ⟨by simp [reck], rfl⟩
  · go_enter Tryz.func155, Tryz.ntmps155
    go_wp2_with (go_at_call 79; refine (rmul_any _ _ _ _ hp2 hhi).mono ?_; rintro e w1 ⟨rfl, rfl⟩)
    go_ret
    exact ⟨by simp [reck], rfl⟩
  · by_cases e : x = y
    · subst e
      go_enter Tryz.func155, Tryz.ntmps155
      go_wp2_with fail
      go_ret
      exact ⟨by simp [reck], rfl⟩
    · have hb : (x == y) = false := by simpa using e
      have HE := Lib.hid e
      clear e
      go_enter Tryz.func155, Tryz.ntmps155
      go_wp2_with fail
      go_ret
      exact ⟨by simp [reck, HE.out], rfl⟩
set_option maxRecDepth 100000 in
set_option maxHeartbeats 4000000 in
theorem dreck_div (h : DAt w0 w b p s cv er) (x y : Int) (hc : er ≠ 0 ∨ y ≠ 0) : Calls Tryz.prog 155 #[.pointer (some ⟨b, 0, none⟩), .int .i64 4, .int .i64 x, .int .i64 y] w fun e w' => e = .returned (.int .i64 (reck p 4 x y)) ∧ w = w' := by
  have c0 : w.cell? ⟨b, 0, none⟩ = some (.int .i64 p) := h.blk.cell 0
  have hp2 := h.lo
  have hhi := h.hi
  have H := Lib.hid h
  have HC : Hid (er ≠ 0 ∨ (y != 0) = true) := Lib.hid (by simpa using hc)
  clear h hc
  go_enter Tryz.func155, Tryz.ntmps155
  go_wp2_with (first | (go_at_call 157; refine (dmust_idle H.out HC.out).mono ?_; rintro e w1 ⟨rfl, rfl⟩) | (go_at_call 139; refine (rdiv_any _ _ _ _ hp2 hhi).mono ?_; rintro e w1 ⟨rfl, rfl⟩))
  go_ret
  exact ⟨by simp [reck], rfl⟩
set_option maxRecDepth 100000 in
set_option maxHeartbeats 4000000 in
theorem dreck_zero (h : DAt w0 w b p s cv 0) (x : Int) : Calls Tryz.prog 155 #[.pointer (some ⟨b, 0, none⟩), .int .i64 4, .int .i64 x, .int .i64 0] w fun e w' => e = .returned (.int .i64 (reck p 4 x 0)) ∧ DAt w0 w' b p s cv 7 ∧ w.grownBy w' (some b) := by
  have c0 : w.cell? ⟨b, 0, none⟩ = some (.int .i64 p) := h.blk.cell 0
  have hp2 := h.lo
  have hhi := h.hi
  have H := Lib.hid h
  clear h
  go_enter Tryz.func155, Tryz.ntmps155
  go_wp2_with fail
  refine (dmust_no H.out).mono ?_
  rintro e w1 ⟨rfl, hd, hg⟩
  have c0' : w1.cell? ⟨b, 0, none⟩ = some (.int .i64 p) := hd.blk.cell 0
  have HD := Lib.hid hd; have HG := Lib.hid hg
  clear hd hg c0
  go_wp2_with (go_at_call 139; refine (rdiv_any _ _ _ _ hp2 hhi).mono ?_; rintro e w1 ⟨rfl, rfl⟩)
  go_ret
  exact ⟨by simp [reck], HD.out, HG.out⟩
end
end Go.Proofs.YtainhfnanamobaaGreatDoor
