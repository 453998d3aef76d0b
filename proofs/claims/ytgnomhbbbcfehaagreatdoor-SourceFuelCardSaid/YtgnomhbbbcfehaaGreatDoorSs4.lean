/- A text's reader, the program's side: signs and words skipped, levels, names, faults: contracts. -/
import Derived.Test.YtgnomhbbbcfehaaGreatDoorZx2
namespace Go.Proofs.YtgnomhbbbcfehaaGreatDoor
open Go.RowKit Go.Att Go.Shelf
structure RdAt (w : World) (b : Nat) (L : List UInt8) (i lv : Nat) : Prop where
  blk : RdC w b L (nxtN L i) (tokN L i) lv
  le : i ≤ L.length
def FStop (w : World) (b a k : Nat) (e : Ending) (w' : World) : Prop :=
  e = .panicked [{ v := .iface 62 (.agg #[.int .i64 a, .int .i64 k]), recovered := false }] ∧ w.grownBy w' (some b)
def PGot {α : Type} (w : World) (b : Nat) (L : List UInt8) (lv : Nat) (V : World → Value → α → Prop) (r : Ps α) (e : Ending) (w' : World) : Prop :=
  match r with
  | .ok x i => ∃ v, e = .returned v ∧ RdAt w' b L i lv ∧ w.grownBy w' (some b) ∧ V w' v x
  | .bad a k => FStop w b a k e w'
section
variable {w w' : World} {b : Nat} {L : List UInt8} {i lv : Nat}
theorem RdAt.ext (h : RdAt w b L i lv) (hx : Ext w w') : RdAt w' b L i lv := ⟨BlkOf.ext h.blk hx, h.le⟩
theorem RdAt.lt (h : RdAt w b L i lv) : b < w.heap.size := BlkOf.lt h.blk
theorem PGot.cases {α : Type} {V : World → Value → α → Prop} {r : Ps α} {e : Ending} (h : PGot w b L lv V r e w') : (∃ a k, r = .bad a k ∧ FStop w b a k e w') ∨ ∃ x i v, r = .ok x i ∧ e = .returned v ∧ RdAt w' b L i lv ∧ w.grownBy w' (some b) ∧ V w' v x := by
  cases r with
  | ok x i => obtain ⟨v, h⟩ := h; exact .inr ⟨x, i, v, rfl, h⟩
  | bad a k => exact .inl ⟨a, k, rfl, h⟩
theorem PGot.bad {α : Type} {V : World → Value → α → Prop} {r : Ps α} {a k : Nat} {e : Ending} (hr : r = .bad a k) (h : FStop w b a k e w') : PGot w b L lv V r e w' := by subst hr; exact h
theorem PGot.ok {α : Type} {V : World → Value → α → Prop} {r : Ps α} {x : α} {j : Nat} {v : Value} (hr : r = .ok x j) (h1 : RdAt w' b L j lv) (h2 : w.grownBy w' (some b)) (h3 : V w' v x) : PGot w b L lv V r (.returned v) w' := by subst hr; exact ⟨v, rfl, h1, h2, h3⟩
set_option maxRecDepth 100000 in
set_option maxHeartbeats 1000000 in
theorem sis_any (h : RdAt w b L i lv) (s : List UInt8) : Calls Tryz.prog 95 #[.pointer (some ⟨b, 0, none⟩), .string ⟨s.toArray⟩] w fun e w' => e = .returned (.bool (isT L i s)) ∧ w = w' := by
  have c2 : w.cell? ⟨b, 2, none⟩ = some (.int .i64 (tokN L i).kind) := BlkOf.cell h.blk 2
  have c4 : w.cell? ⟨b, 4, none⟩ = some (.string ⟨(tokN L i).txt.toArray⟩) := BlkOf.cell h.blk 4
  have HI := Lib.hid (show isT L i s = ((decide ((tokN L i).kind = 3) || decide ((tokN L i).kind = 1)) && ((tokN L i).txt == s)) from by
    unfold isT; congr 1; rw [Bool.eq_iff_iff]; simp)
  clear h
  generalize isT L i s = v at *
  generalize (tokN L i).kind = K at *
  generalize (tokN L i).txt = tx at *
  by_cases h3 : K = 3
  · have hk : ((K : Int) == 3) = true := by rw [beq_iff_eq]; omega
    have HI2 := Lib.hid (HI.out.trans (show _ = (tx == s) from by rw [h3]; rfl))
    clear HI h3
    go_enter Tryz.func95, Tryz.ntmps95
    go_wp2
    go_ret
    exact ⟨by rw [HI2.out]; trivial, rfl⟩
  · have hk : ((K : Int) == 3) = false := by rw [beq_eq_false_iff_ne]; omega
    by_cases h1 : K = 1
    · have hk1 : ((K : Int) == 1) = true := by rw [beq_iff_eq]; omega
      have HI2 := Lib.hid (HI.out.trans (show _ = (tx == s) from by rw [h1]; rfl))
      clear HI h3 h1
      go_enter Tryz.func95, Tryz.ntmps95
      go_wp2
      go_ret
      exact ⟨by rw [HI2.out]; trivial, rfl⟩
    · have hk1 : ((K : Int) == 1) = false := by rw [beq_eq_false_iff_ne]; omega
      have HI2 := Lib.hid (HI.out.trans (show _ = false from by rw [decide_eq_false h3, decide_eq_false h1]; rfl))
      clear HI h3 h1
      go_enter Tryz.func95, Tryz.ntmps95
      go_wp2
      go_ret
      exact ⟨by rw [HI2.out]; trivial, rfl⟩
set_option maxRecDepth 100000 in
theorem sfail_any (h : RdAt w b L i lv) (k : Nat) : Calls Tryz.prog 93 #[.pointer (some ⟨b, 0, none⟩), .int .i64 k] w (FStop w b (tokN L i).pos k) := by
  have c3 : w.cell? ⟨b, 3, none⟩ = some (.int .i64 (tokN L i).pos) := BlkOf.cell h.blk 3
  clear h
  go_enter Tryz.func93, Tryz.ntmps93
  go_wp2_with fail
  exact ⟨rfl, rfl, (Ext.refl w).grownBy _⟩
theorem sadv_at (h : RdAt w b L i lv) (hL : L.length ≤ 4000) : Calls Tryz.prog 24 #[.pointer (some ⟨b, 0, none⟩)] w fun e w' => e = .returned (.tuple #[]) ∧ RdAt w' b L (nxtN L i) lv ∧ w.grownBy w' (some b) :=
  (sadv_any h.blk (nxtN_le L i h.le) hL).mono fun _ _ ⟨h1, h2, h3⟩ => ⟨h1, ⟨h2, nxtN_le L i h.le⟩, h3⟩
set_option maxRecDepth 100000 in
set_option maxHeartbeats 1000000 in
theorem sskd_any (h : RdAt w b L i lv) (hL : L.length ≤ 4000) (s : List UInt8) : Calls Tryz.prog 92 #[.pointer (some ⟨b, 0, none⟩), .string ⟨s.toArray⟩] w fun e w' => e = .returned (.bool (isT L i s)) ∧ RdAt w' b L (if isT L i s then nxtN L i else i) lv ∧ w.grownBy w' (some b) := by
  have C1 := Lib.hid (sis_any h s)
  have C2 := Lib.hid (sadv_at h hL)
  have H := Lib.hid h
  clear h
  cases e : isT L i s with
  | true =>
    rw [e] at C1
    clear e
    go_enter Tryz.func92, Tryz.ntmps92
    go_wp2_with (first | (go_at_call 95; refine C1.out.mono ?_; rintro e w1 ⟨rfl, rfl⟩) | (go_at_call 24; refine C2.out.mono ?_; rintro e w1 ⟨rfl, hr, hg⟩))
    go_ret
    exact ⟨rfl, hr, hg⟩
  | false =>
    rw [e] at C1
    clear e
    go_enter Tryz.func92, Tryz.ntmps92
    go_wp2_with (go_at_call 95; refine C1.out.mono ?_; rintro e w1 ⟨rfl, rfl⟩)
    go_ret
    exact ⟨rfl, H.out, (Ext.refl w).grownBy _⟩
theorem sskd_yes (h : RdAt w b L i lv) (hL : L.length ≤ 4000) {s : List UInt8} (hs : isT L i s = true) : Calls Tryz.prog 92 #[.pointer (some ⟨b, 0, none⟩), .string ⟨s.toArray⟩] w fun e w' => e = .returned (.bool true) ∧ RdAt w' b L (nxtN L i) lv ∧ w.grownBy w' (some b) :=
  (sskd_any h hL s).mono fun _ _ ⟨h1, h2, h3⟩ => ⟨by rw [h1, hs], by rw [hs] at h2; exact h2, h3⟩
theorem sskd_no (h : RdAt w b L i lv) (hL : L.length ≤ 4000) {s : List UInt8} (hs : isT L i s = false) : Calls Tryz.prog 92 #[.pointer (some ⟨b, 0, none⟩), .string ⟨s.toArray⟩] w fun e w' => e = .returned (.bool false) ∧ RdAt w' b L i lv ∧ w.grownBy w' (some b) :=
  (sskd_any h hL s).mono fun _ _ ⟨h1, h2, h3⟩ => ⟨by rw [h1, hs], by rw [hs] at h2; exact h2, h3⟩
set_option maxRecDepth 100000 in
set_option maxHeartbeats 1000000 in
theorem smust_any (h : RdAt w b L i lv) (hL : L.length ≤ 4000) (s : List UInt8) : Calls Tryz.prog 52 #[.pointer (some ⟨b, 0, none⟩), .string ⟨s.toArray⟩] w (PGot w b L lv (fun _ v _ => v = .tuple #[]) (mustT L i s)) := by
  have C1 := Lib.hid (sskd_any h hL s)
  have HU := Lib.hid (show mustT L i s = if isT L i s then .ok () (nxtN L i) else .bad (tokN L i).pos 5 from rfl)
  clear h
  cases e : isT L i s with
  | true =>
    rw [e] at C1 HU
    clear e
    go_enter Tryz.func52, Tryz.ntmps52
    go_wp2_with (go_at_call 92; refine C1.out.mono ?_; rintro e w1 ⟨rfl, hr, hg⟩)
    go_end0
    exact .ok HU.out hr hg rfl
  | false =>
    rw [e] at C1 HU
    clear e
    go_enter Tryz.func52, Tryz.ntmps52
    go_wp2_with (first | (go_at_call 92; refine C1.out.mono ?_; rintro e w1 ⟨rfl, hr, hg⟩) | (go_at_call 93; refine (sfail_any hr 5).mono ?_; rintro e w2 ⟨rfl, hg2⟩))
    exact ⟨rfl, .bad HU.out ⟨rfl, grown_one hg hg2⟩⟩
def LGot (w : World) (b : Nat) (L : List UInt8) (lv : Nat) (r : Ps Unit) (e : Ending) (w' : World) : Prop := PGot w b L (lv + 1) (fun _ v _ => v = .tuple #[]) r e w'
set_option maxRecDepth 100000 in
set_option maxHeartbeats 1000000 in
theorem senter_any {k : Nat} (h : RdAt w b L i lv) (hL : L.length ≤ 4000) (hk : lv + k = 64) : Calls Tryz.prog 96 #[.pointer (some ⟨b, 0, none⟩)] w (LGot w b L lv (enterT L k i)) := by
  have c5 : w.cell? ⟨b, 5, none⟩ = some (.int .i64 lv) := BlkOf.cell h.blk 5
  have f5 := BlkOf.free h.blk 5
  by_cases hz : k = 0
  · have HU := Lib.hid (show enterT L k i = .bad (tokN L i).pos 9 from if_pos hz)
    have hb : ((lv : Int) == 64) = true := by rw [beq_iff_eq]; omega
    have C1 := Lib.hid (sfail_any h 9)
    clear h hz hk
    go_enter Tryz.func96, Tryz.ntmps96
    go_wp2_with (go_at_call 93; refine C1.out.mono ?_; rintro e w2 ⟨rfl, hg2⟩)
    exact ⟨rfl, PGot.bad HU.out ⟨rfl, hg2⟩⟩
  · have HU := Lib.hid (show enterT L k i = .ok () (nxtN L i) from if_neg hz)
    have hb : ((lv : Int) == 64) = false := by rw [beq_eq_false_iff_ne]; omega
    have hlv : lv < 64 := by omega
    have HR2 := Lib.hid (show RdAt (w.setCell ⟨b, 5, none⟩ (.int .i64 ((lv : Int) + 1))) b L i (lv + 1) from ⟨BlkOf.set h.blk 5 (.int .i64 ((lv : Int) + 1)), h.le⟩)
    clear h hz hk
    go_enter Tryz.func96, Tryz.ntmps96
    go_wp2_with (go_at_call 24; refine (sadv_at HR2.out hL).mono ?_; rintro e w2 ⟨rfl, hr, hg⟩)
    go_end0
    exact PGot.ok HU.out hr (grown_one (setCell_grown _ _ _ _) hg) rfl
set_option maxRecDepth 100000 in
set_option maxHeartbeats 1000000 in
theorem sown_any (s : List UInt8) (w : World) : Calls Tryz.prog 94 #[.string ⟨s.toArray⟩] w fun e w' => e = .returned (.bool (decide (s ∈ ownW))) ∧ w = w' := by
  have HO := Lib.hid (show decide (s ∈ ownW) = ((s == [102, 110]) || (s == [108, 101, 116]) || (s == [110, 101, 101, 100]) || (s == [105, 102]) || (s == [116, 104, 101, 110]) || (s == [101, 108, 115, 101])) from by
    rw [Bool.eq_iff_iff]; simp [ownW, or_assoc])
  generalize decide (s ∈ ownW) = v at *
  generalize h1 : (s == [102, 110]) = b1 at *
  generalize h2 : (s == [108, 101, 116]) = b2 at *
  generalize h3 : (s == [110, 101, 101, 100]) = b3 at *
  generalize h4 : (s == [105, 102]) = b4 at *
  generalize h5 : (s == [116, 104, 101, 110]) = b5 at *
  generalize h6 : (s == [101, 108, 115, 101]) = b6 at *
  cases b1
  · cases b2
    · cases b3
      · cases b4
        · cases b5
          · cases b6
            all_goals
              go_enter Tryz.func94, Tryz.ntmps94
              go_wp2
              go_ret
              exact ⟨by rw [HO.out]; trivial, rfl⟩
          · clear h6
            go_enter Tryz.func94, Tryz.ntmps94
            go_wp2
            go_ret
            exact ⟨by rw [HO.out]; trivial, rfl⟩
        · clear h5 h6
          go_enter Tryz.func94, Tryz.ntmps94
          go_wp2
          go_ret
          exact ⟨by rw [HO.out]; trivial, rfl⟩
      · clear h4 h5 h6
        go_enter Tryz.func94, Tryz.ntmps94
        go_wp2
        go_ret
        exact ⟨by rw [HO.out]; trivial, rfl⟩
    · clear h3 h4 h5 h6
      go_enter Tryz.func94, Tryz.ntmps94
      go_wp2
      go_ret
      exact ⟨by rw [HO.out]; trivial, rfl⟩
  · clear h2 h3 h4 h5 h6
    go_enter Tryz.func94, Tryz.ntmps94
    go_wp2
    go_ret
    exact ⟨by rw [HO.out]; trivial, rfl⟩
set_option maxRecDepth 100000 in
set_option maxHeartbeats 2000000 in
theorem sname_any (h : RdAt w b L i lv) (hL : L.length ≤ 4000) : Calls Tryz.prog 53 #[.pointer (some ⟨b, 0, none⟩)] w (PGot w b L lv (fun _ v x => v = .tuple #[.string ⟨x.1.toArray⟩, .int .i64 x.2]) (nameT L i)) := by
  have c2 : w.cell? ⟨b, 2, none⟩ = some (.int .i64 (tokN L i).kind) := BlkOf.cell h.blk 2
  have c3 : w.cell? ⟨b, 3, none⟩ = some (.int .i64 (tokN L i).pos) := BlkOf.cell h.blk 3
  have c4 : w.cell? ⟨b, 4, none⟩ = some (.string ⟨(tokN L i).txt.toArray⟩) := BlkOf.cell h.blk 4
  have hne : w.heap.size ≠ b := by have := h.lt; omega
  have hne2 : b ≠ w.heap.size := fun e => hne e.symm
  have HU := Lib.hid (show nameT L i = if (tokN L i).kind ≠ 1 ∨ (tokN L i).txt ∈ ownW then .bad (tokN L i).pos 5 else if 16 < (tokN L i).txt.length then .bad (tokN L i).pos 3 else .ok ((tokN L i).txt, (tokN L i).pos) (nxtN L i) from rfl)
  have HX := Lib.hid (Ext.alloc w (.cells #[.int .i64 (tokN L i).kind, .int .i64 (tokN L i).pos, .string ⟨(tokN L i).txt.toArray⟩] 66))
  have HB := Lib.hid (BlkOf.new w [.int .i64 (tokN L i).kind, .int .i64 (tokN L i).pos, .string ⟨(tokN L i).txt.toArray⟩] 66)
  have H := Lib.hid h
  clear h
  go_enter Tryz.func53, Tryz.ntmps53
  go_upto_region 2 with fail
  generalize w.alloc (.cells #[.int .i64 (tokN L i).kind, .int .i64 (tokN L i).pos, .string ⟨(tokN L i).txt.toArray⟩] 66) = w1 at *
  generalize w.heap.size = zb at *
  have d0 : w1.cell? ⟨zb, 0, none⟩ = some (.int .i64 (tokN L i).kind) := HB.out.cell 0
  have d2 : w1.cell? ⟨zb, 2, none⟩ = some (.string ⟨(tokN L i).txt.toArray⟩) := HB.out.cell 2
  have HR1 := Lib.hid (H.out.ext HX.out)
  have HG1 := Lib.hid (HX.out.grownBy (some b))
  clear c2 c3 c4
  have HF5 := Lib.hid (sfail_any HR1.out 5)
  have HF3 := Lib.hid (sfail_any HR1.out 3)
  have HAD := Lib.hid (sadv_at HR1.out hL)
  have HOW := Lib.hid (sown_any (tokN L i).txt)
  by_cases hk : (tokN L i).kind = 1
  · have hk1 : (((tokN L i).kind : Int) != 1) = false := by rw [hk]; rfl
    cases ho : decide ((tokN L i).txt ∈ ownW) with
    | true =>
      have HU2 := Lib.hid (HU.out.trans (if_pos (.inr (of_decide_eq_true ho))))
      rw [ho] at HOW
      clear HU ho
      generalize (tokN L i).kind = K at *
      generalize (tokN L i).txt = tx at *
      go_wp2_with (first | (go_at_call 94; refine (HOW.out _).mono ?_; rintro e w2 ⟨rfl, rfl⟩) | (go_at_call 93; refine HF5.out.mono ?_; rintro e w2 ⟨rfl, hg⟩))
      exact ⟨rfl, PGot.bad HU2.out ⟨rfl, grown_one HG1.out hg⟩⟩
    | false =>
      have HU2 := Lib.hid (HU.out.trans (if_neg (by simp only [not_or, Decidable.not_not]; exact ⟨hk, of_decide_eq_false ho⟩)))
      rw [ho] at HOW
      clear HU ho
      by_cases hl : 16 < (tokN L i).txt.length
      · have HU3 := Lib.hid (HU2.out.trans (if_pos hl))
        have hl2 : (16 : Int) < (tokN L i).txt.length := by omega
        clear HU2
        generalize (tokN L i).kind = K at *
        generalize (tokN L i).txt = tx at *
        go_wp2_with (first | (go_at_call 94; refine (HOW.out _).mono ?_; rintro e w2 ⟨rfl, rfl⟩) | (go_at_call 93; refine HF3.out.mono ?_; rintro e w2 ⟨rfl, hg⟩))
        exact ⟨rfl, PGot.bad HU3.out ⟨rfl, grown_one HG1.out hg⟩⟩
      · have HU3 := Lib.hid (HU2.out.trans (if_neg hl))
        have hl2 : ¬ (16 : Int) < (tokN L i).txt.length := by omega
        clear HU2
        generalize hK : (tokN L i).kind = K at *
        generalize hT : (tokN L i).txt = tx at *
        generalize hP : (tokN L i).pos = ps at *
        go_upto_region 7 with (first | (go_at_call 94; refine (HOW.out _).mono ?_; rintro e w2 ⟨rfl, rfl⟩) | (go_at_call 24; refine HAD.out.mono ?_; rintro e w2 ⟨rfl, hr, hg⟩; have HB2 := Lib.hid (HB.out.grown hg (by simpa using hne))))
        have e1 : w2.cell? ⟨zb, 1, none⟩ = some (.int .i64 ps) := HB2.out.cell 1
        have e2 : w2.cell? ⟨zb, 2, none⟩ = some (.string ⟨tx.toArray⟩) := HB2.out.cell 2
        go_wp2_with (go_quiet (fail))
        go_ret2
        exact PGot.ok HU3.out (hr.ext (Ext.drewN _ _)) (grown_ext (grown_one HG1.out hg) (Ext.drewN _ _)) rfl
  · have hk1 : (((tokN L i).kind : Int) != 1) = true := by rw [bne_iff_ne]; omega
    have HU2 := Lib.hid (HU.out.trans (if_pos (.inl hk)))
    clear HU
    generalize (tokN L i).kind = K at *
    generalize (tokN L i).txt = tx at *
    go_wp2_with (go_at_call 93; refine HF5.out.mono ?_; rintro e w2 ⟨rfl, hg⟩)
    exact ⟨rfl, PGot.bad HU2.out ⟨rfl, grown_one HG1.out hg⟩⟩
end
end Go.Proofs.YtgnomhbbbcfehaaGreatDoor
