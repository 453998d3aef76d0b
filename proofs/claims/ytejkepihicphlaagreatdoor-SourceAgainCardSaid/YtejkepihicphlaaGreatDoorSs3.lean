/- A text's reader, the program's side: the next token: contract. -/
import Derived.Test.YtejkepihicphlaaGreatDoorZx1
namespace Go.Att
open Go.RowKit
theorem tw_len (s : List UInt8) (p : UInt8 → Bool) : (s.takeWhile p).length ≤ s.length := (List.takeWhile_prefix p).length_le
theorem tw_at (s : List UInt8) (p : UInt8 → Bool) (i : Nat) (h : i < (s.takeWhile p).length) : ∃ h' : i < s.length, p s[i] = true := by
  have hl := tw_len s p
  refine ⟨by omega, ?_⟩
  have h1 := (List.takeWhile_prefix (l := s) p).getElem h
  rw [← h1]
  exact List.all_eq_true.mp List.all_takeWhile _ (List.getElem_mem _)
theorem tw_end (s : List UInt8) (p : UInt8 → Bool) (c : UInt8) (h : s[(s.takeWhile p).length]? = some c) : p c = false := by
  induction s with
  | nil => simp at h
  | cons a s ih =>
    cases e : p a with
    | false =>
      rw [List.takeWhile_cons_of_neg (by simp [e])] at h
      simp at h; rw [← h]; exact e
    | true =>
      rw [List.takeWhile_cons_of_pos e] at h
      simp at h
      exact ih h
theorem tw_take (s : List UInt8) (p : UInt8 → Bool) : s.take (s.takeWhile p).length = s.takeWhile p :=
  (List.prefix_iff_eq_take.mp (List.takeWhile_prefix p)).symm
theorem idx_signs (c : UInt8) : (0 ≤ Lib.indexByte [40, 41, 44, 59, 61, 43, 45, 42, 47] c) ↔ c.toNat ∈ signs1 := by
  have hi : ∀ l : List UInt8, (0 ≤ Lib.indexByte l c) ↔ c ∈ l := by
    intro l
    induction l with
    | nil => simp [Lib.indexByte]
    | cons a l ih =>
      rw [Lib.indexByte, List.mem_cons]
      cases e : (a == c) with
      | true => rw [beq_iff_eq] at e; simp [e]
      | false =>
        rw [beq_eq_false_iff_ne] at e
        have hge := Lib.indexByte_ge l c
        by_cases h : Lib.indexByte l c = -1
        · simp only [Bool.false_eq_true, if_false, h, beq_self_eq_true, if_true]
          have : ¬ c ∈ l := fun hm => by have := ih.mpr hm; omega
          simp [this, Ne.symm e]
        · have h2 : (Lib.indexByte l c == -1) = false := by simpa using h
          simp only [Bool.false_eq_true, if_false, h2]
          have : c ∈ l := ih.mp (by omega)
          simp [this]; omega
  rw [hi]
  unfold signs1
  simp only [List.mem_cons, List.not_mem_nil, or_false, ← UInt8.toNat_inj]
  exact Iff.rfl
theorem tokL_word {s : List UInt8} (h : s.takeWhile joinC ≠ []) (k : Nat) : tokL s k = ⟨kindW (s.takeWhile joinC), k, s.takeWhile joinC⟩ := by
  cases s with
  | nil => simp at h
  | cons c t =>
    unfold tokL
    simp only
    rw [if_pos]
    cases e : joinC c with
    | true => rfl
    | false => rw [List.takeWhile_cons_of_neg (by simp [e])] at h; simp at h
end Go.Att
namespace Go.Proofs.YtejkepihicphlaaGreatDoor
open Go.RowKit Go.Att Go.Shelf
set_option maxRecDepth 100000 in
set_option maxHeartbeats 2000000 in
theorem sadv_any {w : World} {b : Nat} {L : List UInt8} {n : Nat} {tk : Tk} {lv : Nat} (h : RdC w b L n tk lv) (hn : n ≤ L.length) (hL : L.length ≤ 4000) :
    Calls Tryz.prog 24 #[.pointer (some ⟨b, 0, none⟩)] w (RdGo w b L (nxtN L n) (tokN L n) lv) := by
  have HS := Lib.hid (sskip_any h hn hL)
  have hk : n + skipL false (L.drop n) ≤ L.length := by have := skipL_le false (L.drop n); rw [List.length_drop] at this; omega
  have HT := Lib.hid (show tokN L n = tokL (L.drop (n + skipL false (L.drop n))) (n + skipL false (L.drop n)) from rfl)
  have HN := Lib.hid (show nxtN L n = (tokN L n).pos + (tokN L n).txt.length from rfl)
  clear h hn
  generalize n + skipL false (L.drop n) = k at *
  have hdr := src_drop hk
  have hsl : (L.drop k).length = L.length - k := List.length_drop
  generalize hs : L.drop k = s at *
  have HSE := Lib.hid hs; clear hs
  go_enter Tryz.func24, Tryz.ntmps24
  go_upto_region 1 with (go_at_call 55; refine HS.out.mono ?_; rintro e w1 ⟨rfl, hr1, hg1⟩; have HR1 := Lib.hid hr1; have HG1 := Lib.hid hg1; clear hr1 hg1)
  have c0 : w1.cell? ⟨b, 0, none⟩ = some (.string ⟨L.toArray⟩) := BlkOf.cell HR1.out 0
  have c1 : w1.cell? ⟨b, 1, none⟩ = some (.int .i64 k) := BlkOf.cell HR1.out 1
  have c2 : w1.cell? ⟨b, 2, none⟩ = some (.int .i64 tk.kind) := BlkOf.cell HR1.out 2
  have c3 : w1.cell? ⟨b, 3, none⟩ = some (.int .i64 tk.pos) := BlkOf.cell HR1.out 3
  have c4 : w1.cell? ⟨b, 4, none⟩ = some (.string ⟨tk.txt.toArray⟩) := BlkOf.cell HR1.out 4
  have f1 := BlkOf.free HR1.out 1
  have f2 := BlkOf.free HR1.out 2
  have f3 := BlkOf.free HR1.out 3
  have f4 := BlkOf.free HR1.out 4
  go_quiet (fail)
  go_upto_region 3 with fail
  have HW : RdC ((((w1.drewN nq).setCell ⟨b, 2, none⟩ (.int .i64 0)).setCell ⟨b, 3, none⟩ (.int .i64 k)).setCell ⟨b, 4, none⟩ (.string ⟨#[]⟩)) b L k ⟨0, k, []⟩ lv ∧ w.grownBy ((((w1.drewN nq).setCell ⟨b, 2, none⟩ (.int .i64 0)).setCell ⟨b, 3, none⟩ (.int .i64 k)).setCell ⟨b, 4, none⟩ (.string ⟨#[]⟩)) (some b) := by
    have e1 : RdC (w1.drewN nq) b L k tk lv := BlkOf.ext HR1.out (Ext.drewN _ _)
    exact ⟨((BlkOf.set e1 2 (.int .i64 0)).set 3 (.int .i64 k)).set 4 (.string ⟨#[]⟩), grown_one (grown_one (grown_one (grown_ext HG1.out (Ext.drewN _ _)) (setCell_grown _ _ _ _)) (setCell_grown _ _ _ _)) (setCell_grown _ _ _ _)⟩
  clear c0 c1 c2 c3 c4 f1 f2 f3 f4
  generalize (((w1.drewN nq).setCell ⟨b, 2, none⟩ (.int .i64 0)).setCell ⟨b, 3, none⟩ (.int .i64 k)).setCell ⟨b, 4, none⟩ (.string ⟨#[]⟩) = w2 at *
  have HR2 := Lib.hid HW.1; have HG2 := Lib.hid HW.2
  clear HW HR1 HG1 w1 nq hdr HS
  have c1 : w2.cell? ⟨b, 1, none⟩ = some (.int .i64 k) := BlkOf.cell HR2.out 1
  have c2 : w2.cell? ⟨b, 2, none⟩ = some (.int .i64 0) := BlkOf.cell HR2.out 2
  have c4 : w2.cell? ⟨b, 4, none⟩ = some (.string ⟨#[]⟩) := BlkOf.cell HR2.out 4
  have f1 := BlkOf.free HR2.out 1
  have f2 := BlkOf.free HR2.out 2
  have f4 := BlkOf.free HR2.out 4
  have HC := Lib.hid (fun (w3 : World) (hx : Ext w2 w3) => (⟨hx.cell c1, hx.cell c2, hx.cell c4, BlkOf.free (BlkOf.ext HR2.out hx) 1, BlkOf.free (BlkOf.ext HR2.out hx) 2, BlkOf.free (BlkOf.ext HR2.out hx) 4⟩ : w3.cell? ⟨b, 1, none⟩ = some (.int .i64 k) ∧ w3.cell? ⟨b, 2, none⟩ = some (.int .i64 0) ∧ w3.cell? ⟨b, 4, none⟩ = some (.string ⟨#[]⟩) ∧ w3.frozen? ⟨b, 1, none⟩ = false ∧ w3.frozen? ⟨b, 2, none⟩ = false ∧ w3.frozen? ⟨b, 4, none⟩ = false))
  by_cases hse : s = []
  · subst hse
    have HT2 := Lib.hid (show tokN L n = ⟨0, k, []⟩ from HT.out)
    have HN2 := Lib.hid (show nxtN L n = k from by rw [HN.out, HT2.out]; rfl)
    go_wp2_with fail
    go_end0
    exact ⟨rfl, by rw [HT2.out, HN2.out]; exact HR2.out, HG2.out⟩
  · have hem : s.isEmpty = false := by simpa using hse
    have HSN := Lib.hid hse
    clear hse
    go_wp2_with fail
    have HTL := Lib.hid (tw_len s joinC)
    generalize hm : (s.takeWhile joinC).length = m at *
    go_loopw [3] (fun x3 wr => ∃ i : Nat, i ≤ m ∧ x3 = .int .i64 i ∧ w2 = wr) (fun x3 _ => m - (intOf x3).toNat)
    case atStart => exact ⟨0, by omega, rfl, rfl⟩
    case round =>
      obtain ⟨i, hi, rfl, rfl⟩ := hrel
      by_cases hlt : i < m
      · obtain ⟨h1, h2⟩ := tw_at s joinC i (by omega)
        have hix : ∀ w', (Instr.index 9 (.string ⟨s.toArray⟩) (.int .i64 i)).run Tryz.prog w' = .ok (.int .u8 (s[i]).toNat) w' := src_index Tryz.underlying9 s i h1
        have hlt2 : (i : Int) < s.length := by omega
        have C := Lib.hid (sjoin_any s[i])
        rw [h2] at C
        generalize s[i] = c at *
        go_wp2_with (go_at_call 56; refine (C.out _).mono ?_; rintro e w1 ⟨rfl, rfl⟩)
        go_roundw
        case rel => exact ⟨i + 1, by omega, by simp, trivial⟩
        case measure => simp [intOf]; omega
      · have hie : i = m := by omega
        subst hie
        by_cases hz : i = 0
        · subst hz
          have hln : 0 < s.length := by rcases Nat.eq_zero_or_pos s.length with h | h; · exact absurd (List.length_eq_zero_iff.mp h) HSN.out
                                        · exact h
          obtain ⟨c, t, hct⟩ := List.exists_cons_of_ne_nil HSN.out
          have hjc : joinC c = false := tw_end s joinC c (by rw [hm, hct]; rfl)
          have hix : ∀ w', (Instr.index 9 (.string ⟨s.toArray⟩) (.int .i64 0)).run Tryz.prog w' = .ok (.int .u8 c.toNat) w' := fun w' => by
            have := src_index (P := Tryz.prog) (T := 9) Tryz.underlying9 s 0 hln w'
            rw [show s[0] = c from by simp [hct]] at this
            exact this
          have hlt2 : (0 : Int) < s.length := by omega
          have C2 := Lib.hid (sjoin_any c)
          rw [hjc] at C2
          have CP := Lib.hid (shasp_any s)
          have HTC := Lib.hid (show tokN L n = if c.toNat = 61 ∧ (t.headD 0).toNat = 61 then ⟨3, k, [61, 61]⟩ else if c.toNat ∈ signs1 then ⟨3, k, [c]⟩ else ⟨4, k, [c]⟩ from by
            rw [HT.out, hct]; unfold tokL; simp only; rw [if_neg (by rw [hjc]; simp)])
          have HP := Lib.hid (show ([61, 61] : List UInt8).isPrefixOf s = decide (c.toNat = 61 ∧ (t.headD 0).toNat = 61) from by
            rw [hct]
            cases t with
            | nil => simp [List.isPrefixOf]
            | cons d t =>
              simp only [List.isPrefixOf, List.headD_cons, Bool.and_true]
              rw [Bool.eq_iff_iff]
              constructor
              · intro h
                simp only [Bool.and_eq_true, beq_iff_eq] at h
                exact decide_eq_true ⟨by rw [← h.1]; rfl, by rw [← h.2]; rfl⟩
              · intro h
                have h := of_decide_eq_true h
                have e1 : c = 61 := by rw [← UInt8.toNat_inj]; exact h.1
                have e2 : d = 61 := by rw [← UInt8.toNat_inj]; exact h.2
                rw [e1, e2]; rfl)
          have HEND : ∀ (kd : Nat) (tx : List UInt8), Hid (tokN L n = ⟨kd, k, tx⟩) → Hid (RdGo w b L (nxtN L n) (tokN L n) lv (.returned (.tuple #[])) (((w2.setCell ⟨b, 2, none⟩ (.int .i64 kd)).setCell ⟨b, 4, none⟩ (.string ⟨tx.toArray⟩)).setCell ⟨b, 1, none⟩ (.int .i64 ((k : Int) + (tx.length : Nat))))) := fun kd tx ht => Lib.hid (by
            rw [HN.out, ht.out]
            exact ⟨rfl, ((BlkOf.set HR2.out 2 (.int .i64 kd)).set 4 (.string ⟨tx.toArray⟩)).set 1 (.int .i64 ((k : Int) + (tx.length : Nat))), grown_one (grown_one (grown_one HG2.out (setCell_grown _ _ _ _)) (setCell_grown _ _ _ _)) (setCell_grown _ _ _ _)⟩)
          have HE := Lib.hid HEND
          clear HEND HT HN hm HC
          by_cases h2 : c.toNat = 61 ∧ (t.headD 0).toNat = 61
          · rw [HP.out, decide_eq_true h2] at CP
            have HT3 := Lib.hid (HTC.out.trans (if_pos h2))
            have hts : ∀ w', (Instr.slice 9 (.string ⟨s.toArray⟩) none (some (.int .i64 2)) none).run Tryz.prog w' = .ok (.string ⟨#[61, 61]⟩) w' := fun w' => by
              have hl2 : 2 ≤ s.length := by
                rw [hct]; cases t with
                | nil => simp at h2
                | cons d t => simp
              have h3 := src_take hl2 w'
              rw [show s.take 2 = [61, 61] from by
                rw [hct]; cases t with
                | nil => simp at h2
                | cons d t =>
                  have e1 : c = 61 := by rw [← UInt8.toNat_inj]; exact h2.1
                  have e2 : d = 61 := by rw [← UInt8.toNat_inj]; exact h2.2
                  rw [e1, e2]; rfl] at h3
              exact h3
            clear HTC HP hct hjc h2
            go_wp2_with (first | (go_at_call 56; refine (C2.out _).mono ?_; rintro e w1 ⟨rfl, rfl⟩) | (go_at_call 58; refine (CP.out _).mono ?_; rintro e w1 ⟨rfl, rfl⟩))
            go_end0
            exact (HE.out 3 [61, 61] HT3).out
          · rw [HP.out, decide_eq_false h2] at CP
            have HTC2 := Lib.hid (HTC.out.trans (if_neg h2))
            have hts : ∀ w', (Instr.slice 9 (.string ⟨s.toArray⟩) none (some (.int .i64 1)) none).run Tryz.prog w' = .ok (.string ⟨[c].toArray⟩) w' := fun w' => by
              have h3 := src_take (l := s) (i := 1) hln w'
              rw [show s.take 1 = [c] from by rw [hct]; rfl] at h3
              exact h3
            have CI := Lib.hid (sidx_any [40, 41, 44, 59, 61, 43, 45, 42, 47] c)
            have HI := Lib.hid (idx_signs c)
            clear HTC HP hct hjc h2
            generalize Lib.indexByte [40, 41, 44, 59, 61, 43, 45, 42, 47] c = x at *
            by_cases h3 : c.toNat ∈ signs1
            · have HT3 := Lib.hid (HTC2.out.trans (if_pos h3))
              have hx : 0 ≤ x := HI.out.mpr h3
              clear HTC2 HI h3
              go_wp2_with (first | (go_at_call 56; refine (C2.out _).mono ?_; rintro e w1 ⟨rfl, rfl⟩) | (go_at_call 58; refine (CP.out _).mono ?_; rintro e w1 ⟨rfl, rfl⟩) | (go_at_call 59; refine (CI.out _).mono ?_; rintro e w1 ⟨rfl, rfl⟩))
              go_end0
              exact (HE.out 3 [c] HT3).out
            · have HT3 := Lib.hid (HTC2.out.trans (if_neg h3))
              have hx : ¬ 0 ≤ x := fun h => h3 (HI.out.mp h)
              clear HTC2 HI h3
              go_wp2_with (first | (go_at_call 56; refine (C2.out _).mono ?_; rintro e w1 ⟨rfl, rfl⟩) | (go_at_call 58; refine (CP.out _).mono ?_; rintro e w1 ⟨rfl, rfl⟩) | (go_at_call 59; refine (CI.out _).mono ?_; rintro e w1 ⟨rfl, rfl⟩))
              go_end0
              exact (HE.out 4 [c] HT3).out
        · have htw : s.takeWhile joinC ≠ [] := fun e => by rw [e] at hm; simp at hm; omega
          have HT2 := Lib.hid (HT.out.trans (tokL_word htw k))
          have HN2 := Lib.hid (show nxtN L n = k + i from by rw [HN.out, HT2.out, ← hm])
          have hts : ∀ w', (Instr.slice 9 (.string ⟨s.toArray⟩) none (some (.int .i64 i)) none).run Tryz.prog w' = .ok (.string ⟨(s.takeWhile joinC).toArray⟩) w' := fun w' => by
            rw [src_take HTL.out, ← hm, tw_take]
          have C := Lib.hid (skind_any (s.takeWhile joinC) (by rw [hm]; have := HTL.out; omega) htw)
          have hpos : (0 : Int) < i := by omega
          have HTE := Lib.hid (fun c h => tw_end s joinC c h)
          rw [hm] at HTE
          clear htw HT HN
          generalize s.takeWhile joinC = tw at *
          clear hm
          have HEND : ∀ w3, Hid (Ext w2 w3) → Hid (RdGo w b L (nxtN L n) (tokN L n) lv (.returned (.tuple #[])) (((w3.setCell ⟨b, 2, none⟩ (.int .i64 (kindW tw))).setCell ⟨b, 4, none⟩ (.string ⟨tw.toArray⟩)).setCell ⟨b, 1, none⟩ (.int .i64 ((k : Int) + i)))) := fun w3 hx => Lib.hid (by
            have hr3 := BlkOf.ext HR2.out hx.out
            rw [HT2.out, HN2.out]
            exact ⟨rfl, ((BlkOf.set hr3 2 (.int .i64 (kindW tw))).set 4 (.string ⟨tw.toArray⟩)).set 1 (.int .i64 ((k : Int) + i)), grown_one (grown_one (grown_one (grown_ext HG2.out hx.out) (setCell_grown _ _ _ _)) (setCell_grown _ _ _ _)) (setCell_grown _ _ _ _)⟩)
          have HE := Lib.hid HEND
          clear HEND
          by_cases hfull : i < s.length
          · have hix : ∀ w', (Instr.index 9 (.string ⟨s.toArray⟩) (.int .i64 i)).run Tryz.prog w' = .ok (.int .u8 (s[i]).toNat) w' := src_index Tryz.underlying9 s i hfull
            have C2 := Lib.hid (sjoin_any s[i])
            rw [HTE.out s[i] (List.getElem?_eq_getElem hfull)] at C2
            have hlt2 : (i : Int) < s.length := by omega
            generalize s[i] = c at *
            go_wp2_with (first | (go_at_call 56; refine (C2.out _).mono ?_; rintro e w1 ⟨rfl, rfl⟩) | (go_at_call 57; refine (C.out _).mono ?_; rintro e w3 ⟨rfl, hx⟩; have HX3 := Lib.hid hx; obtain ⟨k1, k2, k4, g1, g2, g4⟩ := HC.out w3 hx; clear hx))
            go_end0
            exact (HE.out _ HX3).out
          · have hib : i ≤ 4000 := by have := HTL.out; omega
            have hlt2 : ¬ (i : Int) < s.length := by omega
            go_wp2_with (first | (go_at_call 57; refine (C.out _).mono ?_; rintro e w3 ⟨rfl, hx⟩; have HX3 := Lib.hid hx; obtain ⟨k1, k2, k4, g1, g2, g4⟩ := HC.out w3 hx; clear hx))
            go_end0
            exact (HE.out _ HX3).out
end Go.Proofs.YtejkepihicphlaaGreatDoor
