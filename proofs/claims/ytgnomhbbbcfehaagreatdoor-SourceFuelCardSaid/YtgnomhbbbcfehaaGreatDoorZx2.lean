/- A text's reader, the program's side: what is skipped; the next token: contracts. A text's reader, the program's side: the next token: contract. -/
import Derived.Test.YtgnomhbbbcfehaaGreatDoorZx1
import Derived.Handy
section
namespace Go.Att
open Go.RowKit
def nextAt (w : World) (b : Nat) : Nat := match w.cell? ⟨b, 1, none⟩ with | some (.int _ v) => v.toNat | _ => 0
theorem nextAt_eq {w : World} {b n : Nat} {k : IntKind} (h : w.cell? ⟨b, 1, none⟩ = some (.int k n)) : nextAt w b = n := by unfold nextAt; rw [h]; simp
theorem skip_comment (s : List UInt8) : skipL true s = (if Lib.indexByte s 10 < 0 then (s.length : Int) else Lib.indexByte s 10).toNat + skipL false (s.drop (if Lib.indexByte s 10 < 0 then (s.length : Int) else Lib.indexByte s 10).toNat) := by
  induction s with
  | nil => simp [skipL, Lib.indexByte]
  | cons c t ih =>
    have hge := Lib.indexByte_ge t 10
    rw [skipL]
    by_cases h : c.toNat = 10
    · have hc : c = 10 := by rw [← UInt8.toNat_inj]; exact h
      subst hc
      rw [if_pos h]
      simp [Lib.indexByte, skipL]
    · have hc : (c == 10) = false := by rw [beq_eq_false_iff_ne, ne_eq, ← UInt8.toNat_inj]; exact h
      rw [if_neg h, ih]
      rw [Lib.indexByte, hc]
      by_cases h2 : Lib.indexByte t 10 = -1
      · rw [h2]; simp; omega
      · have h3 : (Lib.indexByte t 10 == -1) = false := by simpa using h2
        rw [h3]
        simp only [Bool.false_eq_true, if_false]
        rw [if_neg (by omega), if_neg (by omega)]
        obtain ⟨m, hm⟩ := Int.eq_ofNat_of_zero_le (show 0 ≤ Lib.indexByte t 10 by omega)
        rw [hm]
        have e1 : ((m : Int) + 1).toNat = m + 1 := by omega
        rw [e1, Int.toNat_natCast, List.drop_succ_cons]
        omega
theorem indexByte_lt (s : List UInt8) (c : UInt8) : Lib.indexByte s c < s.length ∨ s = [] := by
  induction s with
  | nil => exact .inr rfl
  | cons a t ih =>
    left
    rw [Lib.indexByte]
    split
    · simp
    · split
      · simp; omega
      · rcases ih with h | rfl
        · simp only [List.length_cons]; omega
        · rename_i h; simp [Lib.indexByte] at h
end Go.Att
namespace Go.Proofs.YtgnomhbbbcfehaaGreatDoor
open Go.RowKit Go.Att Go.Shelf
def RdC (w : World) (b : Nat) (L : List UInt8) (n : Nat) (tk : Tk) (lv : Nat) : Prop := BlkOf w b (rcells L n tk lv) 68
def RdGo (w : World) (b : Nat) (L : List UInt8) (n : Nat) (tk : Tk) (lv : Nat) (e : Ending) (w' : World) : Prop :=
  e = .returned (.tuple #[]) ∧ RdC w' b L n tk lv ∧ w.grownBy w' (some b)
theorem ba_drop (l : List UInt8) (i : Nat) : (ByteArray.mk l.toArray).extract i (ByteArray.mk l.toArray).size = ⟨(l.drop i).toArray⟩ := by
  apply ByteArray.ext
  rw [ByteArray.data_extract]
  show l.toArray.extract i l.toArray.size = _
  simp [List.extract_toArray, List.extract_eq_take_drop]
  exact List.take_of_length_le (by simp)
theorem ba_take (l : List UInt8) (i : Nat) : (ByteArray.mk l.toArray).extract 0 i = ⟨(l.take i).toArray⟩ := by
  apply ByteArray.ext
  rw [ByteArray.data_extract]
  simp [List.extract_toArray, List.extract_eq_take_drop]
theorem src_drop {l : List UInt8} {i : Nat} (h : i ≤ l.length) (w : World) : (Instr.slice 9 (.string ⟨l.toArray⟩) (some (.int .i64 i)) none none).run Tryz.prog w = .ok (.string ⟨(l.drop i).toArray⟩) w := by
  rw [run_slice_string_l w 9 ⟨l.toArray⟩ Tryz.underlying9 .i64 i (by omega) (by show (i : Int) ≤ (l.toArray.size : Nat); simp; omega)]
  rw [Int.toNat_natCast, ba_drop]
theorem src_take {l : List UInt8} {i : Nat} (h : i ≤ l.length) (w : World) : (Instr.slice 9 (.string ⟨l.toArray⟩) none (some (.int .i64 i)) none).run Tryz.prog w = .ok (.string ⟨(l.take i).toArray⟩) w := by
  rw [run_slice_string_h w 9 ⟨l.toArray⟩ Tryz.underlying9 .i64 i (by omega) (by show (i : Int) ≤ (l.toArray.size : Nat); simp; omega)]
  rw [Int.toNat_natCast, ba_take]
theorem qp2 {P : Program} {f : Nat} {args : Array Value} {v : Value} (h : ∀ W, Calls P f args W fun e w' => e = .returned v ∧ W = w') (w : World) (k n : Nat) : Calls P f args (w.drewN (k + n)) fun e w'' => e = .returned v ∧ ∃ m, w'' = w.drewN (k + m) :=
  (h _).mono fun _ _ h => ⟨h.1, n, h.2.symm⟩
theorem RdC.go {w w' : World} {b : Nat} {L : List UInt8} {n n' : Nat} {tk tk' : Tk} {lv lv' : Nat} (h : RdC w b L n tk lv) (i : Nat) (v : Value) (hw : w' = w.setCell ⟨b, i, none⟩ v) (hc : (rcells L n tk lv).set i v = rcells L n' tk' lv') : RdC w' b L n' tk' lv' ∧ w.grownBy w' (some b) := by
  subst hw
  exact ⟨by unfold RdC; rw [← hc]; exact BlkOf.set h i v, setCell_grown _ _ _ _⟩
theorem nextAt_rd {w : World} {b : Nat} {L : List UInt8} {n : Nat} {tk : Tk} {lv : Nat} (h : RdC w b L n tk lv) : nextAt w b = n := nextAt_eq (k := .i64) (BlkOf.cell h 1)
theorem rd_set {w wr : World} {b : Nat} {L : List UInt8} {q q' : Nat} {tk tk' : Tk} {lv lv' : Nat} (HR : RdC wr b L q tk lv) (HG : w.grownBy wr (some b)) (m : Nat) (i : Nat) (v : Value) (hc : (rcells L q tk lv).set i v = rcells L q' tk' lv') :
    RdC ((wr.drewN m).setCell ⟨b, i, none⟩ v) b L q' tk' lv' ∧ w.grownBy ((wr.drewN m).setCell ⟨b, i, none⟩ v) (some b) := by
  have h1 : RdC (wr.drewN m) b L q tk lv := BlkOf.ext HR (Ext.drewN _ _)
  exact ⟨by unfold RdC; rw [← hc]; exact BlkOf.set h1 i v, grown_one (grown_ext HG (Ext.drewN _ _)) (setCell_grown _ _ _ _)⟩
set_option maxRecDepth 100000 in
set_option maxHeartbeats 1000000 in
theorem sskip_any {w : World} {b : Nat} {L : List UInt8} {n : Nat} {tk : Tk} {lv : Nat} (h : RdC w b L n tk lv) (hn : n ≤ L.length) (hL : L.length ≤ 4000) :
    Calls Tryz.prog 47 #[.pointer (some ⟨b, 0, none⟩)] w (RdGo w b L (n + skipL false (L.drop n)) tk lv) := by
  have H := Lib.hid h
  clear h
  go_enter Tryz.func47, Tryz.ntmps47
  go_wp2_with fail
  go_loopw [] (fun wr => ∃ q : Nat, q ≤ L.length ∧ Hid (n + skipL false (L.drop n) = q + skipL false (L.drop q)) ∧ Hid (RdC wr b L q tk lv) ∧ Hid (w.grownBy wr (some b))) (fun wr => L.length - nextAt wr b)
  case atStart => exact ⟨n, hn, Lib.hid rfl, H, Lib.hid ((Ext.refl w).grownBy _)⟩
  case round =>
    obtain ⟨q, hq, HE, HR, HG⟩ := hrel
    have c0 : wr.cell? ⟨b, 0, none⟩ = some (.string ⟨L.toArray⟩) := BlkOf.cell HR.out 0
    have c1 : wr.cell? ⟨b, 1, none⟩ = some (.int .i64 q) := BlkOf.cell HR.out 1
    have f1 := BlkOf.free HR.out 1
    have HM := Lib.hid (nextAt_eq c1)
    by_cases hlt : q < L.length
    · have hlt2 : (q : Int) < L.length := by omega
      have hdr := List.drop_eq_getElem_cons hlt
      have hix : ∀ w', (Instr.index 9 (.string ⟨L.toArray⟩) (.int .i64 q)).run Tryz.prog w' = .ok (.int .u8 (L[q]).toNat) w' := src_index Tryz.underlying9 L q hlt
      have HD := Lib.hid hdr
      clear hdr
      generalize L[q] = c at *
      by_cases hb : c.toNat = 32 ∨ c.toNat = 9 ∨ c.toNat = 10
      · have HE2 := Lib.hid (show n + skipL false (L.drop n) = (q + 1) + skipL false (L.drop (q + 1)) from by
          rw [HE.out, HD.out, skipL, if_pos hb]; omega)
        clear HD
        rcases hb with hb | hb | hb
        all_goals
          rw [hb] at hix
          clear hb
          go_wp2_with (first | go_quiet (fail) | fail)
          go_roundw
          case rel => exact ⟨q + 1, by omega, HE2, Lib.hid (rd_set HR.out HG.out _ 1 (.int .i64 ((q : Int) + 1)) rfl).1, Lib.hid (rd_set (q' := q + 1) (tk' := tk) (lv' := lv) HR.out HG.out _ 1 (.int .i64 ((q : Int) + 1)) rfl).2⟩
          case measure =>
            rw [HM.out, nextAt_rd (rd_set (q' := q + 1) (tk' := tk) (lv' := lv) HR.out HG.out _ 1 (.int .i64 ((q : Int) + 1)) rfl).1]; omega
      · by_cases h35 : c.toNat = 35
        · have hdr2 := src_drop (l := L) (i := q) (by omega)
          have HE2 := Lib.hid (show skipL false (L.drop q) = (if Lib.indexByte (L.drop q) 10 < 0 then ((L.drop q).length : Int) else Lib.indexByte (L.drop q) 10).toNat + skipL false ((L.drop q).drop (if Lib.indexByte (L.drop q) 10 < 0 then ((L.drop q).length : Int) else Lib.indexByte (L.drop q) 10).toNat) from by
            rw [← skip_comment, HD.out, skipL, if_neg hb, if_pos h35]
            conv => rhs; rw [skipL, if_neg (by omega)])
          have hC : ∀ W, Calls Tryz.prog 51 #[.string ⟨(L.drop q).toArray⟩, .int .u8 10] W fun e w' => e = .returned (.int .i64 (Lib.indexByte (L.drop q) 10)) ∧ W = w' := sidx_any (L.drop q) 10
          have hge := Lib.indexByte_ge (L.drop q) 10
          have hpos : Lib.indexByte (L.drop q) 10 ≠ 0 := by
            rw [HD.out, Lib.indexByte]
            have : (c == 10) = false := by rw [beq_eq_false_iff_ne, ne_eq, ← UInt8.toNat_inj, h35]; decide
            rw [this]
            have := Lib.indexByte_ge (L.drop (q + 1)) 10
            simp only [Bool.false_eq_true, if_false]
            split
            · omega
            · rename_i h; simp only [beq_iff_eq] at h; omega
          have hlt3 := indexByte_lt (L.drop q) 10
          have hne : L.drop q ≠ [] := by rw [HD.out]; simp
          have hlt4 : Lib.indexByte (L.drop q) 10 < (L.length : Int) - q := by
            rcases hlt3 with h | h
            · rw [List.length_drop] at h; omega
            · exact absurd h hne
          rw [List.length_drop] at HE2
          rw [h35] at hix
          have C := Lib.hid hC
          clear hC hlt3 hne HD hb h35
          generalize Lib.indexByte (L.drop q) 10 = x at *
          by_cases hx : x < 0
          · rw [if_pos hx] at HE2
            have HX := Lib.hid (show n + skipL false (L.drop n) = L.length + skipL false (L.drop L.length) from by
              rw [HE.out, HE2.out, List.drop_drop]
              have : (((L.length - q : Nat) : Int)).toNat = L.length - q := by omega
              rw [this, show q + (L.length - q) = L.length from by omega]; omega)
            clear HE2
            go_wp2_with fail
            go_quiet (fail)
            go_wp2_with fail
            go_quiet (fail)
            go_wp2_with fail
            go_quiet ((go_at_call 51; exact qp2 C.out _ _ _))
            go_wp2_with fail
            go_quiet (fail)
            go_wp2_with fail
            have HS := Lib.hid (fun M => rd_set (q' := L.length) (tk' := tk) (lv' := lv) HR.out HG.out M 1 (.int .i64 ((q : Int) + ((L.length : Int) - q))) (by
              have : (q : Int) + ((L.length : Int) - q) = (L.length : Int) := by omega
              rw [this]; rfl))
            go_roundw
            case rel => exact ⟨L.length, Nat.le_refl _, HX, Lib.hid (HS.out _).1, Lib.hid (HS.out _).2⟩
            case measure => rw [HM.out, nextAt_rd (HS.out _).1]; omega
          · rw [if_neg hx] at HE2
            obtain ⟨m, rfl⟩ := Int.eq_ofNat_of_zero_le (show 0 ≤ x by omega)
            have HX := Lib.hid (show n + skipL false (L.drop n) = (q + m) + skipL false (L.drop (q + m)) from by
              rw [HE.out, HE2.out, List.drop_drop, Int.toNat_natCast]; omega)
            clear HE2
            go_wp2_with fail
            go_quiet (fail)
            go_wp2_with fail
            go_quiet (fail)
            go_wp2_with fail
            go_quiet ((go_at_call 51; exact qp2 C.out _ _ _))
            go_wp2_with fail
            have HS := Lib.hid (fun M => rd_set (q' := q + m) (tk' := tk) (lv' := lv) HR.out HG.out M 1 (.int .i64 ((q : Int) + (m : Int))) (by
              have : (q : Int) + (m : Int) = ((q + m : Nat) : Int) := by omega
              rw [this]; rfl))
            go_roundw
            case rel => exact ⟨q + m, by omega, HX, Lib.hid (HS.out _).1, Lib.hid (HS.out _).2⟩
            case measure => rw [HM.out, nextAt_rd (HS.out _).1]; omega
        · have HE2 := Lib.hid (show skipL false (L.drop q) = 0 from by rw [HD.out, skipL, if_neg hb, if_neg h35])
          have HX := Lib.hid (HE.out.trans (by rw [HE2.out] : q + skipL false (L.drop q) = q + 0))
          have h32 : ((c.toNat : Int) == 32) = false := by rw [beq_eq_false_iff_ne]; omega
          have h9 : ((c.toNat : Int) == 9) = false := by rw [beq_eq_false_iff_ne]; omega
          have h10 : ((c.toNat : Int) == 10) = false := by rw [beq_eq_false_iff_ne]; omega
          have h35b : ((c.toNat : Int) == 35) = false := by rw [beq_eq_false_iff_ne]; omega
          clear hb h35 HD HE2
          go_wp2_with (first | go_quiet (fail) | fail)
          go_end0
          exact ⟨rfl, by rw [HX.out]; exact BlkOf.ext HR.out (Ext.drewN _ _), grown_ext HG.out (Ext.drewN _ _)⟩
    · have hqe : q = L.length := by omega
      have HX := Lib.hid (show n + skipL false (L.drop n) = q from by rw [HE.out, hqe, List.drop_length]; rfl)
      have hlt2 : ¬ (q : Int) < L.length := by omega
      clear hqe
      go_wp2_with (first | go_quiet (fail) | fail)
      go_end0
      exact ⟨rfl, by rw [HX.out]; exact BlkOf.ext HR.out (Ext.drewN _ _), grown_ext HG.out (Ext.drewN _ _)⟩
end Go.Proofs.YtgnomhbbbcfehaaGreatDoor
end
section
namespace Go.Att
open Go.RowKit
theorem tw_len (s : List UInt8) (p : UInt8 → Bool) : (s.takeWhile p).length ≤ s.length := (List.takeWhile_prefix p).length_le
theorem tw_at (s : List UInt8) (p : UInt8 → Bool) (i : Nat) (h : i < (s.takeWhile p).length) : ∃ h' : i < s.length, p s[i] = true := by
  have hl := tw_len s p
  refine ⟨by omega, ?_⟩
  have h1 := (List.takeWhile_prefix (l := s) p).getElem h
  rw [← h1]
  exact List.all_eq_true.mp List.all_takeWhile _ (List.getElem_mem _)
theorem tw_end (s : List UInt8) (p : UInt8 → Bool) (c : UInt8) (h : s[(s.takeWhile p).length]? = some c) : p c = false := by
  induction s with
  | nil => simp at h
  | cons a s ih =>
    cases e : p a with
    | false =>
      rw [List.takeWhile_cons_of_neg (by simp [e])] at h
      simp at h; rw [← h]; exact e
    | true =>
      rw [List.takeWhile_cons_of_pos e] at h
      simp at h
      exact ih h
theorem tw_take (s : List UInt8) (p : UInt8 → Bool) : s.take (s.takeWhile p).length = s.takeWhile p :=
  (List.prefix_iff_eq_take.mp (List.takeWhile_prefix p)).symm
theorem idx_signs (c : UInt8) : (0 ≤ Lib.indexByte [40, 41, 44, 59, 61, 43, 45, 42, 47] c) ↔ c.toNat ∈ signs1 := by
  have hi : ∀ l : List UInt8, (0 ≤ Lib.indexByte l c) ↔ c ∈ l := by
    intro l
    induction l with
    | nil => simp [Lib.indexByte]
    | cons a l ih =>
      rw [Lib.indexByte, List.mem_cons]
      cases e : (a == c) with
      | true => rw [beq_iff_eq] at e; simp [e]
      | false =>
        rw [beq_eq_false_iff_ne] at e
        have hge := Lib.indexByte_ge l c
        by_cases h : Lib.indexByte l c = -1
        · simp only [Bool.false_eq_true, if_false, h, beq_self_eq_true, if_true]
          have : ¬ c ∈ l := fun hm => by have := ih.mpr hm; omega
          simp [this, Ne.symm e]
        · have h2 : (Lib.indexByte l c == -1) = false := by simpa using h
          simp only [Bool.false_eq_true, if_false, h2]
          have : c ∈ l := ih.mp (by omega)
          simp [this]; omega
  rw [hi]
  unfold signs1
  simp only [List.mem_cons, List.not_mem_nil, or_false, ← UInt8.toNat_inj]
  exact Iff.rfl
theorem tokL_word {s : List UInt8} (h : s.takeWhile joinC ≠ []) (k : Nat) : tokL s k = ⟨kindW (s.takeWhile joinC), k, s.takeWhile joinC⟩ := by
  cases s with
  | nil => simp at h
  | cons c t =>
    unfold tokL
    simp only
    rw [if_pos]
    cases e : joinC c with
    | true => rfl
    | false => rw [List.takeWhile_cons_of_neg (by simp [e])] at h; simp at h
end Go.Att
namespace Go.Proofs.YtgnomhbbbcfehaaGreatDoor
open Go.RowKit Go.Att Go.Shelf
set_option maxRecDepth 100000 in
set_option maxHeartbeats 2000000 in
theorem sadv_any {w : World} {b : Nat} {L : List UInt8} {n : Nat} {tk : Tk} {lv : Nat} (h : RdC w b L n tk lv) (hn : n ≤ L.length) (hL : L.length ≤ 4000) :
    Calls Tryz.prog 24 #[.pointer (some ⟨b, 0, none⟩)] w (RdGo w b L (nxtN L n) (tokN L n) lv) := by
  have HS := Lib.hid (sskip_any h hn hL)
  have hk : n + skipL false (L.drop n) ≤ L.length := by have := skipL_le false (L.drop n); rw [List.length_drop] at this; omega
  have HT := Lib.hid (show tokN L n = tokL (L.drop (n + skipL false (L.drop n))) (n + skipL false (L.drop n)) from rfl)
  have HN := Lib.hid (show nxtN L n = (tokN L n).pos + (tokN L n).txt.length from rfl)
  clear h hn
  generalize n + skipL false (L.drop n) = k at *
  have hdr := src_drop hk
  have hsl : (L.drop k).length = L.length - k := List.length_drop
  generalize hs : L.drop k = s at *
  have HSE := Lib.hid hs; clear hs
  go_enter Tryz.func24, Tryz.ntmps24
  go_upto_region 1 with (go_at_call 47; refine HS.out.mono ?_; rintro e w1 ⟨rfl, hr1, hg1⟩; have HR1 := Lib.hid hr1; have HG1 := Lib.hid hg1; clear hr1 hg1)
  have c0 : w1.cell? ⟨b, 0, none⟩ = some (.string ⟨L.toArray⟩) := BlkOf.cell HR1.out 0
  have c1 : w1.cell? ⟨b, 1, none⟩ = some (.int .i64 k) := BlkOf.cell HR1.out 1
  have c2 : w1.cell? ⟨b, 2, none⟩ = some (.int .i64 tk.kind) := BlkOf.cell HR1.out 2
  have c3 : w1.cell? ⟨b, 3, none⟩ = some (.int .i64 tk.pos) := BlkOf.cell HR1.out 3
  have c4 : w1.cell? ⟨b, 4, none⟩ = some (.string ⟨tk.txt.toArray⟩) := BlkOf.cell HR1.out 4
  have f1 := BlkOf.free HR1.out 1
  have f2 := BlkOf.free HR1.out 2
  have f3 := BlkOf.free HR1.out 3
  have f4 := BlkOf.free HR1.out 4
  go_quiet (fail)
  go_upto_region 3 with fail
  have HW : RdC ((((w1.drewN nq).setCell ⟨b, 2, none⟩ (.int .i64 0)).setCell ⟨b, 3, none⟩ (.int .i64 k)).setCell ⟨b, 4, none⟩ (.string ⟨#[]⟩)) b L k ⟨0, k, []⟩ lv ∧ w.grownBy ((((w1.drewN nq).setCell ⟨b, 2, none⟩ (.int .i64 0)).setCell ⟨b, 3, none⟩ (.int .i64 k)).setCell ⟨b, 4, none⟩ (.string ⟨#[]⟩)) (some b) := by
    have e1 : RdC (w1.drewN nq) b L k tk lv := BlkOf.ext HR1.out (Ext.drewN _ _)
    exact ⟨((BlkOf.set e1 2 (.int .i64 0)).set 3 (.int .i64 k)).set 4 (.string ⟨#[]⟩), grown_one (grown_one (grown_one (grown_ext HG1.out (Ext.drewN _ _)) (setCell_grown _ _ _ _)) (setCell_grown _ _ _ _)) (setCell_grown _ _ _ _)⟩
  clear c0 c1 c2 c3 c4 f1 f2 f3 f4
  generalize (((w1.drewN nq).setCell ⟨b, 2, none⟩ (.int .i64 0)).setCell ⟨b, 3, none⟩ (.int .i64 k)).setCell ⟨b, 4, none⟩ (.string ⟨#[]⟩) = w2 at *
  have HR2 := Lib.hid HW.1; have HG2 := Lib.hid HW.2
  clear HW HR1 HG1 w1 nq hdr HS
  have c1 : w2.cell? ⟨b, 1, none⟩ = some (.int .i64 k) := BlkOf.cell HR2.out 1
  have c2 : w2.cell? ⟨b, 2, none⟩ = some (.int .i64 0) := BlkOf.cell HR2.out 2
  have c4 : w2.cell? ⟨b, 4, none⟩ = some (.string ⟨#[]⟩) := BlkOf.cell HR2.out 4
  have f1 := BlkOf.free HR2.out 1
  have f2 := BlkOf.free HR2.out 2
  have f4 := BlkOf.free HR2.out 4
  have HC := Lib.hid (fun (w3 : World) (hx : Ext w2 w3) => (⟨hx.cell c1, hx.cell c2, hx.cell c4, BlkOf.free (BlkOf.ext HR2.out hx) 1, BlkOf.free (BlkOf.ext HR2.out hx) 2, BlkOf.free (BlkOf.ext HR2.out hx) 4⟩ : w3.cell? ⟨b, 1, none⟩ = some (.int .i64 k) ∧ w3.cell? ⟨b, 2, none⟩ = some (.int .i64 0) ∧ w3.cell? ⟨b, 4, none⟩ = some (.string ⟨#[]⟩) ∧ w3.frozen? ⟨b, 1, none⟩ = false ∧ w3.frozen? ⟨b, 2, none⟩ = false ∧ w3.frozen? ⟨b, 4, none⟩ = false))
  by_cases hse : s = []
  · subst hse
    have HT2 := Lib.hid (show tokN L n = ⟨0, k, []⟩ from HT.out)
    have HN2 := Lib.hid (show nxtN L n = k from by rw [HN.out, HT2.out]; rfl)
    go_wp2_with fail
    go_end0
    exact ⟨rfl, by rw [HT2.out, HN2.out]; exact HR2.out, HG2.out⟩
  · have hem : s.isEmpty = false := by simpa using hse
    have HSN := Lib.hid hse
    clear hse
    go_wp2_with fail
    have HTL := Lib.hid (tw_len s joinC)
    generalize hm : (s.takeWhile joinC).length = m at *
    go_loopw [3] (fun x3 wr => ∃ i : Nat, i ≤ m ∧ x3 = .int .i64 i ∧ w2 = wr) (fun x3 _ => m - (intOf x3).toNat)
    case atStart => exact ⟨0, by omega, rfl, rfl⟩
    case round =>
      obtain ⟨i, hi, rfl, rfl⟩ := hrel
      by_cases hlt : i < m
      · obtain ⟨h1, h2⟩ := tw_at s joinC i (by omega)
        have hix : ∀ w', (Instr.index 9 (.string ⟨s.toArray⟩) (.int .i64 i)).run Tryz.prog w' = .ok (.int .u8 (s[i]).toNat) w' := src_index Tryz.underlying9 s i h1
        have hlt2 : (i : Int) < s.length := by omega
        have C := Lib.hid (sjoin_any s[i])
        rw [h2] at C
        generalize s[i] = c at *
        go_wp2_with (go_at_call 48; refine (C.out _).mono ?_; rintro e w1 ⟨rfl, rfl⟩)
        go_roundw
        case rel => exact ⟨i + 1, by omega, by simp, trivial⟩
        case measure => simp [intOf]; omega
      · have hie : i = m := by omega
        subst hie
        by_cases hz : i = 0
        · subst hz
          have hln : 0 < s.length := by rcases Nat.eq_zero_or_pos s.length with h | h; · exact absurd (List.length_eq_zero_iff.mp h) HSN.out
                                        · exact h
          obtain ⟨c, t, hct⟩ := List.exists_cons_of_ne_nil HSN.out
          have hjc : joinC c = false := tw_end s joinC c (by rw [hm, hct]; rfl)
          have hix : ∀ w', (Instr.index 9 (.string ⟨s.toArray⟩) (.int .i64 0)).run Tryz.prog w' = .ok (.int .u8 c.toNat) w' := fun w' => by
            have := src_index (P := Tryz.prog) (T := 9) Tryz.underlying9 s 0 hln w'
            rw [show s[0] = c from by simp [hct]] at this
            exact this
          have hlt2 : (0 : Int) < s.length := by omega
          have C2 := Lib.hid (sjoin_any c)
          rw [hjc] at C2
          have CP := Lib.hid (shasp_any s)
          have HTC := Lib.hid (show tokN L n = if c.toNat = 61 ∧ (t.headD 0).toNat = 61 then ⟨3, k, [61, 61]⟩ else if c.toNat ∈ signs1 then ⟨3, k, [c]⟩ else ⟨4, k, [c]⟩ from by
            rw [HT.out, hct]; unfold tokL; simp only; rw [if_neg (by rw [hjc]; simp)])
          have HP := Lib.hid (show ([61, 61] : List UInt8).isPrefixOf s = decide (c.toNat = 61 ∧ (t.headD 0).toNat = 61) from by
            rw [hct]
            cases t with
            | nil => simp [List.isPrefixOf]
            | cons d t =>
              simp only [List.isPrefixOf, List.headD_cons, Bool.and_true]
              rw [Bool.eq_iff_iff]
              constructor
              · intro h
                simp only [Bool.and_eq_true, beq_iff_eq] at h
                exact decide_eq_true ⟨by rw [← h.1]; rfl, by rw [← h.2]; rfl⟩
              · intro h
                have h := of_decide_eq_true h
                have e1 : c = 61 := by rw [← UInt8.toNat_inj]; exact h.1
                have e2 : d = 61 := by rw [← UInt8.toNat_inj]; exact h.2
                rw [e1, e2]; rfl)
          have HEND : ∀ (kd : Nat) (tx : List UInt8), Hid (tokN L n = ⟨kd, k, tx⟩) → Hid (RdGo w b L (nxtN L n) (tokN L n) lv (.returned (.tuple #[])) (((w2.setCell ⟨b, 2, none⟩ (.int .i64 kd)).setCell ⟨b, 4, none⟩ (.string ⟨tx.toArray⟩)).setCell ⟨b, 1, none⟩ (.int .i64 ((k : Int) + (tx.length : Nat))))) := fun kd tx ht => Lib.hid (by
            rw [HN.out, ht.out]
            exact ⟨rfl, ((BlkOf.set HR2.out 2 (.int .i64 kd)).set 4 (.string ⟨tx.toArray⟩)).set 1 (.int .i64 ((k : Int) + (tx.length : Nat))), grown_one (grown_one (grown_one HG2.out (setCell_grown _ _ _ _)) (setCell_grown _ _ _ _)) (setCell_grown _ _ _ _)⟩)
          have HE := Lib.hid HEND
          clear HEND HT HN hm HC
          by_cases h2 : c.toNat = 61 ∧ (t.headD 0).toNat = 61
          · rw [HP.out, decide_eq_true h2] at CP
            have HT3 := Lib.hid (HTC.out.trans (if_pos h2))
            have hts : ∀ w', (Instr.slice 9 (.string ⟨s.toArray⟩) none (some (.int .i64 2)) none).run Tryz.prog w' = .ok (.string ⟨#[61, 61]⟩) w' := fun w' => by
              have hl2 : 2 ≤ s.length := by
                rw [hct]; cases t with
                | nil => simp at h2
                | cons d t => simp
              have h3 := src_take hl2 w'
              rw [show s.take 2 = [61, 61] from by
                rw [hct]; cases t with
                | nil => simp at h2
                | cons d t =>
                  have e1 : c = 61 := by rw [← UInt8.toNat_inj]; exact h2.1
                  have e2 : d = 61 := by rw [← UInt8.toNat_inj]; exact h2.2
                  rw [e1, e2]; rfl] at h3
              exact h3
            clear HTC HP hct hjc h2
            go_wp2_with (first | (go_at_call 48; refine (C2.out _).mono ?_; rintro e w1 ⟨rfl, rfl⟩) | (go_at_call 50; refine (CP.out _).mono ?_; rintro e w1 ⟨rfl, rfl⟩))
            go_end0
            exact (HE.out 3 [61, 61] HT3).out
          · rw [HP.out, decide_eq_false h2] at CP
            have HTC2 := Lib.hid (HTC.out.trans (if_neg h2))
            have hts : ∀ w', (Instr.slice 9 (.string ⟨s.toArray⟩) none (some (.int .i64 1)) none).run Tryz.prog w' = .ok (.string ⟨[c].toArray⟩) w' := fun w' => by
              have h3 := src_take (l := s) (i := 1) hln w'
              rw [show s.take 1 = [c] from by rw [hct]; rfl] at h3
              exact h3
            have CI := Lib.hid (sidx_any [40, 41, 44, 59, 61, 43, 45, 42, 47] c)
            have HI := Lib.hid (idx_signs c)
            clear HTC HP hct hjc h2
            generalize Lib.indexByte [40, 41, 44, 59, 61, 43, 45, 42, 47] c = x at *
            by_cases h3 : c.toNat ∈ signs1
            · have HT3 := Lib.hid (HTC2.out.trans (if_pos h3))
              have hx : 0 ≤ x := HI.out.mpr h3
              clear HTC2 HI h3
              go_wp2_with (first | (go_at_call 48; refine (C2.out _).mono ?_; rintro e w1 ⟨rfl, rfl⟩) | (go_at_call 50; refine (CP.out _).mono ?_; rintro e w1 ⟨rfl, rfl⟩) | (go_at_call 51; refine (CI.out _).mono ?_; rintro e w1 ⟨rfl, rfl⟩))
              go_end0
              exact (HE.out 3 [c] HT3).out
            · have HT3 := Lib.hid (HTC2.out.trans (if_neg h3))
              have hx : ¬ 0 ≤ x := fun h => h3 (HI.out.mp h)
              clear HTC2 HI h3
              go_wp2_with (first | (go_at_call 48; refine (C2.out _).mono ?_; rintro e w1 ⟨rfl, rfl⟩) | (go_at_call 50; refine (CP.out _).mono ?_; rintro e w1 ⟨rfl, rfl⟩) | (go_at_call 51; refine (CI.out _).mono ?_; rintro e w1 ⟨rfl, rfl⟩))
              go_end0
              exact (HE.out 4 [c] HT3).out
        · have htw : s.takeWhile joinC ≠ [] := fun e => by rw [e] at hm; simp at hm; omega
          have HT2 := Lib.hid (HT.out.trans (tokL_word htw k))
          have HN2 := Lib.hid (show nxtN L n = k + i from by rw [HN.out, HT2.out, ← hm])
          have hts : ∀ w', (Instr.slice 9 (.string ⟨s.toArray⟩) none (some (.int .i64 i)) none).run Tryz.prog w' = .ok (.string ⟨(s.takeWhile joinC).toArray⟩) w' := fun w' => by
            rw [src_take HTL.out, ← hm, tw_take]
          have C := Lib.hid (skind_any (s.takeWhile joinC) (by rw [hm]; have := HTL.out; omega) htw)
          have hpos : (0 : Int) < i := by omega
          have HTE := Lib.hid (fun c h => tw_end s joinC c h)
          rw [hm] at HTE
          clear htw HT HN
          generalize s.takeWhile joinC = tw at *
          clear hm
          have HEND : ∀ w3, Hid (Ext w2 w3) → Hid (RdGo w b L (nxtN L n) (tokN L n) lv (.returned (.tuple #[])) (((w3.setCell ⟨b, 2, none⟩ (.int .i64 (kindW tw))).setCell ⟨b, 4, none⟩ (.string ⟨tw.toArray⟩)).setCell ⟨b, 1, none⟩ (.int .i64 ((k : Int) + i)))) := fun w3 hx => Lib.hid (by
            have hr3 := BlkOf.ext HR2.out hx.out
            rw [HT2.out, HN2.out]
            exact ⟨rfl, ((BlkOf.set hr3 2 (.int .i64 (kindW tw))).set 4 (.string ⟨tw.toArray⟩)).set 1 (.int .i64 ((k : Int) + i)), grown_one (grown_one (grown_one (grown_ext HG2.out hx.out) (setCell_grown _ _ _ _)) (setCell_grown _ _ _ _)) (setCell_grown _ _ _ _)⟩)
          have HE := Lib.hid HEND
          clear HEND
          by_cases hfull : i < s.length
          · have hix : ∀ w', (Instr.index 9 (.string ⟨s.toArray⟩) (.int .i64 i)).run Tryz.prog w' = .ok (.int .u8 (s[i]).toNat) w' := src_index Tryz.underlying9 s i hfull
            have C2 := Lib.hid (sjoin_any s[i])
            rw [HTE.out s[i] (List.getElem?_eq_getElem hfull)] at C2
            have hlt2 : (i : Int) < s.length := by omega
            generalize s[i] = c at *
            go_wp2_with (first | (go_at_call 48; refine (C2.out _).mono ?_; rintro e w1 ⟨rfl, rfl⟩) | (go_at_call 49; refine (C.out _).mono ?_; rintro e w3 ⟨rfl, hx⟩; have HX3 := Lib.hid hx; obtain ⟨k1, k2, k4, g1, g2, g4⟩ := HC.out w3 hx; clear hx))
            go_end0
            exact (HE.out _ HX3).out
          · have hib : i ≤ 4000 := by have := HTL.out; omega
            have hlt2 : ¬ (i : Int) < s.length := by omega
            go_wp2_with (first | (go_at_call 49; refine (C.out _).mono ?_; rintro e w3 ⟨rfl, hx⟩; have HX3 := Lib.hid hx; obtain ⟨k1, k2, k4, g1, g2, g4⟩ := HC.out w3 hx; clear hx))
            go_end0
            exact (HE.out _ HX3).out
end Go.Proofs.YtgnomhbbbcfehaaGreatDoor
end
