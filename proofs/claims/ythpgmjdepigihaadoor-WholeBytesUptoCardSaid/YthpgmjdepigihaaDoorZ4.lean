/- The document reads counts and lists of bytes: contracts. -/
import Derived.Test.YthpgmjdepigihaaDoorZ3
namespace Go.Att
open Go.RowKit
/-- A count: a number that is no more than what is left. -/
def rdC (b : List Int) : Option (Int × List Int) := (rdI b).bind fun q => if q.1 < 0 ∨ (q.2.length : Int) < q.1 then none else some q
theorem rdC_none {st : Option (List Int)} (h : st.bind rdI = none) : st.bind rdC = none := by
  cases st with
  | none => rfl
  | some t => show (rdI t).bind _ = none; rw [show rdI t = none from h]; rfl
theorem rdC_no {st : Option (List Int)} {x : Int} {t : List Int} (h : st.bind rdI = some (x, t)) (hc : x < 0 ∨ (t.length : Int) < x) : st.bind rdC = none := by
  cases st with
  | none => cases h
  | some u => show (rdI u).bind _ = none; rw [show rdI u = some (x, t) from h]; exact if_pos hc
theorem rdC_yes {st : Option (List Int)} {x : Int} {t : List Int} (h : st.bind rdI = some (x, t)) (hc : ¬ (x < 0 ∨ (t.length : Int) < x)) : st.bind rdC = some (x, t) := by
  cases st with
  | none => cases h
  | some u => show (rdI u).bind _ = _; rw [show rdI u = some (x, t) from h]; exact if_neg hc
theorem rdC_of {st : Option (List Int)} {x : Int} {t : List Int} (h : st.bind rdC = some (x, t)) : 0 ≤ x ∧ x ≤ t.length := by
  cases st with
  | none => cases h
  | some u =>
    have h' : (rdI u).bind (fun q => if q.1 < 0 ∨ (q.2.length : Int) < q.1 then none else some q) = some (x, t) := h
    rw [Option.bind_eq_some_iff] at h'
    obtain ⟨q, _, h2⟩ := h'
    split at h2
    · cases h2
    · rename_i hn
      obtain rfl := Option.some.inj h2
      simp only [not_or] at hn
      omega
section
variable {α : Type} {one : List Int → Option (α × List Int)}
theorem rdL_C (st : Option (List Int)) : st.bind (rdL one) = (st.bind rdC).bind fun q => rdN one q.1.toNat q.2 := by
  cases st with
  | none => rfl
  | some t =>
    show rdL one t = (rdC t).bind _
    unfold rdL rdC
    rw [Option.bind_assoc]
    congr 1
    funext q
    split <;> rfl
/-- The list so far, and what is left to read. -/
theorem dl_start {st st1 : Option (List Int)} {x : Int} (h : st.bind rdC = st1.map fun t => (x, t)) : st.bind (rdL one) = st1.bind fun t => (rdN one (x.toNat - 0) t).map fun p => ([] ++ p.1, p.2) := by
  rw [rdL_C, h]
  cases st1 with
  | none => rfl
  | some t => simp
theorem dl_step {r : Option (List α × List Int)} {l : List α} {m i : Nat} {t : List Int} {x : α} {st' : Option (List Int)} (hi : i < m) (h : r = (some t).bind fun t => (rdN one (m - i) t).map fun p => (l ++ p.1, p.2)) (h1 : (some t).bind one = st'.map fun t => (x, t)) :
    r = st'.bind fun t => (rdN one (m - (i + 1)) t).map fun p => ((l ++ [x]) ++ p.1, p.2) := by
  rw [h, Option.bind_some, show m - i = (m - (i + 1)) + 1 by omega, rdN, show one t = _ from h1]
  cases st' with
  | none => rfl
  | some t' => simp [Option.map_map, Function.comp_def]
theorem dl_end {r : Option (List α × List Int)} {l : List α} {m : Nat} {t : List Int} (h : r = (some t).bind fun t => (rdN one (m - m) t).map fun p => (l ++ p.1, p.2)) : r = (some t).map fun t => (l, t) := by
  rw [h, Nat.sub_self]; simp [rdN]
end
/-- What a list's reader leaves. -/
def DLst {α : Type} (ρ : Rdg α) (e sz : Nat) (w0 w : World) (q : Nat) (v : Value) (b : List Int) (r : Option (List α × List Int)) (en : Ending) (w' : World) : Prop :=
  ∃ l u E st', en = .returned u ∧ Lst ρ w.heap.size w' e sz u l E ∧ RSt w0 w' q v b st' ∧ r = st'.map (fun t => (l, t)) ∧ l.length ≤ b.length ∧ w.grownBy w' (some q)
theorem rst_len {w0 w : World} {q : Nat} {v : Value} {b t : List Int} (h : RSt w0 w q v b (some t)) : t.length ≤ b.length := by
  obtain ⟨a, bad, _, _, _, _, e⟩ := h
  cases bad
  · have e := Option.some.inj e
    rw [e, List.length_drop]; omega
  · cases e
theorem rst_own {w0 W w w' : World} {q e sz n : Nat} {v u : Value} {b : List Int} {st : Option (List Int)} {xs : List Value} (h : RSt w0 w q v b st) (ho : w.ownsRow W.heap.size e sz u n xs) (hq : q < W.heap.size) (hg : w.grownBy w' u.ownBlock) : RSt w0 w' q v b st := by
  obtain ⟨a, bad, hc, ha, hx, hq0, e⟩ := h
  refine ⟨a, bad, hc.grown hg (fun e => by have := (ho.lt q e.symm).1; omega), ha, Below.grown hx hg hx.size (fun k hk => by have := (ho.lt k hk).1; omega), hq0, e⟩
theorem rst_ext {w0 w w' : World} {q : Nat} {v : Value} {b : List Int} {st : Option (List Int)} (h : RSt w0 w q v b st) (hx : Ext w w') : RSt w0 w' q v b st := by
  obtain ⟨a, bad, hc, ha, hx0, hq0, e⟩ := h
  exact ⟨a, bad, hc.ext hx, ha, hx0.trans hx, hq0, e⟩
theorem rst_lt {w0 w : World} {q : Nat} {v : Value} {b : List Int} {st : Option (List Int)} (h : RSt w0 w q v b st) : q < w.heap.size := by
  obtain ⟨a, bad, hc, _⟩ := h
  exact World.block_lt_of_cell? w ⟨q, 0, none⟩ hc.c0
theorem cnt_nat {st st1 : Option (List Int)} {x : Int} {b : List Int} {w0 w : World} {q : Nat} {v : Value} (h : st.bind rdC = st1.map fun t => (x, t)) (hz : st1 = none → x = 0) (hr : RSt w0 w q v b st1) : ∃ m : Nat, x = m ∧ m ≤ b.length := by
  cases st1 with
  | none => exact ⟨0, hz rfl, Nat.zero_le _⟩
  | some t =>
    obtain ⟨h1, h2⟩ := rdC_of h
    have := rst_len hr
    exact ⟨x.toNat, by omega, by omega⟩
theorem dlst_bad {α : Type} {ρ : Rdg α} {e sz : Nat} {w0 w wr w' : World} {q : Nat} {v u : Value} {b : List Int} {r : Option (List α × List Int)} {f : List Int → Option (List α × List Int)} {l : List α} {E : Nat → List Value} (hl : Lst ρ w.heap.size wr e sz u l E) (hs : RSt w0 wr q v b none) (hr : r = (none : Option (List Int)).bind f) (hle : l.length ≤ b.length) (hg : w.grownBy wr (some q)) (hx : Ext wr w') : DLst ρ e sz w0 w q v b r (.returned u) w' :=
  ⟨l, u, E, none, rfl, hl.ext hx, rst_ext hs hx, by rw [hr]; rfl, hle, grown_ext hg hx⟩
theorem dlst_end {α : Type} {ρ : Rdg α} {e sz : Nat} {w0 w wr w' : World} {q : Nat} {v u : Value} {b t : List Int} {r : Option (List α × List Int)} {one : List Int → Option (α × List Int)} {m : Nat} {l : List α} {E : Nat → List Value} (hl : Lst ρ w.heap.size wr e sz u l E) (hs : RSt w0 wr q v b (some t)) (hr : r = (some t).bind fun t => (rdN one (m - m) t).map fun p => (l ++ p.1, p.2)) (hle : l.length ≤ b.length) (hg : w.grownBy wr (some q)) (hx : Ext wr w') : DLst ρ e sz w0 w q v b r (.returned u) w' :=
  ⟨l, u, E, some t, rfl, hl.ext hx, rst_ext hs hx, dl_end hr, hle, grown_ext hg hx⟩
end Go.Att
namespace Go.Proofs.YthpgmjdepigihaaDoor
open Go.RowKit Go.Att
set_option maxRecDepth 100000 in
set_option maxHeartbeats 4000000 in
theorem dcount_any {w0 w : World} {q : Nat} {v : Value} {b : List Int} {st : Option (List Int)} (hv : Byts w0 v b) (hb : BytesIn b) (h : RSt w0 w q v b st) :
    Calls Tryd.prog 55 #[.pointer (some ⟨q, 0, none⟩)] w (DNum w0 w q v b (st.bind rdC)) := by
  have C := dnum_any hv hb h
  have hll := Sl.run_len (P := Tryd.prog) hv slByts
  have hlb := Sl.len hv
  unfold maxLen at hlb
  obtain ⟨ao, cap, rfl⟩ := hv.shape
  clear hv hb h
  go_enter Tryd.func55, Tryd.ntmps55
  go_wp2_with fail
  refine C.mono ?_
  rintro e w1 ⟨x, st', rfl, HR, hr, hz, HG⟩
  clear C
  have HGH := Lib.hid HG
  obtain ⟨a, bad, hc, ha, hx, hq, rfl⟩ := HR
  obtain ⟨c0, c1, c2, f0, f1, f2⟩ := hc
  have HC := Lib.hid (C3.mk c0 c1 c2 f0 f1 f2)
  have HX := Lib.hid hx
  have HRR := Lib.hid hr
  clear hx hr f0 f1 HG
  cases bad
  · clear hz
    by_cases hn : x < 0
    · have HN := Lib.hid (rdC_no HRR.out (.inl hn))
      have hd : decide (x < 0) = true := decide_eq_true hn
      go_wp2_with fail
      go_quiet (fail)
      go_wp2_with fail
      go_ret
      exact dnum_none HN.out (rst_bad (HC.out.drewN _) rfl ha (HX.out.trans (Ext.drewN _ _)) hq) (grown_same (grown_ext HGH.out (Ext.drewN _ _)) (setCell_grown _ _ _ _))
    · by_cases hn2 : ((b.drop a).length : Int) < x
      · have HN := Lib.hid (rdC_no HRR.out (.inr hn2))
        have hn3 : (b.length : Int) - a < x := by rw [List.length_drop] at hn2; omega
        have hd : decide (x < 0) = false := decide_eq_false hn
        have hd2 : decide ((b.length : Int) - a < x) = true := decide_eq_true hn3
        clear hn2
        go_wp2_with fail
        go_quiet (fail)
        go_wp2_with fail
        go_ret
        exact dnum_none HN.out (rst_bad (HC.out.drewN _) rfl ha (HX.out.trans (Ext.drewN _ _)) hq) (grown_same (grown_ext HGH.out (Ext.drewN _ _)) (setCell_grown _ _ _ _))
      · have HN := Lib.hid (rdC_yes HRR.out (fun h => h.elim hn hn2))
        have hn3 : ¬ (b.length : Int) - a < x := by rw [List.length_drop] at hn2; omega
        have hd : decide (x < 0) = false := decide_eq_false hn
        have hd2 : decide ((b.length : Int) - a < x) = false := decide_eq_false hn3
        clear hn2
        go_wp2_with fail
        go_quiet (fail)
        go_wp2_with fail
        go_ret
        exact dnum_some HN.out rfl (rst_at (HC.out.drewN _) rfl ha (HX.out.trans (Ext.drewN _ _)) hq) (grown_ext HGH.out (Ext.drewN _ _))
  · obtain rfl : x = 0 := hz rfl
    have HN := Lib.hid (rdC_none (by rw [HRR.out]; rfl))
    clear hz
    have hn3 : ¬ (b.length : Int) - a < 0 := by omega
    have hd2 : decide ((b.length : Int) - a < 0) = false := decide_eq_false hn3
    go_wp2_with fail
    go_quiet (fail)
    go_wp2_with fail
    go_ret
    exact dnum_none HN.out ⟨a, true, HC.out.drewN _, ha, HX.out.trans (Ext.drewN _ _), hq, rfl⟩ (grown_ext HGH.out (Ext.drewN _ _))

set_option maxRecDepth 100000 in
set_option maxHeartbeats 4000000 in
theorem dnums_any {w0 w : World} {q : Nat} {v : Value} {b : List Int} {st : Option (List Int)} (hv : Byts w0 v b) (hb : BytesIn b) (h : RSt w0 w q v b st) (h32 : b.length ≤ 4294967296) :
    Calls Tryd.prog 52 #[.pointer (some ⟨q, 0, none⟩)] w (DLst rgInt 3 1 w0 w q v b (st.bind rdIs)) := by
  have C := dcount_any hv hb h
  have hqw := rst_lt h
  have HV := Lib.hid hv; have HB := Lib.hid hb
  have HRD := Lib.hid (show st.bind rdIs = st.bind (rdL rdI) from rfl)
  clear hv hb h
  go_enter Tryd.func52, Tryd.ntmps52
  go_wp2_with fail
  refine C.mono ?_
  rintro e w1 ⟨x, st1, rfl, HR, hr, hz, HG⟩
  clear C
  obtain ⟨m, rfl, hm⟩ := cnt_nat hr hz HR
  have HS := Lib.hid (dl_start (one := rdI) hr)
  have HR1 := Lib.hid HR
  have HG1 := Lib.hid HG
  clear hr hz HR HG
  go_wp2_with fail
  go_loopw [3, 5] (fun x3 x5 wr => ∃ (i : Nat) (l : List (Int)) (E : Nat → List Value) (st' : Option (List Int)), i ≤ m ∧ x5 = .int .i64 i ∧ Hid (l.length = i) ∧ Hid (RSt w0 wr q v b st') ∧ Hid (Lst rgInt w.heap.size wr 3 1 x3 l E) ∧ Hid (st.bind (rdL rdI) = st'.bind fun t => (rdN rdI (m - i) t).map fun p => (l ++ p.1, p.2)) ∧ Hid (w.grownBy wr (some q))) (fun _ x5 _ => m - (intOf x5).toNat)
  case atStart => exact ⟨0, [], fun _ => [], st1, Nat.zero_le _, rfl, Lib.hid rfl, HR1, Lib.hid (Lst.nil _ _ _ _ (World.ownsRow_nil _ _ _ _)), HS, HG1⟩
  case round =>
    clear HR1 HG1 HS
    obtain ⟨i, l, E, st', hi, rfl, HLN, HRI, HLI, HEQ, HGI⟩ := hrel
    obtain ⟨a, bad, hc, ha, hx, hq, rfl⟩ := HRI.out
    obtain ⟨c0, c1, c2, f0, f1, f2⟩ := hc
    have HX := Lib.hid hx
    clear f0 f1 f2 c0 c1 hx
    cases bad
    rotate_left
    · have hne : i < m ∨ ¬ i < m := by omega
      have hle : l.length ≤ b.length := by rw [HLN.out]; omega
      rcases hne with him | him
      · have hd : decide (i < m) = true := decide_eq_true him
        go_wp2_with fail
        go_ret
        exact dlst_bad HLI.out HRI.out (HRD.out.trans HEQ.out) hle HGI.out (Ext.refl _)
      · have hd : decide (i < m) = false := decide_eq_false him
        go_wp2_with fail
        go_ret
        exact dlst_bad HLI.out HRI.out (HRD.out.trans HEQ.out) hle HGI.out (Ext.refl _)
    · have HRT : Hid (RSt w0 wr q v b (some (b.drop a))) := HRI
      have HET : Hid (st.bind (rdL rdI) = (some (b.drop a)).bind fun t => (rdN rdI (m - i) t).map fun p => (l ++ p.1, p.2)) := HEQ
      have hne : i < m ∨ ¬ i < m := by omega
      rcases hne with him | him
      · have hd : decide (i < m) = true := decide_eq_true him
        go_wp2_with fail
        have C := dnum_any HV.out HB.out HRT.out
        refine C.mono ?_
        rintro e w3 ⟨x', st2, rfl, hr3, hrs, -, hg3⟩
        have HR3 := Lib.hid hr3; have HRS := Lib.hid hrs; have HG3 := Lib.hid hg3
        have HSAT : Hid (rgInt.sat wr.heap.size w3.heap.size w3 x' [.int .i64 x']) := Lib.hid rfl
        clear hr3 hrs hg3 C
        have HLW := Lib.hid (HLI.out.low HG3.out hqw)
        have HO3 := HLW.out.own
        rw [HLN.out] at HO3
        have hsz3 : w.heap.size ≤ w3.heap.size := Nat.le_trans HGI.out.size HG3.out.size
        clear c2
        go_wp2_with (at_builtin; refine wpList_appNw rfl _ _ 22 rfl slIntY rfl hsz3 HO3 rfl #[.int .i64 x'] rfl (by intro u hu; simp at hu; first | (rcases hu with rfl | rfl | rfl <;> rfl) | (subst hu; rfl)) rfl (by omega) (by omega) ?_; intro v4 w4 HO4 HG4 HM4)
        go_roundw
        case rel =>
          have hown : ∀ k, _ → k < wr.heap.size ∨ w3.heap.size ≤ k := fun k hk => .inl (HLI.out.own.lt k hk).2
          refine ⟨i + 1, l ++ [x'], _, st2, by omega, by go_num, Lib.hid (by rw [List.length_append, List.length_singleton, HLN.out]), Lib.hid (rst_own HR3.out HO3 hqw HG4), Lib.hid (HLW.out.push HGI.out.size (Nat.le_refl _) hown HSAT.out (by rw [HLN.out]; exact HO4) HG4 HM4), Lib.hid (dl_step him HET.out HRS.out), Lib.hid (grown_own (grown_same HGI.out HG3.out) HO3 HG4)⟩
        case measure => simp [intOf]; omega
      · obtain rfl : i = m := by omega
        have hd : decide (i < i) = false := decide_eq_false him
        have hle : l.length ≤ b.length := by rw [HLN.out]; omega
        go_wp2_with fail
        go_ret
        exact dlst_end HLI.out HRT.out (HRD.out.trans HET.out) hle HGI.out (Ext.refl _)

set_option maxRecDepth 100000 in
set_option maxHeartbeats 4000000 in
theorem drows_any {w0 w : World} {q : Nat} {v : Value} {b : List Int} {st : Option (List Int)} (hv : Byts w0 v b) (hb : BytesIn b) (h : RSt w0 w q v b st) (h32 : b.length ≤ 4294967296) :
    Calls Tryd.prog 54 #[.pointer (some ⟨q, 0, none⟩)] w (DLst rgInts 22 1 w0 w q v b (st.bind rdRs)) := by
  have C := dcount_any hv hb h
  have hqw := rst_lt h
  have HV := Lib.hid hv; have HB := Lib.hid hb
  have HRD := Lib.hid (show st.bind rdRs = st.bind (rdL rdIs) from rfl)
  clear hv hb h
  go_enter Tryd.func54, Tryd.ntmps54
  go_wp2_with fail
  refine C.mono ?_
  rintro e w1 ⟨x, st1, rfl, HR, hr, hz, HG⟩
  clear C
  obtain ⟨m, rfl, hm⟩ := cnt_nat hr hz HR
  have HS := Lib.hid (dl_start (one := rdIs) hr)
  have HR1 := Lib.hid HR
  have HG1 := Lib.hid HG
  clear hr hz HR HG
  go_wp2_with fail
  go_loopw [3, 5] (fun x3 x5 wr => ∃ (i : Nat) (l : List (List Int)) (E : Nat → List Value) (st' : Option (List Int)), i ≤ m ∧ x5 = .int .i64 i ∧ Hid (l.length = i) ∧ Hid (RSt w0 wr q v b st') ∧ Hid (Lst rgInts w.heap.size wr 22 1 x3 l E) ∧ Hid (st.bind (rdL rdIs) = st'.bind fun t => (rdN rdIs (m - i) t).map fun p => (l ++ p.1, p.2)) ∧ Hid (w.grownBy wr (some q))) (fun _ x5 _ => m - (intOf x5).toNat)
  case atStart => exact ⟨0, [], fun _ => [], st1, Nat.zero_le _, rfl, Lib.hid rfl, HR1, Lib.hid (Lst.nil _ _ _ _ (World.ownsRow_nil _ _ _ _)), HS, HG1⟩
  case round =>
    clear HR1 HG1 HS
    obtain ⟨i, l, E, st', hi, rfl, HLN, HRI, HLI, HEQ, HGI⟩ := hrel
    obtain ⟨a, bad, hc, ha, hx, hq, rfl⟩ := HRI.out
    obtain ⟨c0, c1, c2, f0, f1, f2⟩ := hc
    have HX := Lib.hid hx
    clear f0 f1 f2 c0 c1 hx
    cases bad
    rotate_left
    · have hne : i < m ∨ ¬ i < m := by omega
      have hle : l.length ≤ b.length := by rw [HLN.out]; omega
      rcases hne with him | him
      · have hd : decide (i < m) = true := decide_eq_true him
        go_wp2_with fail
        go_ret
        exact dlst_bad HLI.out HRI.out (HRD.out.trans HEQ.out) hle HGI.out (Ext.refl _)
      · have hd : decide (i < m) = false := decide_eq_false him
        go_wp2_with fail
        go_ret
        exact dlst_bad HLI.out HRI.out (HRD.out.trans HEQ.out) hle HGI.out (Ext.refl _)
    · have HRT : Hid (RSt w0 wr q v b (some (b.drop a))) := HRI
      have HET : Hid (st.bind (rdL rdIs) = (some (b.drop a)).bind fun t => (rdN rdIs (m - i) t).map fun p => (l ++ p.1, p.2)) := HEQ
      have hne : i < m ∨ ¬ i < m := by omega
      rcases hne with him | him
      · have hd : decide (i < m) = true := decide_eq_true him
        go_wp2_with fail
        have C := dnums_any HV.out HB.out HRT.out h32
        refine C.mono ?_
        rintro e w3 ⟨x', u3, E3, st2, rfl, hE3, hr3, hrs, -, hg3⟩
        have HR3 := Lib.hid hr3; have HRS := Lib.hid hrs; have HG3 := Lib.hid hg3
        have hO3 := hE3.ints
        obtain ⟨au, cu, rfl⟩ := own_shape3 hO3
        have HSAT : Hid (rgInts.sat wr.heap.size w3.heap.size w3 x' [.slice au x'.length cu]) := Lib.hid ⟨_, rfl, Ints.of_own hO3, fun k hk => hO3.lt k hk⟩
        clear hr3 hrs hg3 C hO3 hE3
        have HLW := Lib.hid (HLI.out.low HG3.out hqw)
        have HO3 := HLW.out.own
        rw [HLN.out] at HO3
        have hsz3 : w.heap.size ≤ w3.heap.size := Nat.le_trans HGI.out.size HG3.out.size
        clear c2
        go_wp2_with (at_builtin; refine wpList_appNw rfl _ _ 23 rfl slRowY rfl hsz3 HO3 rfl #[.slice au x'.length cu] rfl (by intro u hu; simp at hu; first | (rcases hu with rfl | rfl | rfl <;> rfl) | (subst hu; rfl)) rfl (by omega) (by omega) ?_; intro v4 w4 HO4 HG4 HM4)
        go_roundw
        case rel =>
          have hown : ∀ k, _ → k < wr.heap.size ∨ w3.heap.size ≤ k := fun k hk => .inl (HLI.out.own.lt k hk).2
          refine ⟨i + 1, l ++ [x'], _, st2, by omega, by go_num, Lib.hid (by rw [List.length_append, List.length_singleton, HLN.out]), Lib.hid (rst_own HR3.out HO3 hqw HG4), Lib.hid (HLW.out.push HGI.out.size (Nat.le_refl _) hown HSAT.out (by rw [HLN.out]; exact HO4) HG4 HM4), Lib.hid (dl_step him HET.out HRS.out), Lib.hid (grown_own (grown_same HGI.out HG3.out) HO3 HG4)⟩
        case measure => simp [intOf]; omega
      · obtain rfl : i = m := by omega
        have hd : decide (i < i) = false := decide_eq_false him
        have hle : l.length ≤ b.length := by rw [HLN.out]; omega
        go_wp2_with fail
        go_ret
        exact dlst_end HLI.out HRT.out (HRD.out.trans HET.out) hle HGI.out (Ext.refl _)
end Go.Proofs.YthpgmjdepigihaaDoor
