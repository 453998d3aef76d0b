/- Lists are read: contracts. -/
import Derived.Test.YthpgmjdepigihaaDoorY6
import Derived.Test.YthpgmjdepigihaaDoorLs
namespace Go.Att
open Go.RowKit
def LstGot {α : Type} (ρ : Rdg α) (B e sz : Nat) (l : List α) (u : Value) (w : World) : Prop := ∃ E, Lst ρ B w e sz u l E
theorem rdL_eq {α : Type} (one : List Int → Option (α × List Int)) (t : List Int) : rdL one t = match rdI t with
    | none => none
    | some q => if q.1 < 0 ∨ (q.2.length : Int) < q.1 then none else rdN one q.1.toNat q.2 := by
  unfold rdL; cases rdI t <;> rfl
theorem rdr_ext {w0 w w' : World} {q : Nat} {t : List Int} (h : Rdr w0 w q t) (hx : Ext w w') : Rdr w0 w' q t := by
  obtain ⟨⟨v, c, hv⟩, f, h3, h4⟩ := h
  exact ⟨⟨v, hx.cell c, hv⟩, by rw [World.frozen?_of_block (hx.below.block q (World.block_lt_of_cell? w ⟨q, 0, none⟩ c))]; exact f, h3.trans hx, h4⟩
theorem rdr_own {w0 W w w' : World} {q e sz n : Nat} {t : List Int} {v : Value} {xs : List Value} (h : Rdr w0 w q t) (ho : w.ownsRow W.heap.size e sz v n xs) (hq : q < W.heap.size) (hg : w.grownBy w' v.ownBlock) : Rdr w0 w' q t := by
  obtain ⟨⟨u, c, hv⟩, f, h3, h4⟩ := h
  have hlt := World.block_lt_of_cell? w ⟨q, 0, none⟩ c
  have hb := hg.block q hlt (fun hc => by have := (ho.lt q hc.symm).1; omega)
  exact ⟨⟨u, by rw [World.cell?_of_block (a := ⟨q, 0, none⟩) hb]; exact c, hv⟩, by rw [World.frozen?_of_block (a := ⟨q, 0, none⟩) hb]; exact f, Below.grown h3 hg h3.size (fun k hk => by have := (ho.lt k hk).1; omega), h4⟩
end Go.Att
namespace Go.Proofs.YthpgmjdepigihaaDoor
open Go.RowKit Go.Att

set_option maxRecDepth 100000 in
set_option maxHeartbeats 4000000 in
theorem rints_any {w0 w : World} {q : Nat} {t : List Int} (h : Rdr w0 w q t) (hqw : q < w.heap.size) (hb : BytesIn t) (h32 : t.length ≤ 4294967296) :
    Calls Tryd.prog 91 #[.pointer (some ⟨q, 0, none⟩), .func (.func 46) #[.pointer (some ⟨q, 0, none⟩)] #[]] w (RdOut 98 w0 w q (LstGot rgInt w.heap.size 3 1) (rdL rdI t)) := by
  have H := Lib.hid h; have HB := Lib.hid hb
  have hq0 := h.new
  have HRL := Lib.hid (rdL_eq rdI t)
  clear h hb
  cases hr : rdI t with
  | none =>
    have C := rnum_any H.out HB.out
    rw [hr] at C
    rw [hr] at HRL
    have HN := Lib.hid hr
    clear hr
    go_enter Tryd.func91, Tryd.ntmps91
    go_wp2_with (go_at_call 46; refine C.mono ?_; rintro e w1 ⟨rfl, hx1, hg1⟩)
    exact ⟨rfl, rd_none HRL.out hx1 hg1⟩
  | some p =>
    obtain ⟨n, t1⟩ := p
    obtain ⟨he, hi64⟩ := rdI_back HB.out hr
    have C := rnum_any H.out HB.out
    rw [hr] at C
    rw [hr] at HRL
    have HB1 := Lib.hid (show BytesIn t1 from by have := HB.out; rw [he] at this; exact this.right)
    have hl1 : t1.length ≤ 4294967296 := by rw [he, List.length_append] at h32; omega
    have HRI0 := Lib.hid (show rdL rdI t = if n < 0 ∨ (t1.length : Int) < n then none else rdN rdI n.toNat t1 from HRL.out)
    clear HRL
    clear hr he h32
    unfold I64 at hi64
    go_enter Tryd.func91, Tryd.ntmps91
    by_cases hn0 : n < 0
    · have HN := Lib.hid hn0
      go_wp2_with (go_at_call 46; refine C.mono ?_; rintro e w1 ⟨_, rfl, rfl, HR1, HG1⟩)
      exact ⟨rfl, rd_none (by rw [HRI0.out, if_pos (.inl HN.out)]) HR1.ext HG1⟩
    · by_cases hn1 : (t1.length : Int) < n
      · have HN := Lib.hid hn1
        go_wp2_with (go_at_call 46; refine C.mono ?_; rintro e w1 ⟨_, rfl, rfl, HR1, HG1⟩; obtain ⟨⟨v1, c1, hv1⟩, -, hx1, -⟩ := HR1; have hll := Sl.run_len (P := Tryd.prog) hv1 slByts)
        exact ⟨rfl, rd_none (by rw [HRI0.out, if_pos (.inr HN.out)]) hx1 HG1⟩
      · obtain ⟨m, rfl⟩ := Int.eq_ofNat_of_zero_le (show 0 ≤ n by omega)
        have HRM := Lib.hid (show rdL rdI t = rdN rdI m t1 by rw [HRI0.out, if_neg (by omega), Int.toNat_natCast])
        clear HRI0
        have hm32 : m ≤ 4294967296 := by omega
        go_wp2_with (first | (go_at_call 46; refine C.mono ?_; rintro e w1 ⟨_, rfl, rfl, HR1, HG1⟩; have HRD := Lib.hid HR1; obtain ⟨⟨v1, c1, hv1⟩, -, hx1, -⟩ := HR1; have hll := Sl.run_len (P := Tryd.prog) hv1 slByts) | (refine wpList_mk0 rfl _ _ 22 rfl slIntY (Ext.refl w1) rfl rfl (by omega) (by omega) (by omega) ?_; intro v2 w2 HO2 HX2 _))
        have HR2 := Lib.hid (rdr_ext HRD.out HX2)
        have HL2 := Lib.hid (Lst.nil (ρ := rgInt) (E := fun _ => []) w.heap.size w2 3 1 (own_lower HO2 HG1.size))
        have HG2 := Lib.hid (grown_ext HG1 HX2)
        clear hll c1 hv1 hx1 HO2 HX2 HG1 HRD hn0 hn1 hi64 C
        go_loopw [6, 25] (fun x6 x25 wr => ∃ (i : Nat) (l : List (Int)) (ti : List Int) (E : Nat → List Value), i ≤ m ∧ x25 = .int .i64 i ∧ Hid (l.length = i) ∧ Hid (rdN rdI m t1 = (rdN rdI (m - i) ti).map fun p => (l ++ p.1, p.2)) ∧ Hid (BytesIn ti) ∧ ti.length ≤ 4294967296 ∧ Hid (Rdr w0 wr q ti) ∧ Hid (Lst rgInt w.heap.size wr 3 1 x6 l E) ∧ Hid (w.grownBy wr (some q))) (fun _ x25 _ => m - (intOf x25).toNat)
        case atStart => exact ⟨0, [], t1, _, Nat.zero_le _, rfl, Lib.hid rfl, Lib.hid (by simp), HB1, hl1, HR2, HL2, HG2⟩
        case round =>
          clear HR2 HL2 HG2 HB1 hl1
          obtain ⟨i, l, ti, E, hi, rfl, HLN, HRN, HBI, hti, HRI, HLI, HGI⟩ := hrel
          by_cases him : i < m
          · have hqr : q < wr.heap.size := Nat.lt_of_lt_of_le hqw HGI.out.size
            cases hr : rdI ti with
            | none =>
              have C := rnum_any HRI.out HBI.out
              rw [hr] at C
              have HE := Lib.hid (show rdN rdI (m - i) ti = none by rw [show m - i = (m - (i + 1)) + 1 by omega, rdN, hr]; rfl)
              clear hr
              go_wp2_with (go_at_call 46; refine C.mono ?_; rintro e w3 ⟨rfl, hx3, hg3⟩)
              exact ⟨rfl, rd_none (by rw [HRM.out, HRN.out, HE.out]; rfl) hx3 (grown_same HGI.out hg3)⟩
            | some p =>
              obtain ⟨x, t2⟩ := p
              have C := rnum_any HRI.out HBI.out
              rw [hr] at C
              have HE := Lib.hid (show rdN rdI (m - i) ti = (rdN rdI (m - (i + 1)) t2).map fun p => (x :: p.1, p.2) by rw [show m - i = (m - (i + 1)) + 1 by omega, rdN, hr]; rfl)
              have hbk := rdI_back HBI.out hr
              have HB2 := Lib.hid (show BytesIn t2 from by have := HBI.out; rw [hbk.1] at this; exact this.right)
              have ht2 : t2.length ≤ 4294967296 := by have := congrArg List.length hbk.1; rw [List.length_append] at this; omega
              clear hr hbk
              go_wp2_with (first | (go_at_call 46; refine C.mono ?_; rintro e w3 ⟨_, rfl, rfl, HR3, HG3⟩; have HSAT : Hid (rgInt.sat wr.heap.size w3.heap.size w3 x [.int .i64 x]) := Lib.hid rfl; have HLW := Lib.hid (HLI.out.low HG3 hqw); have HO3 := HLW.out.own; rw [HLN.out] at HO3; have hsz3 : w.heap.size ≤ w3.heap.size := Nat.le_trans HGI.out.size HG3.size) | (at_builtin; refine wpList_appNw rfl _ _ 22 rfl slIntY rfl hsz3 HO3 rfl #[.int .i64 x] rfl (by intro u hu; simp at hu; first | (rcases hu with rfl | rfl | rfl <;> rfl) | (subst hu; rfl)) rfl (by omega) (by omega) ?_; intro v4 w4 HO4 HG4 HM4))
              go_roundw
              case rel =>
                have hown : ∀ k, _ → k < wr.heap.size ∨ w3.heap.size ≤ k := fun k hk => .inl (HLI.out.own.lt k hk).2
                refine ⟨i + 1, l ++ [x], t2, _, by omega, by go_num, Lib.hid (by rw [List.length_append, List.length_singleton, HLN.out]), Lib.hid (by rw [HRN.out, HE.out, Option.map_map]; congr 1; funext p; simp), HB2, ht2, Lib.hid (rdr_own HR3 HO3 hqw HG4), Lib.hid (HLW.out.push HGI.out.size (Nat.le_refl _) hown HSAT.out (by rw [HLN.out]; exact HO4) HG4 HM4), Lib.hid (grown_own (grown_same HGI.out HG3) HO3 HG4)⟩
              case measure => simp [intOf]; omega
          · obtain rfl : i = m := by omega
            go_wp2_with fail
            go_ret
            exact rd_some (by rw [HRM.out, HRN.out, Nat.sub_self, rdN]; simp) ⟨_, HLI.out⟩ HRI.out HGI.out

set_option maxRecDepth 100000 in
set_option maxHeartbeats 1000000 in
theorem rnums_any {w0 w : World} {q : Nat} {t : List Int} (h : Rdr w0 w q t) (hqw : q < w.heap.size) (hb : BytesIn t) (h32 : t.length ≤ 4294967296) :
    Calls Tryd.prog 45 #[.pointer (some ⟨q, 0, none⟩)] w (RdOut 98 w0 w q (LstGot rgInt w.heap.size 3 1) (rdIs t)) := by
  have hmf : ∀ (fn : Fn) (first cap : Array Value) (w : World), (Instr.makeFunc fn first cap).run Tryd.prog w = .ok (.func fn first cap) w := fun _ _ _ _ => rfl
  have C := rints_any h hqw hb h32
  unfold rdIs
  clear h hb
  cases hr : rdL rdI t with
  | none =>
    rw [hr] at C
    clear hr
    go_enter Tryd.func45, Tryd.ntmps45
    go_wp2_with (go_at_call 91; refine C.mono ?_; rintro e w3 ⟨rfl, hx3, hg3⟩)
    exact ⟨rfl, rd_none rfl hx3 hg3⟩
  | some p =>
    obtain ⟨x, t2⟩ := p
    rw [hr] at C
    clear hr
    go_enter Tryd.func45, Tryd.ntmps45
    go_wp2_with (go_at_call 91; refine C.mono ?_; rintro e w3 ⟨u, rfl, hm, HR3, HG3⟩)
    go_ret
    exact rd_some rfl hm HR3 HG3

set_option maxRecDepth 100000 in
set_option maxHeartbeats 4000000 in
theorem rrows_any {w0 w : World} {q : Nat} {t : List Int} (h : Rdr w0 w q t) (hqw : q < w.heap.size) (hb : BytesIn t) (h32 : t.length ≤ 4294967296) :
    Calls Tryd.prog 92 #[.pointer (some ⟨q, 0, none⟩), .func (.func 45) #[.pointer (some ⟨q, 0, none⟩)] #[]] w (RdOut 98 w0 w q (LstGot rgInts w.heap.size 22 1) (rdL rdIs t)) := by
  have H := Lib.hid h; have HB := Lib.hid hb
  have hq0 := h.new
  have HRL := Lib.hid (rdL_eq rdIs t)
  clear h hb
  cases hr : rdI t with
  | none =>
    have C := rnum_any H.out HB.out
    rw [hr] at C
    rw [hr] at HRL
    have HN := Lib.hid hr
    clear hr
    go_enter Tryd.func92, Tryd.ntmps92
    go_wp2_with (go_at_call 46; refine C.mono ?_; rintro e w1 ⟨rfl, hx1, hg1⟩)
    exact ⟨rfl, rd_none HRL.out hx1 hg1⟩
  | some p =>
    obtain ⟨n, t1⟩ := p
    obtain ⟨he, hi64⟩ := rdI_back HB.out hr
    have C := rnum_any H.out HB.out
    rw [hr] at C
    rw [hr] at HRL
    have HB1 := Lib.hid (show BytesIn t1 from by have := HB.out; rw [he] at this; exact this.right)
    have hl1 : t1.length ≤ 4294967296 := by rw [he, List.length_append] at h32; omega
    have HRI0 := Lib.hid (show rdL rdIs t = if n < 0 ∨ (t1.length : Int) < n then none else rdN rdIs n.toNat t1 from HRL.out)
    clear HRL
    clear hr he h32
    unfold I64 at hi64
    go_enter Tryd.func92, Tryd.ntmps92
    by_cases hn0 : n < 0
    · have HN := Lib.hid hn0
      go_wp2_with (go_at_call 46; refine C.mono ?_; rintro e w1 ⟨_, rfl, rfl, HR1, HG1⟩)
      exact ⟨rfl, rd_none (by rw [HRI0.out, if_pos (.inl HN.out)]) HR1.ext HG1⟩
    · by_cases hn1 : (t1.length : Int) < n
      · have HN := Lib.hid hn1
        go_wp2_with (go_at_call 46; refine C.mono ?_; rintro e w1 ⟨_, rfl, rfl, HR1, HG1⟩; obtain ⟨⟨v1, c1, hv1⟩, -, hx1, -⟩ := HR1; have hll := Sl.run_len (P := Tryd.prog) hv1 slByts)
        exact ⟨rfl, rd_none (by rw [HRI0.out, if_pos (.inr HN.out)]) hx1 HG1⟩
      · obtain ⟨m, rfl⟩ := Int.eq_ofNat_of_zero_le (show 0 ≤ n by omega)
        have HRM := Lib.hid (show rdL rdIs t = rdN rdIs m t1 by rw [HRI0.out, if_neg (by omega), Int.toNat_natCast])
        clear HRI0
        have hm32 : m ≤ 4294967296 := by omega
        go_wp2_with (first | (go_at_call 46; refine C.mono ?_; rintro e w1 ⟨_, rfl, rfl, HR1, HG1⟩; have HRD := Lib.hid HR1; obtain ⟨⟨v1, c1, hv1⟩, -, hx1, -⟩ := HR1; have hll := Sl.run_len (P := Tryd.prog) hv1 slByts) | (refine wpList_mk0 rfl _ _ 23 rfl slRowY (Ext.refl w1) rfl rfl (by omega) (by omega) (by omega) ?_; intro v2 w2 HO2 HX2 _))
        have HR2 := Lib.hid (rdr_ext HRD.out HX2)
        have HL2 := Lib.hid (Lst.nil (ρ := rgInts) (E := fun _ => []) w.heap.size w2 22 1 (own_lower HO2 HG1.size))
        have HG2 := Lib.hid (grown_ext HG1 HX2)
        clear hll c1 hv1 hx1 HO2 HX2 HG1 HRD hn0 hn1 hi64 C
        go_loopw [6, 25] (fun x6 x25 wr => ∃ (i : Nat) (l : List (List Int)) (ti : List Int) (E : Nat → List Value), i ≤ m ∧ x25 = .int .i64 i ∧ Hid (l.length = i) ∧ Hid (rdN rdIs m t1 = (rdN rdIs (m - i) ti).map fun p => (l ++ p.1, p.2)) ∧ Hid (BytesIn ti) ∧ ti.length ≤ 4294967296 ∧ Hid (Rdr w0 wr q ti) ∧ Hid (Lst rgInts w.heap.size wr 22 1 x6 l E) ∧ Hid (w.grownBy wr (some q))) (fun _ x25 _ => m - (intOf x25).toNat)
        case atStart => exact ⟨0, [], t1, _, Nat.zero_le _, rfl, Lib.hid rfl, Lib.hid (by simp), HB1, hl1, HR2, HL2, HG2⟩
        case round =>
          clear HR2 HL2 HG2 HB1 hl1
          obtain ⟨i, l, ti, E, hi, rfl, HLN, HRN, HBI, hti, HRI, HLI, HGI⟩ := hrel
          by_cases him : i < m
          · have hqr : q < wr.heap.size := Nat.lt_of_lt_of_le hqw HGI.out.size
            cases hr : rdIs ti with
            | none =>
              have C := rnums_any HRI.out hqr HBI.out hti
              rw [hr] at C
              have HE := Lib.hid (show rdN rdIs (m - i) ti = none by rw [show m - i = (m - (i + 1)) + 1 by omega, rdN, hr]; rfl)
              clear hr
              go_wp2_with (go_at_call 45; refine C.mono ?_; rintro e w3 ⟨rfl, hx3, hg3⟩)
              exact ⟨rfl, rd_none (by rw [HRM.out, HRN.out, HE.out]; rfl) hx3 (grown_same HGI.out hg3)⟩
            | some p =>
              obtain ⟨x, t2⟩ := p
              have C := rnums_any HRI.out hqr HBI.out hti
              rw [hr] at C
              have HE := Lib.hid (show rdN rdIs (m - i) ti = (rdN rdIs (m - (i + 1)) t2).map fun p => (x :: p.1, p.2) by rw [show m - i = (m - (i + 1)) + 1 by omega, rdN, hr]; rfl)
              have hbk := rdIs_back _ _ _ HBI.out hr
              have HB2 := Lib.hid (show BytesIn t2 from by have := HBI.out; rw [hbk.1] at this; exact this.right)
              have ht2 : t2.length ≤ 4294967296 := by have := congrArg List.length hbk.1; rw [List.length_append] at this; omega
              clear hr hbk
              go_wp2_with (first | (go_at_call 45; refine C.mono ?_; rintro e w3 ⟨u3, rfl, ⟨E3, hE3⟩, HR3, HG3⟩; have hO3 := hE3.ints; obtain ⟨au, cu, rfl⟩ := own_shape3 hO3; have HSAT : Hid (rgInts.sat wr.heap.size w3.heap.size w3 x [.slice au x.length cu]) := Lib.hid ⟨_, rfl, Ints.of_own hO3, fun k hk => hO3.lt k hk⟩; clear hO3 hE3; have HLW := Lib.hid (HLI.out.low HG3 hqw); have HO3 := HLW.out.own; rw [HLN.out] at HO3; have hsz3 : w.heap.size ≤ w3.heap.size := Nat.le_trans HGI.out.size HG3.size) | (at_builtin; refine wpList_appNw rfl _ _ 23 rfl slRowY rfl hsz3 HO3 rfl #[.slice au x.length cu] rfl (by intro u hu; simp at hu; first | (rcases hu with rfl | rfl | rfl <;> rfl) | (subst hu; rfl)) rfl (by omega) (by omega) ?_; intro v4 w4 HO4 HG4 HM4))
              go_roundw
              case rel =>
                have hown : ∀ k, _ → k < wr.heap.size ∨ w3.heap.size ≤ k := fun k hk => .inl (HLI.out.own.lt k hk).2
                refine ⟨i + 1, l ++ [x], t2, _, by omega, by go_num, Lib.hid (by rw [List.length_append, List.length_singleton, HLN.out]), Lib.hid (by rw [HRN.out, HE.out, Option.map_map]; congr 1; funext p; simp), HB2, ht2, Lib.hid (rdr_own HR3 HO3 hqw HG4), Lib.hid (HLW.out.push HGI.out.size (Nat.le_refl _) hown HSAT.out (by rw [HLN.out]; exact HO4) HG4 HM4), Lib.hid (grown_own (grown_same HGI.out HG3) HO3 HG4)⟩
              case measure => simp [intOf]; omega
          · obtain rfl : i = m := by omega
            go_wp2_with fail
            go_ret
            exact rd_some (by rw [HRM.out, HRN.out, Nat.sub_self, rdN]; simp) ⟨_, HLI.out⟩ HRI.out HGI.out

set_option maxRecDepth 100000 in
set_option maxHeartbeats 1000000 in
theorem rlists_any {w0 w : World} {q : Nat} {t : List Int} (h : Rdr w0 w q t) (hqw : q < w.heap.size) (hb : BytesIn t) (h32 : t.length ≤ 4294967296) :
    Calls Tryd.prog 47 #[.pointer (some ⟨q, 0, none⟩)] w (RdOut 98 w0 w q (LstGot rgInts w.heap.size 22 1) (rdRs t)) := by
  have hmf : ∀ (fn : Fn) (first cap : Array Value) (w : World), (Instr.makeFunc fn first cap).run Tryd.prog w = .ok (.func fn first cap) w := fun _ _ _ _ => rfl
  have C := rrows_any h hqw hb h32
  unfold rdRs
  clear h hb
  cases hr : rdL rdIs t with
  | none =>
    rw [hr] at C
    clear hr
    go_enter Tryd.func47, Tryd.ntmps47
    go_wp2_with (go_at_call 92; refine C.mono ?_; rintro e w3 ⟨rfl, hx3, hg3⟩)
    exact ⟨rfl, rd_none rfl hx3 hg3⟩
  | some p =>
    obtain ⟨x, t2⟩ := p
    rw [hr] at C
    clear hr
    go_enter Tryd.func47, Tryd.ntmps47
    go_wp2_with (go_at_call 92; refine C.mono ?_; rintro e w3 ⟨u, rfl, hm, HR3, HG3⟩)
    go_ret
    exact rd_some rfl hm HR3 HG3
end Go.Proofs.YthpgmjdepigihaaDoor
