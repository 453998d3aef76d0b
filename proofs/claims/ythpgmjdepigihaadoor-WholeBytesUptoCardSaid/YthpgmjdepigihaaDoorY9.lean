/- Openings are read: contract. -/
import Derived.Test.YthpgmjdepigihaaDoorY8
namespace Go.Att
open Go.RowKit
theorem opn_shapes {X Y : Nat} {w : World} {o : Opn} {a b c : Value} (h : rgOpn.sat X Y w o [a, b, c]) : ∃ aa ca ab cb ac cc, a = .slice aa o.1.length ca ∧ b = .slice ab o.2.1.length cb ∧ c = .slice ac o.2.2.length cc := by
  obtain ⟨a', b', c', R, S, e, h1, _, h3, _, _, h6, _, _⟩ := h
  obtain ⟨rfl, rfl, rfl⟩ : a' = a ∧ b' = b ∧ c' = c := by simp at e; exact ⟨e.1.symm, e.2.1.symm, e.2.2.symm⟩
  obtain ⟨aa, ca, rfl⟩ := h1.shape
  obtain ⟨ab, cb, rfl, -⟩ := h3.sl
  obtain ⟨ac, cc, rfl, -⟩ := h6.sl
  exact ⟨_, _, _, _, _, _, rfl, rfl, rfl⟩
end Go.Att
namespace Go.Proofs.YthpgmjdepigihaaDoor
open Go.RowKit Go.Att

set_option maxRecDepth 100000 in
set_option maxHeartbeats 4000000 in
theorem ropns_any {w0 w : World} {q : Nat} {t : List Int} (h : Rdr w0 w q t) (hqw : q < w.heap.size) (hb : BytesIn t) (h32 : t.length ≤ 4294967296) :
    Calls Tryd.prog 48 #[.pointer (some ⟨q, 0, none⟩), .func (.func 49) #[.pointer (some ⟨q, 0, none⟩)] #[]] w (RdOut 98 w0 w q (LstGot rgOpn w.heap.size 28 3) (rdL rdO t)) := by
  have H := Lib.hid h; have HB := Lib.hid hb
  have hq0 := h.new
  have HRL := Lib.hid (rdL_eq rdO t)
  clear h hb
  cases hr : rdI t with
  | none =>
    have C := rnum_any H.out HB.out
    rw [hr] at C
    rw [hr] at HRL
    have HN := Lib.hid hr
    clear hr
    go_enter Tryd.func48, Tryd.ntmps48
    go_wp2_with (go_at_call 46; refine C.mono ?_; rintro e w1 ⟨rfl, hx1, hg1⟩)
    exact ⟨rfl, rd_none HRL.out hx1 hg1⟩
  | some p =>
    obtain ⟨n, t1⟩ := p
    obtain ⟨he, hi64⟩ := rdI_back HB.out hr
    have C := rnum_any H.out HB.out
    rw [hr] at C
    rw [hr] at HRL
    have HB1 := Lib.hid (show BytesIn t1 from by have := HB.out; rw [he] at this; exact this.right)
    have hl1 : t1.length ≤ 4294967296 := by rw [he, List.length_append] at h32; omega
    have HRI0 := Lib.hid (show rdL rdO t = if n < 0 ∨ (t1.length : Int) < n then none else rdN rdO n.toNat t1 from HRL.out)
    clear HRL
    clear hr he h32
    unfold I64 at hi64
    go_enter Tryd.func48, Tryd.ntmps48
    by_cases hn0 : n < 0
    · have HN := Lib.hid hn0
      go_wp2_with (go_at_call 46; refine C.mono ?_; rintro e w1 ⟨_, rfl, rfl, HR1, HG1⟩)
      exact ⟨rfl, rd_none (by rw [HRI0.out, if_pos (.inl HN.out)]) HR1.ext HG1⟩
    · by_cases hn1 : (t1.length : Int) < n
      · have HN := Lib.hid hn1
        go_wp2_with (go_at_call 46; refine C.mono ?_; rintro e w1 ⟨_, rfl, rfl, HR1, HG1⟩; obtain ⟨⟨v1, c1, hv1⟩, -, hx1, -⟩ := HR1; have hll := Sl.run_len (P := Tryd.prog) hv1 slByts)
        exact ⟨rfl, rd_none (by rw [HRI0.out, if_pos (.inr HN.out)]) hx1 HG1⟩
      · obtain ⟨m, rfl⟩ := Int.eq_ofNat_of_zero_le (show 0 ≤ n by omega)
        have HRM := Lib.hid (show rdL rdO t = rdN rdO m t1 by rw [HRI0.out, if_neg (by omega), Int.toNat_natCast])
        clear HRI0
        have hm32 : m ≤ 4294967296 := by omega
        go_wp2_with (first | (go_at_call 46; refine C.mono ?_; rintro e w1 ⟨_, rfl, rfl, HR1, HG1⟩; have HRD := Lib.hid HR1; obtain ⟨⟨v1, c1, hv1⟩, -, hx1, -⟩ := HR1; have hll := Sl.run_len (P := Tryd.prog) hv1 slByts) | (refine wpList_mk0 rfl _ _ 24 rfl slOpnY (Ext.refl w1) rfl rfl (by omega) (by omega) (by omega) ?_; intro v2 w2 HO2 HX2 _))
        have HR2 := Lib.hid (rdr_ext HRD.out HX2)
        have HL2 := Lib.hid (Lst.nil (ρ := rgOpn) (E := fun _ => []) w.heap.size w2 28 3 (own_lower HO2 HG1.size))
        have HG2 := Lib.hid (grown_ext HG1 HX2)
        clear hll c1 hv1 hx1 HO2 HX2 HG1 HRD hn0 hn1 hi64 C
        go_loopw [6, 25] (fun x6 x25 wr => ∃ (i : Nat) (l : List (Opn)) (ti : List Int) (E : Nat → List Value), i ≤ m ∧ x25 = .int .i64 i ∧ Hid (l.length = i) ∧ Hid (rdN rdO m t1 = (rdN rdO (m - i) ti).map fun p => (l ++ p.1, p.2)) ∧ Hid (BytesIn ti) ∧ ti.length ≤ 4294967296 ∧ Hid (Rdr w0 wr q ti) ∧ Hid (Lst rgOpn w.heap.size wr 28 3 x6 l E) ∧ Hid (w.grownBy wr (some q))) (fun _ x25 _ => m - (intOf x25).toNat)
        case atStart => exact ⟨0, [], t1, _, Nat.zero_le _, rfl, Lib.hid rfl, Lib.hid (by simp), HB1, hl1, HR2, HL2, HG2⟩
        case round =>
          clear HR2 HL2 HG2 HB1 hl1
          obtain ⟨i, l, ti, E, hi, rfl, HLN, HRN, HBI, hti, HRI, HLI, HGI⟩ := hrel
          by_cases him : i < m
          · have hqr : q < wr.heap.size := Nat.lt_of_lt_of_le hqw HGI.out.size
            cases hr : rdO ti with
            | none =>
              have C := ropn_any HRI.out hqr HBI.out hti
              rw [hr] at C
              have HE := Lib.hid (show rdN rdO (m - i) ti = none by rw [show m - i = (m - (i + 1)) + 1 by omega, rdN, hr]; rfl)
              clear hr
              go_wp2_with (go_at_call 49; refine C.mono ?_; rintro e w3 ⟨rfl, hx3, hg3⟩)
              exact ⟨rfl, rd_none (by rw [HRM.out, HRN.out, HE.out]; rfl) hx3 (grown_same HGI.out hg3)⟩
            | some p =>
              obtain ⟨x, t2⟩ := p
              have C := ropn_any HRI.out hqr HBI.out hti
              rw [hr] at C
              have HE := Lib.hid (show rdN rdO (m - i) ti = (rdN rdO (m - (i + 1)) t2).map fun p => (x :: p.1, p.2) by rw [show m - i = (m - (i + 1)) + 1 by omega, rdN, hr]; rfl)
              have hbk := rdO_back _ _ _ HBI.out hr
              have HB2 := Lib.hid (show BytesIn t2 from by have := HBI.out; rw [hbk.1] at this; exact this.right)
              have ht2 : t2.length ≤ 4294967296 := by have := congrArg List.length hbk.1; rw [List.length_append] at this; omega
              clear hr hbk
              go_wp2_with (first | (go_at_call 49; refine C.mono ?_; rintro e w3 ⟨u3, rfl, ⟨xa, xb, xc, rfl, hsat⟩, HR3, HG3⟩; obtain ⟨aa, ca, ab, cb, ac, cc, rfl, rfl, rfl⟩ := opn_shapes hsat; have HSAT := Lib.hid hsat; clear hsat; have HLW := Lib.hid (HLI.out.low HG3 hqw); have HO3 := HLW.out.own; rw [HLN.out] at HO3; have hsz3 : w.heap.size ≤ w3.heap.size := Nat.le_trans HGI.out.size HG3.size) | (at_builtin; refine wpList_appNw rfl _ _ 24 rfl slOpnY rfl hsz3 HO3 rfl #[.slice aa x.1.length ca, .slice ab x.2.1.length cb, .slice ac x.2.2.length cc] rfl (by intro u hu; simp at hu; first | (rcases hu with rfl | rfl | rfl <;> rfl) | (subst hu; rfl)) rfl (by omega) (by omega) ?_; intro v4 w4 HO4 HG4 HM4))
              go_roundw
              case rel =>
                have hown : ∀ k, _ → k < wr.heap.size ∨ w3.heap.size ≤ k := fun k hk => .inl (HLI.out.own.lt k hk).2
                refine ⟨i + 1, l ++ [x], t2, _, by omega, by go_num, Lib.hid (by rw [List.length_append, List.length_singleton, HLN.out]), Lib.hid (by rw [HRN.out, HE.out, Option.map_map]; congr 1; funext p; simp), HB2, ht2, Lib.hid (rdr_own HR3 HO3 hqw HG4), Lib.hid (HLW.out.push HGI.out.size (Nat.le_refl _) hown HSAT.out (by rw [HLN.out]; exact HO4) HG4 HM4), Lib.hid (grown_own (grown_same HGI.out HG3) HO3 HG4)⟩
              case measure => simp [intOf]; omega
          · obtain rfl : i = m := by omega
            go_wp2_with fail
            go_ret
            exact rd_some (by rw [HRM.out, HRN.out, Nat.sub_self, rdN]; simp) ⟨_, HLI.out⟩ HRI.out HGI.out
end Go.Proofs.YthpgmjdepigihaaDoor
