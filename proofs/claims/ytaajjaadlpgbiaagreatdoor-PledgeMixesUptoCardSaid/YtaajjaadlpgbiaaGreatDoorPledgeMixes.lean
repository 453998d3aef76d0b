/- PledgeMixes: sums of any rows; the root of any table: the law's walk: for every input it returns true and leaves all that was there as it was. -/
import Derived.Test.YtaajjaadlpgbiaaGreatDoorJb
import Derived.Test.YtaajjaadlpgbiaaGreatDoorJc
import Derived.Test.YtaajjaadlpgbiaaGreatDoorJm
import Derived.Test.YtaajjaadlpgbiaaGreatDoorZx9
import Derived.Test.YtaajjaadlpgbiaaGreatDoorZx20
import Derived.Test.YtaajjaadlpgbiaaGreatDoorZx2
namespace Go.Att
open Go.RowKit
theorem twoB_pow {n : Int} (h : twoB n = true) : ∃ K : Nat, K ≤ 16 ∧ n = (2 : Int) ^ K := by
  simp only [twoB, twoUp, List.any_eq_true, List.mem_range, beq_iff_eq] at h
  obtain ⟨k, h1, h2⟩ := h
  exact ⟨k, by omega, h2.symm⟩
/-- Whether rows are of unlike length, of the first i. -/
def bdU (rows : List (List Int)) (i : Nat) : Bool := rows.length == 0 || (rows.take i).any (uneq rows)
theorem bdU_one (rows : List (List Int)) : bdU rows 1 = (rows.length == 0) := by
  unfold bdU
  cases rows with
  | nil => rfl
  | cons a l => simp [uneq, nthL]
theorem bdU_step (rows : List (List Int)) {i : Nat} (h : i < rows.length) : bdU rows (i + 1) = (bdU rows i || (((nthL rows i).length : Int) != ((nthL rows 0).length : Int))) := by
  unfold bdU
  rw [List.take_succ_eq_append_getElem h, List.any_append, nthL_eq h, Bool.or_assoc]
  simp [uneq]
theorem bdU_end (rows : List (List Int)) {i : Nat} (h : rows.length ≤ i) : bdU rows i = rowsBad rows := by
  unfold bdU rowsBad
  rw [List.take_of_length_le h]
end Go.Att
namespace Go.Proofs.YtaajjaadlpgbiaaGreatDoor
open Go.RowKit Go.Att
set_option maxRecDepth 100000 in
set_option maxHeartbeats 4000000 in
theorem pledgeMixes_bad (p n sh r : Int) (vr vt : Value) (w : World) (h : ¬ okT p n sh) (hg : Hnd w) :
    Calls Tryz.prog 3 #[.int .i64 p, .int .i64 n, .int .i64 sh, vr, .int .i64 r, vt] w fun e w' => e = .returned (.bool true) ∧ Ext w w' := by
  have H := Lib.hid h; have HG := Lib.hid hg; clear h hg
  go_enter Tryz.func3, Tryz.ntmps3
  go_wp2_with (go_at_call 6; refine (things_bad _ _ _ _ H.out HG.out).mono ?_; rintro e w' ⟨v, rfl, hx, rfl⟩)
  go_ret
  exact ⟨rfl, hx⟩
theorem pw_le {p : Int} {k : Nat} (h : IsPw p k) (h23 : 23 ≤ p) (hp2 : p ≤ 2147483647) : (k : Int) ≤ 9223372036854775807 := by
  apply Classical.byContradiction
  intro hc
  exact h.2.2 (p - 2).toNat (by omega) (by omega) (gcd_last h23)
theorem mix_no {w : World} {bf : Nat} {p g : Int} {fs : List Int} (hf : Fld w (.pointer (some ⟨bf, 0, none⟩)) p g fs) {vr : Value} {rows : List (List Int)} (hr : Rws w vr rows) (r : Int) (hb : (nthL rows 0).length ≤ 4294967290) (h : rowsBad rows = true) :
    Calls Tryz.prog 8 #[.pointer (some ⟨bf, 0, none⟩), vr, .int .i64 r] w (Gives w fun u _ => u = .tuple #[.slice none 0 0, errv 2]) := by
  refine (pmix_any hf vr rows hr r hb).mono ?_
  rintro e w' ⟨u, rfl, hx, h2⟩
  rcases h2 with ⟨-, rfl⟩ | ⟨h3, -⟩
  · exact .mk _ rfl hx rfl
  · rw [h] at h3; cases h3
theorem mix_ok {w : World} {bf : Nat} {p g : Int} {fs : List Int} (hf : Fld w (.pointer (some ⟨bf, 0, none⟩)) p g fs) {vr : Value} {rows : List (List Int)} (hr : Rws w vr rows) (r : Int) (hb : (nthL rows 0).length ≤ 4294967290) (h : rowsBad rows = false) :
    Calls Tryz.prog 8 #[.pointer (some ⟨bf, 0, none⟩), vr, .int .i64 r] w (Gives w fun u w' => ∃ v, u = .tuple #[v, .nilIface] ∧ Ints w' v (mxU p (fun i => fpow p r i) rows (nthL rows 0).length rows.length)) := by
  refine (pmix_any hf vr rows hr r hb).mono ?_
  rintro e w' ⟨u, rfl, hx, h2⟩
  rcases h2 with ⟨h3, -⟩ | ⟨-, h3⟩
  · rw [h] at h3; cases h3
  · exact .mk _ rfl hx h3
set_option maxRecDepth 100000 in
set_option maxHeartbeats 8000000 in
theorem pledgeMixes_no (p n sh r : Int) (vr vt : Value) (rows : List (List Int)) (l : List Int) (w : World) (h : okT p n sh) (hg : Hnd w) (hr : Rws w vr rows) (hl : Ints w vt l) (hrl : rows.length ≤ 4294967290) (hrb : (nthL rows 0).length ≤ 4294967290) (hB : rowsBad rows = true) :
    Calls Tryz.prog 3 #[.int .i64 p, .int .i64 n, .int .i64 sh, vr, .int .i64 r, vt] w fun e w' => e = .returned (.bool true) ∧ Ext w w' := by
  have H := Lib.hid h; have HG := Lib.hid hg; have HL := Lib.hid hl; have HRW := Lib.hid hr; have HBB := Lib.hid hB
  have hp2 : p ≤ 2147483647 := h.1.2.2
  have h23 : 23 ≤ p := h.2.1
  obtain ⟨htw, hdv, -⟩ := domErr_ok h.2.2
  obtain ⟨K, hK, hnK⟩ := twoB_pow htw
  have hn12 := twoB_bd htw
  have hsh : 0 ≤ fof p sh ∧ fof p sh < p := ⟨Int.emod_nonneg _ (by omega), Int.emod_lt_of_pos _ (by omega)⟩
  have HDV := Lib.hid hdv; have HNK := Lib.hid hnK; have HSH := Lib.hid hsh; have HK := Lib.hid hK
  obtain ⟨R, hr⟩ := hr
  have hlr := hr.run_len (P := Tryz.prog) slRows
  have HR := Lib.hid hr
  have HDE := Lib.hid h.2.2
  clear h hg hr hl hB htw hdv hnK hK
  go_enter Tryz.func3, Tryz.ntmps3
  go_upto_region 7 with (first | (go_at_call 6; refine (things_ok _ _ _ _ H.out HG.out).mono ?_; rintro e w1 ⟨v, rfl, hx, s, f, g, d, rfl, hs, hf, hd⟩; obtain ⟨bd, rfl⟩ := hd.ptr; obtain ⟨bf, rfl⟩ := hf.ptr; obtain ⟨bs, k, rt, rfl, hpw, hsp⟩ := hs; have c0 := hsp.c0; have HFO := Lib.hid hf; have HD := Lib.hid hd; have HPW := Lib.hid hpw; have HSP := Lib.hid hsp; have HX1 := Lib.hid hx; clear hf hd hpw hsp hx) | (go_at_call 7; refine (sfieldof_any c0).mono ?_; rintro e w' ⟨rfl, rfl⟩; obtain ⟨fs, hfs⟩ := HFO.out.fld; have HFS := Lib.hid hfs; clear hfs) | (go_at_call 8; refine (mix_no HFS.out (HRW.out.ext HX1.out) r hrb HBB.out).mono ?_; rintro e w2 ⟨v2, rfl, hx2, rfl⟩; have HX2 := Lib.hid hx2; clear hx2))
  have HXW := Lib.hid (HX1.out.trans HX2.out)
  clear c0
  go_wp2_with fail
  go_loopw [19, 20] (fun x19 x20 wr => ∃ i : Nat, 1 ≤ i ∧ i ≤ rows.length + 1 ∧ x20 = .int .i64 i ∧ x19 = .bool (bdU rows i) ∧ Hid (Ext w2 wr)) (fun _ x20 _ => rows.length + 1 - (intOf x20).toNat)
  case atStart => exact ⟨1, by omega, by omega, rfl, by rw [bdU_one]; first | rfl | (congr 1; rw [Bool.eq_iff_iff]; simp), Lib.hid (Ext.refl _)⟩
  case round =>
    obtain ⟨i, hi1, hi2, rfl, rfl, HXQ⟩ := hrel
    by_cases hlt : i < rows.length
    · have hxx := HXW.out.trans HXQ.out
      have hixa := HR.out.run_index (P := Tryz.prog) slRows i hlt
      have hcxa := hxx.cell (HR.out.cell i hlt)
      have hixb := HR.out.run_index (P := Tryz.prog) slRows 0 (by omega)
      rw [show ((0 : Nat) : Int) = 0 from rfl] at hixb
      have hcxb := hxx.cell (HR.out.cell 0 (by omega))
      have hla := (HR.out.row i hlt).run_len (P := Tryz.prog) slInts
      have hlb := (HR.out.row 0 (by omega)).run_len (P := Tryz.prog) slInts
      have HST := Lib.hid (bdU_step rows hlt)
      have hcmp : ∃ b, (((nthL rows i).length : Int) != ((nthL rows 0).length : Int)) = b := ⟨_, rfl⟩
      obtain ⟨b, hb⟩ := hcmp
      rw [hb] at HST
      clear hxx
      cases b
      all_goals
        go_wp2_with fail
        go_region
        go_wp2_with fail
        go_roundw
        case rel => exact ⟨i + 1, by omega, by omega, by go_num, by rw [HST.out]; simp, Lib.hid (HXQ.out.trans (Ext.drew _))⟩
        case measure => simp [intOf]; omega
    · have hbe := bdU_end rows (i := i) (by omega)
      rw [HBB.out] at hbe
      rw [hbe]
      have HXV := Lib.hid (HXW.out.trans HXQ.out)
      clear hbe
      go_upto_region 21 with (go_at_call 9; refine (error_any 2 2 _ (HG.out.ext HXV.out)).mono ?_; rw [show ((2 : Int) == 2) = true from rfl]; rintro e w3 ⟨rfl, hx3⟩; have HX3 := Lib.hid (HX2.out.trans (HXQ.out.trans hx3)); clear hx3)
      generalize w3 = wc at *
      have hgn := HFO.out.gen; have hlst := HFO.out.least; have hlo := HFO.out.lo; have hhi := HFO.out.hi
      have CN := Lib.hid (r2new_any p g n sh wc HFS.out.pr (by omega) hp2 hgn hlst hlo hhi HDE.out)
      clear hgn hlst hlo hhi
      go_upto_region 22 with (go_at_call 13; refine CN.out.mono ?_; rintro e w7 ⟨v7, rfl, hx7, rfl⟩; have HX7 := Lib.hid (HX3.out.trans hx7); clear hx7)
      have hxa := Ext.alloc w7 (Obj.cells #[.int .i64 p, .int .i64 n, .int .i64 (fof p sh), .int .i64 (froot p g n)] 39)
      have HBQ := Lib.hid (BlkOf.new w7 [.int .i64 p, .int .i64 n, .int .i64 (fof p sh), .int .i64 (froot p g n)] 39)
      generalize w7.alloc (Obj.cells #[.int .i64 p, .int .i64 n, .int .i64 (fof p sh), .int .i64 (froot p g n)] 39) = w8 at *
      have HX8 := Lib.hid (HX7.out.trans hxa)
      have HXA := Lib.hid (HX1.out.trans HX8.out)
      clear hxa
      by_cases hrn : varOf l.length < 0 ∨ roomB n (varOf l.length).toNat = false
      · have CM := Lib.hid (pcommit_no (.pointer (some ⟨bs, 0, none⟩)) (HD.out.ext HX8.out) hn12.1 hn12.2 (HL.out.ext HXA.out) hrn)
        have CF := Lib.hid (show ∀ W, Calls Tryz.prog 16 #[.agg #[.int .i64 p, .int .i64 n, .int .i64 (fof p sh), .int .i64 (froot p g n)], .int .i64 (varOf l.length)] W fun e w' => e = .returned (.bool false) ∧ Ext W w' from fun W => by
          by_cases h0 : varOf l.length < 0
          · exact rfits_no p n _ _ _ h0
          · have hbd := varOf_bd l.length
            have := rfits_ok (w := W) p n (fof p sh) (froot p g n) (varOf l.length).toNat (by omega) hn12.1 hn12.2
            rw [Int.toNat_of_nonneg (by omega), hrn.resolve_left h0] at this
            exact this)
        clear hrn
        go_wp2_with (first | (go_at_call 14; refine (rvars_any vt l _ (HL.out.ext HXA.out)).mono ?_; rintro e w' ⟨rfl, rfl⟩) | (go_at_call 15; refine CM.out.mono ?_; rintro e w9 ⟨v9, rfl, hx9, rfl⟩; have HX9 := Lib.hid (HXA.out.trans hx9); have hb9 := HBQ.out.ext hx9; have q0 : w9.cell? ⟨w7.heap.size, 0, none⟩ = some (.int .i64 p) := hb9.cell 0; have q1 : w9.cell? ⟨w7.heap.size, 1, none⟩ = some (.int .i64 n) := hb9.cell 1; have q2 : w9.cell? ⟨w7.heap.size, 2, none⟩ = some (.int .i64 (fof p sh)) := hb9.cell 2; have q3 : w9.cell? ⟨w7.heap.size, 3, none⟩ = some (.int .i64 (froot p g n)) := hb9.cell 3; clear hx9 hb9) | (go_at_call 16; refine (CF.out _).mono ?_; rintro e w10 ⟨rfl, hx10⟩; have HX10 := Lib.hid (HX9.out.trans hx10); clear hx10) | (go_at_call 9; refine (error_any 2 2 _ (HG.out.ext HX10.out)).mono ?_; rw [show ((2 : Int) == 2) = true from rfl]; rintro e w11 ⟨rfl, hx11⟩))
        go_ret
        exact ⟨rfl, HX10.out.trans hx11⟩
      · have hbd := varOf_bd l.length
        have hpw := varOf_pow (n := (l.length : Int)) (by omega)
        obtain ⟨kv, hkv⟩ : ∃ kv : Nat, varOf l.length = (kv : Int) := ⟨(varOf l.length).toNat, by omega⟩
        rw [hkv, Int.toNat_natCast] at hpw
        have hlk : l.length = 2 ^ kv := by
          have e1 : ((2 ^ kv : Nat) : Int) = (2 : Int) ^ kv := by simp
          omega
        have hrm : roomB n kv = true := by
          have h1 : ¬ roomB n (varOf l.length).toNat = false := fun h => hrn (.inr h)
          rw [hkv, Int.toNat_natCast] at h1
          simpa using h1
        have hk12 : kv ≤ 12 := by omega
        have hN12 : 1 ≤ 2 ^ K ∧ 2 ^ K ≤ 65536 := ⟨Nat.one_le_two_pow, Nat.le_trans (Nat.pow_le_pow_right (by decide) HK.out) (by decide)⟩
        have hnn : n = ((2 ^ K : Nat) : Int) := by rw [HNK.out]; simp
        have HKV := Lib.hid hkv
        have CM := Lib.hid (pcommit_ok (w := w8) (q := k) (p := p) (n := n) (sh := fof p sh) (rt := froot p g n) (g0 := g) (bs := bs) ⟨bs, bf, rt, g, fs, rfl, HSP.out.ext HX8.out, HFS.out.ext HX8.out, pw_le HPW.out h23 hp2⟩ (HD.out.ext HX8.out) (HFS.out.ext HX8.out) K HK.out HNK.out (fun m hm => root_neg HFS.out.pr (by omega) HFO.out.gen (n := n) (m := m) (by rw [HNK.out, hm]) HDV.out) (HL.out.ext HXA.out) kv hk12 hlk hrm)
        have CF := Lib.hid (fun W => by have := rfits_ok (w := W) p n (fof p sh) (froot p g n) kv hk12 hn12.1 hn12.2; rw [hrm] at this; exact this)
        have CR := Lib.hid (fun (W : World) (hx : Ext w W) => by have := rRoot12_any (p := p) (sh := fof p sh) (r := froot p g n) (q := k) h23 hp2 HPW.out hsh (2 ^ K) hN12.1 hN12.2 (HL.out.ext hx) kv hk12 hlk; rw [← hnn] at this; exact this)
        generalize tabR p (fof p sh) (froot p g n) k (2 ^ K) kv l = TR at *
        clear hrn hbd hpw hkv hlk hrm hk12 hN12 hnn
        go_wp2_with (first | (go_at_call 14; refine (rvars_any vt l _ (HL.out.ext HXA.out)).mono ?_; rw [HKV.out]; rintro e w' ⟨rfl, rfl⟩) | (go_at_call 15; refine CM.out.mono ?_; rintro e w9 ⟨v9, rfl, hx9, u9, rfl, hi9⟩; have HX9 := Lib.hid (HXA.out.trans hx9); have HB9 := Lib.hid (HBQ.out.ext hx9); have HI9 := Lib.hid hi9; have q0 : w9.cell? ⟨w7.heap.size, 0, none⟩ = some (.int .i64 p) := HB9.out.cell 0; have q1 : w9.cell? ⟨w7.heap.size, 1, none⟩ = some (.int .i64 n) := HB9.out.cell 1; have q2 : w9.cell? ⟨w7.heap.size, 2, none⟩ = some (.int .i64 (fof p sh)) := HB9.out.cell 2; have q3 : w9.cell? ⟨w7.heap.size, 3, none⟩ = some (.int .i64 (froot p g n)) := HB9.out.cell 3; clear hx9 hi9))
        refine (CF.out _).mono ?_
        rintro e w10 ⟨rfl, hx10⟩
        have HX10 := Lib.hid (HX9.out.trans hx10)
        have HI10 := Lib.hid (HI9.out.ext hx10)
        have hb10 := HB9.out.ext hx10
        clear q0 q1 q2 q3
        have q0 : w10.cell? ⟨w7.heap.size, 0, none⟩ = some (.int .i64 p) := hb10.cell 0
        have q1 : w10.cell? ⟨w7.heap.size, 1, none⟩ = some (.int .i64 n) := hb10.cell 1
        have q2 : w10.cell? ⟨w7.heap.size, 2, none⟩ = some (.int .i64 (fof p sh)) := hb10.cell 2
        have q3 : w10.cell? ⟨w7.heap.size, 3, none⟩ = some (.int .i64 (froot p g n)) := hb10.cell 3
        clear hx10 hb10
        go_wp2_with fail
        refine (CR.out _ HX10.out).mono ?_
        rintro e w11 ⟨v11, rfl, hx11, hi11⟩
        have HX11 := Lib.hid (HX10.out.trans hx11)
        have HI11 := Lib.hid hi11
        have HI12 := Lib.hid (HI10.out.ext hx11)
        clear q0 q1 q2 q3 hx11 hi11
        go_wp2_with (go_at_call 12; refine (sints_any _ _ _ _ _ HI12.out HI11.out).mono ?_; rw [decide_eq_true rfl]; rintro e w12 hrd; obtain ⟨rfl, hx12⟩ := hrd.ext; clear hrd)
        go_ret
        exact ⟨rfl, HX11.out.trans hx12⟩
set_option maxRecDepth 100000 in
set_option maxHeartbeats 8000000 in
theorem pledgeMixes_yes (p n sh r : Int) (vr vt : Value) (rows : List (List Int)) (l : List Int) (w : World) (h : okT p n sh) (hg : Hnd w) (hr : Rws w vr rows) (hl : Ints w vt l) (hrl : rows.length ≤ 4294967290) (hrb : (nthL rows 0).length ≤ 4294967290) (hB : rowsBad rows = false) :
    Calls Tryz.prog 3 #[.int .i64 p, .int .i64 n, .int .i64 sh, vr, .int .i64 r, vt] w fun e w' => e = .returned (.bool true) ∧ Ext w w' := by
  have H := Lib.hid h; have HG := Lib.hid hg; have HL := Lib.hid hl; have HRW := Lib.hid hr; have HBB := Lib.hid hB
  have hp2 : p ≤ 2147483647 := h.1.2.2
  have h23 : 23 ≤ p := h.2.1
  obtain ⟨htw, hdv, -⟩ := domErr_ok h.2.2
  obtain ⟨K, hK, hnK⟩ := twoB_pow htw
  have hn12 := twoB_bd htw
  have hsh : 0 ≤ fof p sh ∧ fof p sh < p := ⟨Int.emod_nonneg _ (by omega), Int.emod_lt_of_pos _ (by omega)⟩
  have HDV := Lib.hid hdv; have HNK := Lib.hid hnK; have HSH := Lib.hid hsh; have HK := Lib.hid hK
  obtain ⟨R, hr⟩ := hr
  have hlr := hr.run_len (P := Tryz.prog) slRows
  have HR := Lib.hid hr
  have HDE := Lib.hid h.2.2
  clear h hg hr hl hB htw hdv hnK hK
  go_enter Tryz.func3, Tryz.ntmps3
  go_upto_region 7 with (first | (go_at_call 6; refine (things_ok _ _ _ _ H.out HG.out).mono ?_; rintro e w1 ⟨v, rfl, hx, s, f, g, d, rfl, hs, hf, hd⟩; obtain ⟨bd, rfl⟩ := hd.ptr; obtain ⟨bf, rfl⟩ := hf.ptr; obtain ⟨bs, k, rt, rfl, hpw, hsp⟩ := hs; have c0 := hsp.c0; have HFO := Lib.hid hf; have HD := Lib.hid hd; have HPW := Lib.hid hpw; have HSP := Lib.hid hsp; have HX1 := Lib.hid hx; clear hf hd hpw hsp hx) | (go_at_call 7; refine (sfieldof_any c0).mono ?_; rintro e w' ⟨rfl, rfl⟩; obtain ⟨fs, hfs⟩ := HFO.out.fld; have HFS := Lib.hid hfs; clear hfs) | (go_at_call 8; refine (mix_ok HFS.out (HRW.out.ext HX1.out) r hrb HBB.out).mono ?_; rintro e w2 ⟨v2, rfl, hx2, u2, rfl, hm2⟩; have HX2 := Lib.hid hx2; have HM2 := Lib.hid hm2; clear hx2 hm2))
  have HXW := Lib.hid (HX1.out.trans HX2.out)
  clear c0
  go_wp2_with fail
  go_loopw [19, 20] (fun x19 x20 wr => ∃ i : Nat, 1 ≤ i ∧ i ≤ rows.length + 1 ∧ x20 = .int .i64 i ∧ x19 = .bool (bdU rows i) ∧ Hid (Ext w2 wr)) (fun _ x20 _ => rows.length + 1 - (intOf x20).toNat)
  case atStart => exact ⟨1, by omega, by omega, rfl, by rw [bdU_one]; first | rfl | (congr 1; rw [Bool.eq_iff_iff]; simp), Lib.hid (Ext.refl _)⟩
  case round =>
    obtain ⟨i, hi1, hi2, rfl, rfl, HXQ⟩ := hrel
    by_cases hlt : i < rows.length
    · have hxx := HXW.out.trans HXQ.out
      have hixa := HR.out.run_index (P := Tryz.prog) slRows i hlt
      have hcxa := hxx.cell (HR.out.cell i hlt)
      have hixb := HR.out.run_index (P := Tryz.prog) slRows 0 (by omega)
      rw [show ((0 : Nat) : Int) = 0 from rfl] at hixb
      have hcxb := hxx.cell (HR.out.cell 0 (by omega))
      have hla := (HR.out.row i hlt).run_len (P := Tryz.prog) slInts
      have hlb := (HR.out.row 0 (by omega)).run_len (P := Tryz.prog) slInts
      have HST := Lib.hid (bdU_step rows hlt)
      have hcmp : ∃ b, (((nthL rows i).length : Int) != ((nthL rows 0).length : Int)) = b := ⟨_, rfl⟩
      obtain ⟨b, hb⟩ := hcmp
      rw [hb] at HST
      clear hxx
      cases b
      all_goals
        go_wp2_with fail
        go_region
        go_wp2_with fail
        go_roundw
        case rel => exact ⟨i + 1, by omega, by omega, by go_num, by rw [HST.out]; simp, Lib.hid (HXQ.out.trans (Ext.drew _))⟩
        case measure => simp [intOf]; omega
    · have hbe := bdU_end rows (i := i) (by omega)
      rw [HBB.out] at hbe
      rw [hbe]
      have HXV := Lib.hid (HXW.out.trans HXQ.out)
      clear hbe
      obtain ⟨h0, hrm⟩ := rowsBad_no HBB.out
      have HH0 := Lib.hid h0; have HRM := Lib.hid hrm
      have HMM := Lib.hid (show mxU p (nth (powsL p r rows.length)) rows (nthL rows 0).length rows.length = mxU p (fun i => fpow p r i) rows (nthL rows 0).length rows.length from mxU_congr p rows _ _ fun j hj => powsL_nth p r _ _ hj)
      clear h0 hrm
      go_upto_region 21 with (first | (go_at_call 10; refine (rpowers_any (by omega) hp2 r rows.length (by omega)).mono ?_; rintro e w4 ⟨v4, rfl, hx4, hi4⟩; have HX4 := Lib.hid (HXQ.out.trans hx4); have HI4 := Lib.hid hi4; clear hx4 hi4) | (go_at_call 11; refine (rsum_any (by omega) hp2 vr v4 rows _ R (HR.out.ext (HXW.out.trans HX4.out)) HI4.out _ HH0.out HRM.out hrb (by rw [powsL_length]; exact Nat.le_refl _)).mono ?_; rw [HMM.out]; rintro e w5 ⟨v5, rfl, hx5, hi5⟩; have HX5 := Lib.hid (HX4.out.trans hx5); have HI5 := Lib.hid hi5; clear hx5 hi5) | (go_at_call 12; refine (sints_any _ _ _ _ _ (HM2.out.ext HX5.out) HI5.out).mono ?_; rw [decide_eq_true rfl]; rintro e w6 hrd; obtain ⟨rfl, hx6⟩ := hrd.ext; have HX3 := Lib.hid (HX2.out.trans (HX5.out.trans hx6)); clear hrd hx6))
      generalize w6 = wc at *
      have hgn := HFO.out.gen; have hlst := HFO.out.least; have hlo := HFO.out.lo; have hhi := HFO.out.hi
      have CN := Lib.hid (r2new_any p g n sh wc HFS.out.pr (by omega) hp2 hgn hlst hlo hhi HDE.out)
      clear hgn hlst hlo hhi
      go_upto_region 22 with (go_at_call 13; refine CN.out.mono ?_; rintro e w7 ⟨v7, rfl, hx7, rfl⟩; have HX7 := Lib.hid (HX3.out.trans hx7); clear hx7)
      have hxa := Ext.alloc w7 (Obj.cells #[.int .i64 p, .int .i64 n, .int .i64 (fof p sh), .int .i64 (froot p g n)] 39)
      have HBQ := Lib.hid (BlkOf.new w7 [.int .i64 p, .int .i64 n, .int .i64 (fof p sh), .int .i64 (froot p g n)] 39)
      generalize w7.alloc (Obj.cells #[.int .i64 p, .int .i64 n, .int .i64 (fof p sh), .int .i64 (froot p g n)] 39) = w8 at *
      have HX8 := Lib.hid (HX7.out.trans hxa)
      have HXA := Lib.hid (HX1.out.trans HX8.out)
      clear hxa
      by_cases hrn : varOf l.length < 0 ∨ roomB n (varOf l.length).toNat = false
      · have CM := Lib.hid (pcommit_no (.pointer (some ⟨bs, 0, none⟩)) (HD.out.ext HX8.out) hn12.1 hn12.2 (HL.out.ext HXA.out) hrn)
        have CF := Lib.hid (show ∀ W, Calls Tryz.prog 16 #[.agg #[.int .i64 p, .int .i64 n, .int .i64 (fof p sh), .int .i64 (froot p g n)], .int .i64 (varOf l.length)] W fun e w' => e = .returned (.bool false) ∧ Ext W w' from fun W => by
          by_cases h0 : varOf l.length < 0
          · exact rfits_no p n _ _ _ h0
          · have hbd := varOf_bd l.length
            have := rfits_ok (w := W) p n (fof p sh) (froot p g n) (varOf l.length).toNat (by omega) hn12.1 hn12.2
            rw [Int.toNat_of_nonneg (by omega), hrn.resolve_left h0] at this
            exact this)
        clear hrn
        go_wp2_with (first | (go_at_call 14; refine (rvars_any vt l _ (HL.out.ext HXA.out)).mono ?_; rintro e w' ⟨rfl, rfl⟩) | (go_at_call 15; refine CM.out.mono ?_; rintro e w9 ⟨v9, rfl, hx9, rfl⟩; have HX9 := Lib.hid (HXA.out.trans hx9); have hb9 := HBQ.out.ext hx9; have q0 : w9.cell? ⟨w7.heap.size, 0, none⟩ = some (.int .i64 p) := hb9.cell 0; have q1 : w9.cell? ⟨w7.heap.size, 1, none⟩ = some (.int .i64 n) := hb9.cell 1; have q2 : w9.cell? ⟨w7.heap.size, 2, none⟩ = some (.int .i64 (fof p sh)) := hb9.cell 2; have q3 : w9.cell? ⟨w7.heap.size, 3, none⟩ = some (.int .i64 (froot p g n)) := hb9.cell 3; clear hx9 hb9) | (go_at_call 16; refine (CF.out _).mono ?_; rintro e w10 ⟨rfl, hx10⟩; have HX10 := Lib.hid (HX9.out.trans hx10); clear hx10) | (go_at_call 9; refine (error_any 2 2 _ (HG.out.ext HX10.out)).mono ?_; rw [show ((2 : Int) == 2) = true from rfl]; rintro e w11 ⟨rfl, hx11⟩))
        go_ret
        exact ⟨rfl, HX10.out.trans hx11⟩
      · have hbd := varOf_bd l.length
        have hpw := varOf_pow (n := (l.length : Int)) (by omega)
        obtain ⟨kv, hkv⟩ : ∃ kv : Nat, varOf l.length = (kv : Int) := ⟨(varOf l.length).toNat, by omega⟩
        rw [hkv, Int.toNat_natCast] at hpw
        have hlk : l.length = 2 ^ kv := by
          have e1 : ((2 ^ kv : Nat) : Int) = (2 : Int) ^ kv := by simp
          omega
        have hrm : roomB n kv = true := by
          have h1 : ¬ roomB n (varOf l.length).toNat = false := fun h => hrn (.inr h)
          rw [hkv, Int.toNat_natCast] at h1
          simpa using h1
        have hk12 : kv ≤ 12 := by omega
        have hN12 : 1 ≤ 2 ^ K ∧ 2 ^ K ≤ 65536 := ⟨Nat.one_le_two_pow, Nat.le_trans (Nat.pow_le_pow_right (by decide) HK.out) (by decide)⟩
        have hnn : n = ((2 ^ K : Nat) : Int) := by rw [HNK.out]; simp
        have HKV := Lib.hid hkv
        have CM := Lib.hid (pcommit_ok (w := w8) (q := k) (p := p) (n := n) (sh := fof p sh) (rt := froot p g n) (g0 := g) (bs := bs) ⟨bs, bf, rt, g, fs, rfl, HSP.out.ext HX8.out, HFS.out.ext HX8.out, pw_le HPW.out h23 hp2⟩ (HD.out.ext HX8.out) (HFS.out.ext HX8.out) K HK.out HNK.out (fun m hm => root_neg HFS.out.pr (by omega) HFO.out.gen (n := n) (m := m) (by rw [HNK.out, hm]) HDV.out) (HL.out.ext HXA.out) kv hk12 hlk hrm)
        have CF := Lib.hid (fun W => by have := rfits_ok (w := W) p n (fof p sh) (froot p g n) kv hk12 hn12.1 hn12.2; rw [hrm] at this; exact this)
        have CR := Lib.hid (fun (W : World) (hx : Ext w W) => by have := rRoot12_any (p := p) (sh := fof p sh) (r := froot p g n) (q := k) h23 hp2 HPW.out hsh (2 ^ K) hN12.1 hN12.2 (HL.out.ext hx) kv hk12 hlk; rw [← hnn] at this; exact this)
        generalize tabR p (fof p sh) (froot p g n) k (2 ^ K) kv l = TR at *
        clear hrn hbd hpw hkv hlk hrm hk12 hN12 hnn
        go_wp2_with (first | (go_at_call 14; refine (rvars_any vt l _ (HL.out.ext HXA.out)).mono ?_; rw [HKV.out]; rintro e w' ⟨rfl, rfl⟩) | (go_at_call 15; refine CM.out.mono ?_; rintro e w9 ⟨v9, rfl, hx9, u9, rfl, hi9⟩; have HX9 := Lib.hid (HXA.out.trans hx9); have HB9 := Lib.hid (HBQ.out.ext hx9); have HI9 := Lib.hid hi9; have q0 : w9.cell? ⟨w7.heap.size, 0, none⟩ = some (.int .i64 p) := HB9.out.cell 0; have q1 : w9.cell? ⟨w7.heap.size, 1, none⟩ = some (.int .i64 n) := HB9.out.cell 1; have q2 : w9.cell? ⟨w7.heap.size, 2, none⟩ = some (.int .i64 (fof p sh)) := HB9.out.cell 2; have q3 : w9.cell? ⟨w7.heap.size, 3, none⟩ = some (.int .i64 (froot p g n)) := HB9.out.cell 3; clear hx9 hi9))
        refine (CF.out _).mono ?_
        rintro e w10 ⟨rfl, hx10⟩
        have HX10 := Lib.hid (HX9.out.trans hx10)
        have HI10 := Lib.hid (HI9.out.ext hx10)
        have hb10 := HB9.out.ext hx10
        clear q0 q1 q2 q3
        have q0 : w10.cell? ⟨w7.heap.size, 0, none⟩ = some (.int .i64 p) := hb10.cell 0
        have q1 : w10.cell? ⟨w7.heap.size, 1, none⟩ = some (.int .i64 n) := hb10.cell 1
        have q2 : w10.cell? ⟨w7.heap.size, 2, none⟩ = some (.int .i64 (fof p sh)) := hb10.cell 2
        have q3 : w10.cell? ⟨w7.heap.size, 3, none⟩ = some (.int .i64 (froot p g n)) := hb10.cell 3
        clear hx10 hb10
        go_wp2_with fail
        refine (CR.out _ HX10.out).mono ?_
        rintro e w11 ⟨v11, rfl, hx11, hi11⟩
        have HX11 := Lib.hid (HX10.out.trans hx11)
        have HI11 := Lib.hid hi11
        have HI12 := Lib.hid (HI10.out.ext hx11)
        clear q0 q1 q2 q3 hx11 hi11
        go_wp2_with (go_at_call 12; refine (sints_any _ _ _ _ _ HI12.out HI11.out).mono ?_; rw [decide_eq_true rfl]; rintro e w12 hrd; obtain ⟨rfl, hx12⟩ := hrd.ext; clear hrd)
        go_ret
        exact ⟨rfl, HX11.out.trans hx12⟩
end Go.Proofs.YtaajjaadlpgbiaaGreatDoor
