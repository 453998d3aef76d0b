/- By halves, the program's side: contract of spread. -/
import Derived.Test.YtaajjaadlpgbiaaGreatDoorZx9
import Derived.Deep.RegionHeld3
import Derived.Deep.DrawnRows
import Derived.Test.YtaajjaadlpgbiaaGreatDoorZx6
import Derived.Test.YtaajjaadlpgbiaaGreatDoorHb
import Derived.Deep.RegionWith
namespace Go.Att
open Go.RowKit
/-- What spread gives: its argument, or a slice of its own. -/
def Spr (p : Int) (K : Nat) (l : List Int) (g : Int) (w : World) (va : Value) (e : TypeId) (u : Value) (w' : World) : Prop :=
  ∃ L : List Int, Ints w' u L ∧ L.length = 2 ^ K ∧ (∀ j, j < 2 ^ K → nth L j % p = sprZ K (nth l) g j % p) ∧ ((K = 0 ∧ u = va ∧ L = l) ∨ (1 ≤ K ∧ w'.ownsRow w.heap.size e 1 u (2 ^ K) (L.map (Value.int .i64)) ∧ ∀ j, j < 2 ^ K → 0 ≤ nth L j ∧ nth L j < p))
theorem outP_bd {p : Int} (hp : 2 ≤ p) (g : Int) (E O : List Int) (h : Nat) : ∀ j, j < h + h → 0 ≤ nth (outP p g E O h h) j ∧ nth (outP p g E O h h) j < p := by
  intro j hj
  unfold outP
  rw [nth_map_range _ _ _ hj]
  split
  · exact fadd_bd hp _ _
  · rw [if_pos ⟨by omega, by omega⟩]; exact fsub_bd hp _ _
theorem own_grown9 {w w' : World} {B e sz n : Nat} {v : Value} {xs : List Value} {r : Option Nat} (h : w.ownsRow B e sz v n xs) (hg : w.grownBy w' r) (hne : ∀ k, v.ownBlock = some k → some k ≠ r) : w'.ownsRow B e sz v n xs := by
  refine ⟨h.1, ?_⟩
  rcases h.2 with h2 | ⟨g, cap, cur, hv, hb, hgt, hr⟩
  · exact .inl h2
  · exact .inr ⟨g, cap, cur, hv, hb, by rw [hg.block g (Array.getElem?_eq_some_iff.1 hgt).1 (hne g (by rw [hv]; rfl))]; exact hgt, hr⟩
theorem own_base {w : World} {B B' e sz n : Nat} {v : Value} {xs : List Value} (h : w.ownsRow B e sz v n xs) (hb : B' ≤ B) : w.ownsRow B' e sz v n xs := by
  refine ⟨h.1, ?_⟩
  rcases h.2 with h2 | ⟨g, cap, cur, hv, hbg, hr⟩
  · exact .inl h2
  · exact .inr ⟨g, cap, cur, hv, Nat.le_trans hb hbg, hr⟩
end Go.Att
namespace Go.Proofs.YtaajjaadlpgbiaaGreatDoor
open Go.RowKit Go.Att
attribute [local go_sem ↓] Go.wp_at_zero Go.wp_at_succ

set_option maxRecDepth 100000 in
set_option maxHeartbeats 2000000 in
theorem spread_any (K : Nat) : ∀ (w : World) (d : Value) (bf : Nat) (p g0 n sh r : Int) (fs : List Int) (_ : DomOf w d (.pointer (some ⟨bf, 0, none⟩)) n sh r) (_ : Fld w (.pointer (some ⟨bf, 0, none⟩)) p g0 fs) (va : Value) (l : List Int) (g : Int), Ints w va l → l.length = 2 ^ K → K ≤ 17 →
    Calls Tryz.prog 128 #[d, va, .int .i64 g] w (Gives w fun u w' => Spr p K l g w va 3 u w') := by
  induction K with
  | zero =>
    intro w d bf p g0 n sh r fs hd hf va l g hl hlen _
    have hll := hl.run_len (P := Tryz.prog) slInts
    rw [hlen] at hll
    rw [show ((2 ^ 0 : Nat) : Int) = 1 from rfl] at hll
    have HL := Lib.hid hl; have HLEN := Lib.hid hlen
    clear hl hd hf hlen
    go_enter Tryz.func128, Tryz.ntmps128
    go_wp2_with fail
    go_ret
    exact .mk _ rfl (Ext.refl _) ⟨l, HL.out, HLEN.out, fun j _ => rfl, .inl ⟨rfl, rfl, rfl⟩⟩
  | succ K ih =>
    intro w d bf p g0 n sh r fs hd hf va l g hl hlen hK
    have hll := hl.run_len (P := Tryz.prog) slInts
    have hp1 : 1 ≤ 2 ^ K := Nat.one_le_two_pow
    have hp2 : 2 ^ K ≤ 65536 := by
      have e1 : 2 ^ K ≤ 2 ^ 16 := Nat.pow_le_pow_right (by decide) (by omega)
      have e2 : (2 : Nat) ^ 16 = 65536 := by decide
      omega
    rw [Nat.pow_succ, Nat.mul_two] at hlen
    rw [hlen] at hll
    have HL := Lib.hid hl; have HD := Lib.hid hd; have C := Lib.hid hf; have HIH := Lib.hid ih
    obtain ⟨h, hh⟩ : ∃ h, 2 ^ K = h := ⟨_, rfl⟩
    rw [hh] at hlen hll hp1 hp2
    obtain ⟨n, hn⟩ : ∃ n, h + h = n := ⟨_, rfl⟩
    rw [hn] at hlen hll
    have hn1 : h + h ≤ n := by omega
    have hn2 : n ≤ h + h := by omega
    have HH := Lib.hid hh; have HLEN := Lib.hid hlen; have HNN := Lib.hid hn
    obtain ⟨b, rfl⟩ := hd.ptr
    clear hl hd hf hlen hh ih hn
    have hb : ((n : Int) == 1) = false := by rw [beq_eq_false_iff_ne]; omega
    go_enter Tryz.func128, Tryz.ntmps128
    go_wp2_with fail
    go_loopw [8, 9, 10, 11, 24] (fun x8 x9 _ _ x24 wr => ∃ i : Nat, i ≤ n ∧ x24 = .int .i64 i ∧ wr.ownsRow w.heap.size 3 1 x8 ((i + 1) / 2) ((evL l ((i + 1) / 2)).map (Value.int .i64)) ∧ wr.ownsRow w.heap.size 3 1 x9 (i / 2) ((odL l (i / 2)).map (Value.int .i64)) ∧ (∀ k, x8.ownBlock = some k → some k ≠ x9.ownBlock) ∧ Ext w wr) (fun _ _ _ _ x24 _ => n - (intOf x24).toNat)
    case atStart => exact ⟨0, Nat.zero_le _, rfl, World.ownsRow_nil _ _ _ _, World.ownsRow_nil _ _ _ _, fun k hk => (by cases hk), Ext.refl _⟩
    case round =>
      obtain ⟨i, hi, rfl, HO8, HO9, HNE, HX⟩ := hrel
      by_cases hlt : i < n
      · have hix := HL.out.run_index (P := Tryz.prog) slInts i (by rw [HLEN.out]; exact hlt)
        have hc := (HL.out.ext HX).cell i (by rw [HLEN.out]; exact hlt)
        rcases Nat.mod_two_eq_zero_or_one i with hm | hm
        · obtain ⟨q, hq⟩ : ∃ q, i = 2 * q := ⟨i / 2, by omega⟩
          have h1 : (i + 1) / 2 = q := by omega
          have h2 : i / 2 = q := by omega
          rw [h1] at HO8
          rw [h2] at HO9
          have hmb : ((i : Int) % 2 == 0) = true := by rw [beq_iff_eq]; omega
          have ST := Lib.hid (show (evL l (q + 1)).map (Value.int .i64) = (evL l q).map (Value.int .i64) ++ [.int .i64 (nth l i)] by rw [evL_succ, hq]; simp)
          have HQ := Lib.hid (show (i + 1 + 1) / 2 = q + 1 by omega)
          have HQ1 := Lib.hid h1
          have hq32 : q ≤ 65536 := by omega
          clear hq h1 h2 hm
          go_wp2_with (at_builtin; refine wpList_appNw rfl _ _ 23 rfl slInts rfl HX.size HO8 rfl _ rfl (by intro u hu; simp at hu; subst hu; rfl) rfl (by omega) (by omega) ?_; intro v' w7 HO7 HG7 HM7)
          have HO9' := own_grown9 HO9 HG7 (fun k hk hc => HNE k hc.symm hk.symm)
          go_roundw
          case rel => exact ⟨i + 1, by omega, by go_num, by rw [HQ.out, ST.out]; exact HO7, by rw [HQ1.out]; exact HO9', (fun k hk hc => by
            rcases HM7 with h | h
            · exact HNE k (h ▸ hk) hc
            · have e1 := h k hk
              have e2 := (HO9.lt k hc.symm).2
              omega), Ext.own_grown HX HO8 HG7⟩
          case measure => simp [intOf]; omega
        · obtain ⟨q, hq⟩ : ∃ q, i = 2 * q + 1 := ⟨i / 2, by omega⟩
          have h1 : (i + 1) / 2 = q + 1 := by omega
          have h2 : i / 2 = q := by omega
          rw [h1] at HO8
          rw [h2] at HO9
          have hmb : ((i : Int) % 2 == 0) = false := by rw [beq_eq_false_iff_ne]; omega
          have ST := Lib.hid (show (odL l (q + 1)).map (Value.int .i64) = (odL l q).map (Value.int .i64) ++ [.int .i64 (nth l i)] by rw [odL_succ, hq]; simp)
          have HQ := Lib.hid (show (i + 1 + 1) / 2 = q + 1 by omega)
          have HQ1 := Lib.hid h1
          have hq32 : q ≤ 65536 := by omega
          clear hq h1 h2 hm
          go_wp2_with (at_builtin; refine wpList_appNw rfl _ _ 23 rfl slInts rfl HX.size HO9 rfl _ rfl (by intro u hu; simp at hu; subst hu; rfl) rfl (by omega) (by omega) ?_; intro v' w7 HO7 HG7 HM7)
          have HO8' := own_grown9 HO8 HG7 (fun k hk hc => HNE k hk hc)
          go_roundw
          case rel => exact ⟨i + 1, by omega, by go_num, by rw [HQ.out]; exact HO8', by rw [HQ1.out, ST.out]; exact HO7, (fun k hk hc => by
            rcases HM7 with h | h
            · exact HNE k hk (hc.trans h)
            · have e1 := h k hc.symm
              have e2 := (HO8.lt k hk).2
              omega), Ext.own_grown HX HO9 HG7⟩
          case measure => simp [intOf]; omega
      · have hin : i = n := by omega
        clear hlt hi
        subst hin
        rw [show (i + 1) / 2 = h by omega] at HO8
        rw [show i / 2 = h by omega] at HO9
        have I8 := Ints.of_own HO8
        have I9 := Ints.of_own HO9
        obtain ⟨bb, hbb, d1, d2, d3, d4⟩ := (HD.out.ext HX)
        obtain rfl : b = bb := by simpa using hbb
        clear hbb HO8 HO9 HNE
        go_wp2_with (go_at_call 71; refine (mul_any (C.out.ext HX) _ _).mono ?_; rintro e w3 hrd; obtain ⟨rfl, hx3⟩ := hrd.ext; clear hrd)
        replace I8 := I8.ext hx3
        replace I9 := I9.ext hx3
        replace hx3 := HX.trans hx3
        refine (HIH.out _ _ bf p g0 n sh r fs (HD.out.ext hx3) (C.out.ext hx3) _ (evL l h) (fmul p g g) I8 (by rw [evL_length]; exact HH.out.symm) (by omega)).mono ?_
        rintro e w4 ⟨u4, rfl, hx4, E, hI4, hl4, hm4, -⟩
        replace I9 := I9.ext hx4
        replace hx4 := hx3.trans hx4
        go_wp2_with fail
        refine (HIH.out _ _ bf p g0 n sh r fs (HD.out.ext hx4) (C.out.ext hx4) _ (odL l h) (fmul p g g) I9 (by rw [odL_length]; exact HH.out.symm) (by omega)).mono ?_
        rintro e w5 ⟨u5, rfl, hx5, O, hI5, hl5, hm5, -⟩
        have HI4 := Lib.hid (hI4.ext hx5); have HI5 := Lib.hid hI5
        have HM4 := Lib.hid hm4; have HM5 := Lib.hid hm5
        have HL4 := Lib.hid (hl4.trans HH.out); have HL5 := Lib.hid (hl5.trans HH.out)
        replace hx5 := hx4.trans hx5
        clear I8 I9 hI4 hI5 hm4 hm5 hl4 hl5 hx3 hx4 d1 d2 d3 d4
        go_wp2_with (refine wpList_mkn rfl _ _ 23 rfl slInts (Ext.refl w5) rfl rfl (by omega) (by omega) (by omega) ?_; intro v6 w6 HO6 HX6 _; rw [Int.toNat_natCast, show i = h + h by omega] at HO6)
        have HO6z : w6.ownsRow w5.heap.size 3 1 v6 (h + h) ((outP p g E O h 0).map (Value.int .i64)) := by
          rw [outP_zero]
          have e1 : (madeCells (Value.cells (.int .i64 0)) ((h + h) * 1)).toList = (List.replicate (h + h) (0 : Int)).map (Value.int .i64) := by simp [madeCells, Value.cells, Nat.mod_one, List.map_const']
          rw [← e1]; exact HO6
        clear HO6
        rw [show (i : Int) / 2 = h by omega]
        have HX5 := Lib.hid hx5
        clear hx5
        go_loopw [14, 15, 16, 60] (fun x14 _ _ x60 wr => ∃ j : Nat, j ≤ h ∧ x60 = .int .i64 j ∧ x14 = .int .i64 (xp p g j) ∧ wr.ownsRow w5.heap.size 3 1 v6 (h + h) ((outP p g E O h j).map (Value.int .i64)) ∧ Ext w5 wr) (fun _ _ _ x60 _ => h - (intOf x60).toNat)
        case atStart => exact ⟨0, Nat.zero_le _, rfl, rfl, HO6z, HX6⟩
        case round =>
          obtain ⟨j, hj, rfl, rfl, HOJ, HXJ⟩ := hrel
          have hxw := HX5.out.trans HXJ
          by_cases hjl : j < h
          · have hix5 := HI5.out.run_index (P := Tryz.prog) slInts j (by rw [HL5.out]; exact hjl)
            have hc5 := (HI5.out.ext HXJ).cell j (by rw [HL5.out]; exact hjl)
            have hix4 := HI4.out.run_index (P := Tryz.prog) slInts j (by rw [HL4.out]; exact hjl)
            have hc4 := (HI4.out.ext HXJ).cell j (by rw [HL4.out]; exact hjl)
            obtain ⟨bb, hbb, d1, -, -, -⟩ := (HD.out.ext hxw)
            obtain rfl : b = bb := by simpa using hbb
            have HF := Lib.hid (C.out.ext hxw)
            clear hbb
            go_wp2_with fail
            go_quiet ((go_at_call 71; exact mul_q HF.out _ _ _))
            have e1 := (Ext.drewN wr nq).cell d1
            have e4 := (Ext.drewN wr nq).cell hc4
            have HOJ2 := own_ext HOJ (Ext.drewN wr nq)
            have HXJ2 := HXJ.trans (Ext.drewN wr nq)
            have HF2 := Lib.hid (HF.out.ext (Ext.drewN wr nq))
            clear d1 hc4 hc5 hix5
            generalize wr.drewN nq = w7 at *
            have hio := Ints.of_own HOJ2
            have hjA : j < (outP p g E O h j).length := by rw [outP_length]; omega
            have hjB : j + h < (outP p g E O h j).length := by rw [outP_length]; omega
            have hixA := hio.run_index (P := Tryz.prog) slInts j hjA
            have hixB := hio.run_index (P := Tryz.prog) slInts (j + h) hjB
            rw [show ((j + h : Nat) : Int) = (j : Int) + h by omega] at hixB
            have hA := hio.cell j hjA
            have hB := hio.cell (j + h) hjB
            have b1 : b < w5.heap.size := by
              obtain ⟨bb, hbb, d9, -, -, -⟩ := (HD.out.ext HX5.out)
              obtain rfl : b = bb := by simpa using hbb
              exact World.block_lt_of_cell? w5 _ d9
            have b2 : (elt u4 j 1).block < w5.heap.size := World.block_lt_of_cell? w5 _ (HI4.out.cell j (by rw [HL4.out]; exact hjl))
            obtain ⟨hfA, hfB, hne, hn1, hn2, hn3, hn4⟩ : w7.frozen? (elt v6 j 1) = false ∧ w7.frozen? (elt v6 (j + h) 1) = false ∧ elt v6 j 1 ≠ elt v6 (j + h) 1 ∧ elt v6 j 1 ≠ ⟨b, 0, none⟩ ∧ elt v6 j 1 ≠ elt u4 j 1 ∧ elt v6 (j + h) 1 ≠ ⟨b, 0, none⟩ ∧ elt v6 (j + h) 1 ≠ elt u4 j 1 := by
              obtain ⟨gb, cap, cur, hv, hb2, hg, hn', hm', hs', htk, he⟩ := elt_own HOJ2 (show j < h + h by omega)
              obtain ⟨gb2, cap2, cur2, hv2, hb22, hg2, hn2', hm2', hs2', htk2, he2⟩ := elt_own HOJ2 (show j + h < h + h by omega)
              refine ⟨?_, ?_, ?_, ?_, ?_, ?_, ?_⟩
              · rw [he]; simp [World.frozen?, hg]
              · rw [he2]; simp [World.frozen?, hg2]
              · rw [he, he2]; simp
              · rw [he]; intro hc; have := congrArg Addr.block hc; simp at this; omega
              · rw [he]; intro hc; have := congrArg Addr.block hc; simp at this; omega
              · rw [he2]; intro hc; have := congrArg Addr.block hc; simp at this; omega
              · rw [he2]; intro hc; have := congrArg Addr.block hc; simp at this; omega
            have hdv : (i : Int) / 2 = h := by omega
            have hj0 : (0 : Int) ≤ (j : Int) + h := by omega
            have ht0 : ((j : Int) + h).toNat = j + h := by omega
            have ht1 : ((i : Nat) : Int).tdiv 2 = h := by rw [Int.tdiv_eq_ediv_of_nonneg (by omega)]; exact hdv
            have ht2 : IntKind.i64.wrap (h : Int) = h := IntWalk.i64_in _ (by omega)
            have ht3 : IntKind.i64.wrap ((j : Int) + h) = (j : Int) + h := IntWalk.i64_in _ (by omega)
            have HIO := Lib.hid hio; clear hio hjA hjB
            go_wp2_with fail
            go_region_held3 (fun w' => w'.cell? ⟨b, 0, none⟩ = some (.pointer (some ⟨bf, 0, none⟩)) ∧ w'.cell? (elt u4 j 1) = some (.int .i64 (nth E j))) (first | go_keep | (refine ⟨?_, ?_⟩ <;> (first | (rw [World.cell?_setCell_other _ _ _ _ hn1]; go_keep) | (rw [World.cell?_setCell_other _ _ _ _ hn2]; go_keep) | (rw [World.cell?_setCell_other _ _ _ _ hn3]; go_keep) | (rw [World.cell?_setCell_other _ _ _ _ hn4]; go_keep)))) (first | (go_at_call 70; (first | refine (add_any (HF2.out.ext (Ext.drew w7)) _ _).mono ?_ | refine (add_any (HF2.out.ext (Ext.drewN w7 _)) _ _).mono ?_); rintro e w' ⟨rfl, m1, rfl⟩) | (go_at_call 116; (first | refine (sub_any (HF2.out.ext (Ext.drew w7)) _ _).mono ?_ | refine (sub_any (HF2.out.ext (Ext.drewN w7 _)) _ _).mono ?_); rintro e w' ⟨rfl, m2, rfl⟩))
            have HW : ((((w7.drewN (1 + m1 + m2)).setCell (elt v6 j 1) (.int .i64 (fadd p (nth E j) (fmul p (xp p g j) (nth O j))))).setCell (elt v6 (j + h) 1) (.int .i64 (fsub p (nth E j) (fmul p (xp p g j) (nth O j)))))).ownsRow w5.heap.size 3 1 v6 (h + h) ((outP p g E O h (j + 1)).map (Value.int .i64)) ∧ Ext w5 ((((w7.drewN (1 + m1 + m2)).setCell (elt v6 j 1) (.int .i64 (fadd p (nth E j) (fmul p (xp p g j) (nth O j))))).setCell (elt v6 (j + h) 1) (.int .i64 (fsub p (nth E j) (fmul p (xp p g j) (nth O j)))))) := by
              obtain ⟨gb, cap, cur, hv, hb2, hg, hn', hm', hs', htk, he⟩ := elt_own HOJ2 (show j < h + h by omega)
              obtain ⟨gb2, cap2, cur2, hv2, hb22, hg2, hn2', hm2', hs2', htk2, he2⟩ := elt_own HOJ2 (show j + h < h + h by omega)
              have hgb : gb2 = gb := by rw [hv] at hv2; simp at hv2; exact hv2.1.symm
              subst hgb
              rw [he, he2, Nat.mul_one, Nat.mul_one, ← outP_set p g E O h j hjl, hv, List.map_set, List.map_set, Nat.add_comm h j]
              have O1 := own_ext HOJ2 (Ext.drewN w7 (1 + m1 + m2))
              rw [hv] at O1
              exact ⟨((O1.stored j _).1.stored (j + h) _).1, ((HXJ2.trans (Ext.drewN w7 (1 + m1 + m2))).below.setCell hb2 _).setCell hb2 _⟩
            have c8 := (‹_ ∧ _› : _ ∧ _).1
            obtain ⟨HO8, HX8⟩ := HW
            generalize ((((w7.drewN (1 + m1 + m2)).setCell (elt v6 j 1) (.int .i64 (fadd p (nth E j) (fmul p (xp p g j) (nth O j))))).setCell (elt v6 (j + h) 1) (.int .i64 (fsub p (nth E j) (fmul p (xp p g j) (nth O j)))))) = w8 at *
            have HF8 := Lib.hid (C.out.ext (HX5.out.trans HX8))
            obtain ⟨bb, hbb, d8, -, -, -⟩ := (HD.out.ext (HX5.out.trans HX8))
            obtain rfl : b = bb := by simpa using hbb
            clear hbb hixA hixB hA hB hfA hfB hne hn1 hn2 hn3 hn4 hdv hj0 ht0 ht1 ht2 ht3 HIO e1 e4 hix4 HF2 HOJ HOJ2
            go_wp2_with (go_at_call 71; refine (mul_any HF8.out _ _).mono ?_; rintro e w9 hrd; obtain ⟨rfl, hx9⟩ := hrd.ext; clear hrd)
            go_roundw
            case rel => exact ⟨j + 1, by omega, by go_num, rfl, own_ext HO8 hx9, HX8.trans hx9⟩
            case measure => simp [intOf]; omega
          · obtain rfl : j = h := by omega
            go_wp2_with fail
            go_ret
            have HO := own_ext HOJ (Ext.refl _)
            refine .mk _ rfl hxw ⟨outP p g E O j j, Ints.of_own HOJ, by rw [outP_length, Nat.pow_succ, HH.out]; omega, ?_,   .inr ⟨by omega, ?_, ?_⟩⟩
            · have := HH.out; subst this
              exact out_fin p g l E O K HM4.out HM5.out
            · rw [Nat.pow_succ, HH.out, Nat.mul_two]; exact own_base HOJ HX5.out.size
            · rw [Nat.pow_succ, HH.out, Nat.mul_two]; exact outP_bd C.out.two g E O j
end Go.Proofs.YtaajjaadlpgbiaaGreatDoor
