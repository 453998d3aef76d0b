/- WholeAgain: bytes that are a voucher's are those that it is written as: the law's walk. -/
import Derived.Test.YthlnjfnlhgnblaaYb
namespace Go.Att
open Go.RowKit
theorem BytesIn.append {a b : List Int} (h : BytesIn a) (k : BytesIn b) : BytesIn (a ++ b) := fun c hc => by
  rcases List.mem_append.1 hc with h1 | h1
  · exact h c h1
  · exact k c h1
theorem encI_in (x : Int) : BytesIn (encI x) := encU_in _
theorem encL_in {α : Type} {e : α → List Int} (h : ∀ x, BytesIn (e x)) (l : List α) : BytesIn (encL e l) := by
  unfold encL
  refine (encI_in _).append fun c hc => ?_
  obtain ⟨x, _, hx⟩ := List.mem_flatMap.1 hc
  exact h x c hx
theorem encIs_in (l : List Int) : BytesIn (encIs l) := encL_in encI_in l
theorem encRs_in (l : List (List Int)) : BytesIn (encRs l) := encL_in encIs_in l
theorem encO_in (o : Opn) : BytesIn (encO o) := ((encIs_in _).append (encRs_in _)).append (encRs_in _)
theorem encOs_in (l : List Opn) : BytesIn (encOs l) := encL_in encO_in l
theorem encV_in (v : Vch) : BytesIn (encV v) := ((((((((encIs_in _).append (encIs_in _)).append (encI_in _)).append (encRs_in _)).append (encIs_in _)).append (encOs_in _)).append (encO_in _)).append (encO_in _))
def vch0 : Vch := ⟨[1, 300], [], 0, [], [], [], ([], [], []), ([], [], [])⟩
theorem vch0_enc : encV vch0 = [2, 1, 172, 2, 0, 0, 0, 0, 0, 0, 0, 0, 0, 0, 0] := by
  have e2 : encU 2 = [2] := by rw [encU, if_pos (by decide)]; rfl
  have e1 : encU 1 = [1] := by rw [encU, if_pos (by decide)]; rfl
  have e0 : encU 0 = [0] := by rw [encU, if_pos (by decide)]; rfl
  have e3 : encU 300 = [172, 2] := by rw [encU, if_neg (by decide), show 300 / 128 = 2 by decide, e2]; rfl
  have i2 : encI 2 = [2] := e2
  have i1 : encI 1 = [1] := e1
  have i0 : encI 0 = [0] := e0
  have i3 : encI 300 = [172, 2] := e3
  simp [encV, vch0, encIs, encRs, encOs, encO, encL, i0, i1, i2, i3]
theorem vch0_v : VcV vch0 := by
  refine ⟨⟨by decide, fun x hx => ?_⟩, ⟨by decide, fun x hx => by cases hx⟩, by unfold I64 vch0; decide, ⟨by decide, fun x hx => by cases hx⟩, ⟨by decide, fun x hx => by cases hx⟩, ⟨by decide, fun x hx => by cases hx⟩, ?_, ?_⟩
  · simp [vch0] at hx; rcases hx with rfl | rfl <;> (unfold I64; decide)
  · exact ⟨⟨by decide, fun x hx => by cases hx⟩, ⟨by decide, fun x hx => by cases hx⟩, ⟨by decide, fun x hx => by cases hx⟩⟩
  · exact ⟨⟨by decide, fun x hx => by cases hx⟩, ⟨by decide, fun x hx => by cases hx⟩, ⟨by decide, fun x hx => by cases hx⟩⟩
theorem vch0_rd : rdV (encV vch0) = some (vch0, []) := by have := rdV_forth vch0 [] vch0_v; rwa [List.append_nil] at this
theorem rws_nil (w : World) : Rws w (.slice none 0 0) [] := ⟨fun _ => .slice none 0 0, ⟨⟨none, 0, rfl, by simp, Nat.le_refl _, Nat.zero_le _, fun i hi => by simp at hi⟩, fun i hi => by simp at hi⟩⟩
theorem vch0_at (w : World) (t : TypeId) : VchAt (w.alloc (Obj.cells #[.int .i64 1, .int .i64 300] t)) (.slice (some ⟨w.heap.size, 0, none⟩) 2 2) (.slice none 0 0) (.slice none 0 0) (.slice none 0 0) (.slice none 0 0) (.slice none 0 0) (.slice none 0 0) (.slice none 0 0) (.slice none 0 0) (.slice none 0 0) (.slice none 0 0) vch0 := by
  refine ⟨⟨_, _, rfl, rfl, Nat.le_refl _, by unfold maxLen; decide, fun i hi => ⟨_, _, rfl, ?_⟩⟩, Ints.nil _, rws_nil _, Ints.nil _, Opns.nil _, ⟨Ints.nil _, rws_nil _, rws_nil _⟩, ⟨Ints.nil _, rws_nil _, rws_nil _⟩⟩
  have h0 : i = 0 ∨ i = 1 := by simp [vch0] at hi; omega
  rcases h0 with rfl | rfl
  · exact cell_new w #[.int .i64 1, .int .i64 300] t 0
  · exact cell_new w #[.int .i64 1, .int .i64 300] t 1
theorem opns_shape {w : World} {v : Value} {l : List Opn} (h : Opns w v l) : ∃ ao cap, v = .slice ao l.length cap := by
  obtain ⟨A, B, C, h⟩ := h; obtain ⟨ao, cap, h, -⟩ := h.sl; exact ⟨ao, cap, h⟩
end Go.Att
namespace Go.Proofs.Ythlnjfnlhgnblaa
open Go.RowKit Go.Att
set_option maxRecDepth 100000 in
set_option maxHeartbeats 4000000 in
theorem wholeAgain_any (w : World) (v : Value) (b : List Int) (h : Byts w v b) (hb : BytesIn b) (h32 : b.length ≤ 4294967296) :
    Calls Try.prog 3 #[v] w fun e w' => e = .returned (.bool true) ∧ Ext w w' := by
  have H := Lib.hid h; have HB := Lib.hid hb; have L := Lib.hid h32
  clear h hb h32
  go_enter Try.func3, Try.ntmps3
  go_wp2_with fail
  refine (bytes_any (vch0_at w 3) vch0_v (by rw [vch0_enc]; decide)).mono ?_
  rintro e w1 ⟨x1, rfl, hx1, hb1⟩
  replace hx1 := (Ext.alloc w (Obj.cells #[.int .i64 1, .int .i64 300] 3)).trans hx1
  have hl1 : ∀ ty w', (Builtin.len_ #[22] ty #[x1]).run Try.prog w' = .ok (.int .i64 15) w' := fun ty w' => by
    have := Sl.run_len (P := Try.prog) hb1 slByts ty w'
    rw [vch0_enc] at this; exact this
  have HB1 := Lib.hid (show Byts w1 x1 (encV vch0) from hb1)
  have HX1 := Lib.hid hx1
  clear hb1 hx1
  go_wp2_with fail
  refine (read_any HB1.out (encV_in _) (by rw [vch0_enc]; decide)).mono ?_
  rintro e w2 (⟨vch, hr, xm, xa, xr, xl, xo, xra, xrb, xrc, xla, xlb, xlc, he, hA, -, hx2⟩ | ⟨hn, -, -⟩)
  rotate_left
  · exact absurd vch0_rd (hn vch0)
  rw [vch0_rd] at hr
  obtain rfl : vch0 = vch := by simpa using hr
  obtain ⟨xm1, xm2, exm⟩ := hA.main.shape
  have exm : xm = .slice xm1 2 xm2 := exm
  subst exm
  obtain ⟨xa1, xa2, exa⟩ := hA.aux.shape
  have exa : xa = .slice xa1 0 xa2 := exa
  subst exa
  obtain ⟨xr1, xr2, exr⟩ := rws_shape (hA.roots)
  have exr : xr = .slice xr1 0 xr2 := exr
  subst exr
  obtain ⟨xl1, xl2, exl⟩ := hA.last.shape
  have exl : xl = .slice xl1 0 xl2 := exl
  subst exl
  obtain ⟨xo1, xo2, exo⟩ := opns_shape (hA.opens)
  have exo : xo = .slice xo1 0 xo2 := exo
  subst exo
  obtain ⟨xra1, xra2, exra⟩ := hA.rows.places.shape
  have exra : xra = .slice xra1 0 xra2 := exra
  subst exra
  obtain ⟨xrb1, xrb2, exrb⟩ := rws_shape (hA.rows.rows)
  have exrb : xrb = .slice xrb1 0 xrb2 := exrb
  subst exrb
  obtain ⟨xrc1, xrc2, exrc⟩ := rws_shape (hA.rows.nodes)
  have exrc : xrc = .slice xrc1 0 xrc2 := exrc
  subst exrc
  obtain ⟨xla1, xla2, exla⟩ := hA.fin.places.shape
  have exla : xla = .slice xla1 0 xla2 := exla
  subst exla
  obtain ⟨xlb1, xlb2, exlb⟩ := rws_shape (hA.fin.rows)
  have exlb : xlb = .slice xlb1 0 xlb2 := exlb
  subst exlb
  obtain ⟨xlc1, xlc2, exlc⟩ := rws_shape (hA.fin.nodes)
  have exlc : xlc = .slice xlc1 0 xlc2 := exlc
  subst exlc
  have he : e = .returned (.tuple #[.agg #[.slice xm1 2 xm2, .slice xa1 0 xa2, .int .i64 0, .slice xr1 0 xr2, .slice xl1 0 xl2, .slice xo1 0 xo2, .slice xra1 0 xra2, .slice xrb1 0 xrb2, .slice xrc1 0 xrc2, .slice xla1 0 xla2, .slice xlb1 0 xlb2, .slice xlc1 0 xlc2], .nilIface]) := he
  subst he
  have hm : Ints w2 (.slice xm1 2 xm2) [1, 300] := hA.main
  have hlm : ∀ ty w', (Builtin.len_ #[24] ty #[.slice xm1 2 xm2]).run Try.prog w' = .ok (.int .i64 2) w' := fun ty w' => hm.run_len (P := Try.prog) slIntY ty w'
  have him : ∀ w', (Instr.indexAt 24 (.slice xm1 2 xm2) (.int .i64 1)).run Try.prog w' = .ok (.pointer (some (elt (.slice xm1 2 xm2) 1 1))) w' := fun w' => hm.run_index (P := Try.prog) slIntY 1 (by simp) w'
  have hxa := Ext.alloc w2 (Obj.cells #[.slice xm1 2 xm2, .slice xa1 0 xa2, .int .i64 0, .slice xr1 0 xr2, .slice xl1 0 xl2, .slice xo1 0 xo2, .slice xra1 0 xra2, .slice xrb1 0 xrb2, .slice xrc1 0 xrc2, .slice xla1 0 xla2, .slice xlb1 0 xlb2, .slice xlc1 0 xlc2] 32)
  have hcm : (w2.alloc (Obj.cells #[.slice xm1 2 xm2, .slice xa1 0 xa2, .int .i64 0, .slice xr1 0 xr2, .slice xl1 0 xl2, .slice xo1 0 xo2, .slice xra1 0 xra2, .slice xrb1 0 xrb2, .slice xrc1 0 xrc2, .slice xla1 0 xla2, .slice xlb1 0 xlb2, .slice xlc1 0 xlc2] 32)).cell? (elt (.slice xm1 2 xm2) 1 1) = some (.int .i64 300) := (hm.ext hxa).cell 1 (by simp)
  have HC := Lib.hid (CellsAt.new w2 [.slice xm1 2 xm2, .slice xa1 0 xa2, .int .i64 0, .slice xr1 0 xr2, .slice xl1 0 xl2, .slice xo1 0 xo2, .slice xra1 0 xra2, .slice xrb1 0 xrb2, .slice xrc1 0 xrc2, .slice xla1 0 xla2, .slice xlb1 0 xlb2, .slice xlc1 0 xlc2] 32)
  have HV := Lib.hid (H.out.ext (HX1.out.trans (hx2.trans hxa)))
  have HX3 := Lib.hid (HX1.out.trans (hx2.trans hxa))
  have HSZ := Lib.hid (Nat.le_trans HX1.out.size hx2.size)
  have hl : ∀ ty w', (Builtin.len_ #[22] ty #[v]).run Try.prog w' = .ok (.int .i64 b.length) w' := fun ty w' => Sl.run_len (P := Try.prog) H.out slByts ty w'
  clear hA hr hm hx2 hxa
  go_wp2_with fail
  refine (read_any (w := (w2.alloc (Obj.cells #[.slice xm1 2 xm2, .slice xa1 0 xa2, .int .i64 0, .slice xr1 0 xr2, .slice xl1 0 xl2, .slice xo1 0 xo2, .slice xra1 0 xra2, .slice xrb1 0 xrb2, .slice xrc1 0 xrc2, .slice xla1 0 xla2, .slice xlb1 0 xlb2, .slice xlc1 0 xlc2] 32))) HV.out HB.out L.out).mono ?_
  rintro e w4 (⟨vch, hr, ym, ya, yr, yl, yo, yra, yrb, yrc, yla, ylb, ylc, he, hA, hst, hx4⟩ | ⟨hn, he, hx4⟩)
  rotate_left
  · have he : e = .returned (.tuple #[.agg #[.slice none 0 0, .slice none 0 0, .int .i64 0, .slice none 0 0, .slice none 0 0, .slice none 0 0, .slice none 0 0, .slice none 0 0, .slice none 0 0, .slice none 0 0, .slice none 0 0, .slice none 0 0], .iface 66 (.int .i64 5)]) := he
    subst he
    have HD := HC.out.grown (hx4.grownBy none) (by simp) (by simp)
    have m0 := HD.at_ 0 (by simp)
    have g0 := HD.fr 0 (by simp)
    have m1 := HD.at_ 1 (by simp)
    have g1 := HD.fr 1 (by simp)
    have m2 := HD.at_ 2 (by simp)
    have g2 := HD.fr 2 (by simp)
    have m3 := HD.at_ 3 (by simp)
    have g3 := HD.fr 3 (by simp)
    have m4 := HD.at_ 4 (by simp)
    have g4 := HD.fr 4 (by simp)
    have m5 := HD.at_ 5 (by simp)
    have g5 := HD.fr 5 (by simp)
    have m6 := HD.at_ 6 (by simp)
    have g6 := HD.fr 6 (by simp)
    have m7 := HD.at_ 7 (by simp)
    have g7 := HD.fr 7 (by simp)
    have m8 := HD.at_ 8 (by simp)
    have g8 := HD.fr 8 (by simp)
    have m9 := HD.at_ 9 (by simp)
    have g9 := HD.fr 9 (by simp)
    have m10 := HD.at_ 10 (by simp)
    have g10 := HD.fr 10 (by simp)
    have m11 := HD.at_ 11 (by simp)
    have g11 := HD.fr 11 (by simp)
    simp only [List.getElem_cons_zero, List.getElem_cons_succ] at m0 m1 m2 m3 m4 m5 m6 m7 m8 m9 m10 m11
    have HF := Lib.hid (Below.grown (HX3.out.trans hx4) (show World.grownBy w4 ((((((((((((w4.setCell ⟨w2.heap.size, 0, none⟩ (.slice none 0 0)).setCell ⟨w2.heap.size, 1, none⟩ (.slice none 0 0)).setCell ⟨w2.heap.size, 2, none⟩ (.int .i64 0)).setCell ⟨w2.heap.size, 3, none⟩ (.slice none 0 0)).setCell ⟨w2.heap.size, 4, none⟩ (.slice none 0 0)).setCell ⟨w2.heap.size, 5, none⟩ (.slice none 0 0)).setCell ⟨w2.heap.size, 6, none⟩ (.slice none 0 0)).setCell ⟨w2.heap.size, 7, none⟩ (.slice none 0 0)).setCell ⟨w2.heap.size, 8, none⟩ (.slice none 0 0)).setCell ⟨w2.heap.size, 9, none⟩ (.slice none 0 0)).setCell ⟨w2.heap.size, 10, none⟩ (.slice none 0 0)).setCell ⟨w2.heap.size, 11, none⟩ (.slice none 0 0)) (some w2.heap.size) from (grown_same (grown_same (grown_same (grown_same (grown_same (grown_same (grown_same (grown_same (grown_same (grown_same (grown_same (setCell_grown _ _ _ _) (setCell_grown _ _ _ _)) (setCell_grown _ _ _ _)) (setCell_grown _ _ _ _)) (setCell_grown _ _ _ _)) (setCell_grown _ _ _ _)) (setCell_grown _ _ _ _)) (setCell_grown _ _ _ _)) (setCell_grown _ _ _ _)) (setCell_grown _ _ _ _)) (setCell_grown _ _ _ _)) (setCell_grown _ _ _ _))) (HX3.out.trans hx4).size (fun k hk => by have := Option.some.inj hk; have := HSZ.out; omega))
    clear HD hx4 hn
    go_wp2_with fail
    go_ret
    exact ⟨rfl, HF.out⟩
  · skip
    obtain ⟨ym1, ym2, eym⟩ := hA.main.shape
    have eym : ym = .slice ym1 vch.main.length ym2 := eym
    subst eym
    obtain ⟨ya1, ya2, eya⟩ := hA.aux.shape
    have eya : ya = .slice ya1 vch.aux.length ya2 := eya
    subst eya
    obtain ⟨yr1, yr2, eyr⟩ := rws_shape (hA.roots)
    have eyr : yr = .slice yr1 vch.roots.length yr2 := eyr
    subst eyr
    obtain ⟨yl1, yl2, eyl⟩ := hA.last.shape
    have eyl : yl = .slice yl1 vch.last.length yl2 := eyl
    subst eyl
    obtain ⟨yo1, yo2, eyo⟩ := opns_shape (hA.opens)
    have eyo : yo = .slice yo1 vch.opens.length yo2 := eyo
    subst eyo
    obtain ⟨yra1, yra2, eyra⟩ := hA.rows.places.shape
    have eyra : yra = .slice yra1 vch.rows.1.length yra2 := eyra
    subst eyra
    obtain ⟨yrb1, yrb2, eyrb⟩ := rws_shape (hA.rows.rows)
    have eyrb : yrb = .slice yrb1 vch.rows.2.1.length yrb2 := eyrb
    subst eyrb
    obtain ⟨yrc1, yrc2, eyrc⟩ := rws_shape (hA.rows.nodes)
    have eyrc : yrc = .slice yrc1 vch.rows.2.2.length yrc2 := eyrc
    subst eyrc
    obtain ⟨yla1, yla2, eyla⟩ := hA.fin.places.shape
    have eyla : yla = .slice yla1 vch.fin.1.length yla2 := eyla
    subst eyla
    obtain ⟨ylb1, ylb2, eylb⟩ := rws_shape (hA.fin.rows)
    have eylb : ylb = .slice ylb1 vch.fin.2.1.length ylb2 := eylb
    subst eylb
    obtain ⟨ylc1, ylc2, eylc⟩ := rws_shape (hA.fin.nodes)
    have eylc : ylc = .slice ylc1 vch.fin.2.2.length ylc2 := eylc
    subst eylc
    subst he
    have HD := HC.out.grown (hx4.grownBy none) (by simp) (by simp)
    have m0 := HD.at_ 0 (by simp)
    have g0 := HD.fr 0 (by simp)
    have m1 := HD.at_ 1 (by simp)
    have g1 := HD.fr 1 (by simp)
    have m2 := HD.at_ 2 (by simp)
    have g2 := HD.fr 2 (by simp)
    have m3 := HD.at_ 3 (by simp)
    have g3 := HD.fr 3 (by simp)
    have m4 := HD.at_ 4 (by simp)
    have g4 := HD.fr 4 (by simp)
    have m5 := HD.at_ 5 (by simp)
    have g5 := HD.fr 5 (by simp)
    have m6 := HD.at_ 6 (by simp)
    have g6 := HD.fr 6 (by simp)
    have m7 := HD.at_ 7 (by simp)
    have g7 := HD.fr 7 (by simp)
    have m8 := HD.at_ 8 (by simp)
    have g8 := HD.fr 8 (by simp)
    have m9 := HD.at_ 9 (by simp)
    have g9 := HD.fr 9 (by simp)
    have m10 := HD.at_ 10 (by simp)
    have g10 := HD.fr 10 (by simp)
    have m11 := HD.at_ 11 (by simp)
    have g11 := HD.fr 11 (by simp)
    simp only [List.getElem_cons_zero, List.getElem_cons_succ] at m0 m1 m2 m3 m4 m5 m6 m7 m8 m9 m10 m11
    have HG := Lib.hid (show World.grownBy w4 ((((((((((((w4.setCell ⟨w2.heap.size, 0, none⟩ (.slice ym1 vch.main.length ym2)).setCell ⟨w2.heap.size, 1, none⟩ (.slice ya1 vch.aux.length ya2)).setCell ⟨w2.heap.size, 2, none⟩ (.int .i64 vch.tries)).setCell ⟨w2.heap.size, 3, none⟩ (.slice yr1 vch.roots.length yr2)).setCell ⟨w2.heap.size, 4, none⟩ (.slice yl1 vch.last.length yl2)).setCell ⟨w2.heap.size, 5, none⟩ (.slice yo1 vch.opens.length yo2)).setCell ⟨w2.heap.size, 6, none⟩ (.slice yra1 vch.rows.1.length yra2)).setCell ⟨w2.heap.size, 7, none⟩ (.slice yrb1 vch.rows.2.1.length yrb2)).setCell ⟨w2.heap.size, 8, none⟩ (.slice yrc1 vch.rows.2.2.length yrc2)).setCell ⟨w2.heap.size, 9, none⟩ (.slice yla1 vch.fin.1.length yla2)).setCell ⟨w2.heap.size, 10, none⟩ (.slice ylb1 vch.fin.2.1.length ylb2)).setCell ⟨w2.heap.size, 11, none⟩ (.slice ylc1 vch.fin.2.2.length ylc2)) (some w2.heap.size) from (grown_same (grown_same (grown_same (grown_same (grown_same (grown_same (grown_same (grown_same (grown_same (grown_same (grown_same (setCell_grown _ _ _ _) (setCell_grown _ _ _ _)) (setCell_grown _ _ _ _)) (setCell_grown _ _ _ _)) (setCell_grown _ _ _ _)) (setCell_grown _ _ _ _)) (setCell_grown _ _ _ _)) (setCell_grown _ _ _ _)) (setCell_grown _ _ _ _)) (setCell_grown _ _ _ _)) (setCell_grown _ _ _ _)) (setCell_grown _ _ _ _)))
    have HF : Hid (Ext w ((((((((((((w4.setCell ⟨w2.heap.size, 0, none⟩ (.slice ym1 vch.main.length ym2)).setCell ⟨w2.heap.size, 1, none⟩ (.slice ya1 vch.aux.length ya2)).setCell ⟨w2.heap.size, 2, none⟩ (.int .i64 vch.tries)).setCell ⟨w2.heap.size, 3, none⟩ (.slice yr1 vch.roots.length yr2)).setCell ⟨w2.heap.size, 4, none⟩ (.slice yl1 vch.last.length yl2)).setCell ⟨w2.heap.size, 5, none⟩ (.slice yo1 vch.opens.length yo2)).setCell ⟨w2.heap.size, 6, none⟩ (.slice yra1 vch.rows.1.length yra2)).setCell ⟨w2.heap.size, 7, none⟩ (.slice yrb1 vch.rows.2.1.length yrb2)).setCell ⟨w2.heap.size, 8, none⟩ (.slice yrc1 vch.rows.2.2.length yrc2)).setCell ⟨w2.heap.size, 9, none⟩ (.slice yla1 vch.fin.1.length yla2)).setCell ⟨w2.heap.size, 10, none⟩ (.slice ylb1 vch.fin.2.1.length ylb2)).setCell ⟨w2.heap.size, 11, none⟩ (.slice ylc1 vch.fin.2.2.length ylc2))) := Lib.hid (Below.grown (HX3.out.trans hx4) HG.out (HX3.out.trans hx4).size (fun k hk => by have := Option.some.inj hk; have := HSZ.out; omega))
    have HVC := Lib.hid (hst _ _ HG.out (by simp))
    have HDD : CellsAt ((((((((((((w4.setCell ⟨w2.heap.size, 0, none⟩ (.slice ym1 vch.main.length ym2)).setCell ⟨w2.heap.size, 1, none⟩ (.slice ya1 vch.aux.length ya2)).setCell ⟨w2.heap.size, 2, none⟩ (.int .i64 vch.tries)).setCell ⟨w2.heap.size, 3, none⟩ (.slice yr1 vch.roots.length yr2)).setCell ⟨w2.heap.size, 4, none⟩ (.slice yl1 vch.last.length yl2)).setCell ⟨w2.heap.size, 5, none⟩ (.slice yo1 vch.opens.length yo2)).setCell ⟨w2.heap.size, 6, none⟩ (.slice yra1 vch.rows.1.length yra2)).setCell ⟨w2.heap.size, 7, none⟩ (.slice yrb1 vch.rows.2.1.length yrb2)).setCell ⟨w2.heap.size, 8, none⟩ (.slice yrc1 vch.rows.2.2.length yrc2)).setCell ⟨w2.heap.size, 9, none⟩ (.slice yla1 vch.fin.1.length yla2)).setCell ⟨w2.heap.size, 10, none⟩ (.slice ylb1 vch.fin.2.1.length ylb2)).setCell ⟨w2.heap.size, 11, none⟩ (.slice ylc1 vch.fin.2.2.length ylc2)) w2.heap.size [.slice ym1 vch.main.length ym2, .slice ya1 vch.aux.length ya2, .int .i64 vch.tries, .slice yr1 vch.roots.length yr2, .slice yl1 vch.last.length yl2, .slice yo1 vch.opens.length yo2, .slice yra1 vch.rows.1.length yra2, .slice yrb1 vch.rows.2.1.length yrb2, .slice yrc1 vch.rows.2.2.length yrc2, .slice yla1 vch.fin.1.length yla2, .slice ylb1 vch.fin.2.1.length ylb2, .slice ylc1 vch.fin.2.2.length ylc2] := ((((((((((((HD.set 0 (by simp) (.slice ym1 vch.main.length ym2)).set 1 (by simp) (.slice ya1 vch.aux.length ya2)).set 2 (by simp) (.int .i64 vch.tries)).set 3 (by simp) (.slice yr1 vch.roots.length yr2)).set 4 (by simp) (.slice yl1 vch.last.length yl2)).set 5 (by simp) (.slice yo1 vch.opens.length yo2)).set 6 (by simp) (.slice yra1 vch.rows.1.length yra2)).set 7 (by simp) (.slice yrb1 vch.rows.2.1.length yrb2)).set 8 (by simp) (.slice yrc1 vch.rows.2.2.length yrc2)).set 9 (by simp) (.slice yla1 vch.fin.1.length yla2)).set 10 (by simp) (.slice ylb1 vch.fin.2.1.length ylb2)).set 11 (by simp) (.slice ylc1 vch.fin.2.2.length ylc2))
    have k0 := HDD.at_ 0 (by simp)
    have k1 := HDD.at_ 1 (by simp)
    have k2 := HDD.at_ 2 (by simp)
    have k3 := HDD.at_ 3 (by simp)
    have k4 := HDD.at_ 4 (by simp)
    have k5 := HDD.at_ 5 (by simp)
    have k6 := HDD.at_ 6 (by simp)
    have k7 := HDD.at_ 7 (by simp)
    have k8 := HDD.at_ 8 (by simp)
    have k9 := HDD.at_ 9 (by simp)
    have k10 := HDD.at_ 10 (by simp)
    have k11 := HDD.at_ 11 (by simp)
    simp only [List.getElem_cons_zero, List.getElem_cons_succ] at k0 k1 k2 k3 k4 k5 k6 k7 k8 k9 k10 k11
    have HR : Hid (b = encV vch ∧ VcV vch) := Lib.hid (by obtain ⟨h1, h2⟩ := rdV_back _ _ _ HB.out hr; exact ⟨by rw [h1, List.append_nil], h2⟩)
    have HVB := Lib.hid (show Byts ((((((((((((w4.setCell ⟨w2.heap.size, 0, none⟩ (.slice ym1 vch.main.length ym2)).setCell ⟨w2.heap.size, 1, none⟩ (.slice ya1 vch.aux.length ya2)).setCell ⟨w2.heap.size, 2, none⟩ (.int .i64 vch.tries)).setCell ⟨w2.heap.size, 3, none⟩ (.slice yr1 vch.roots.length yr2)).setCell ⟨w2.heap.size, 4, none⟩ (.slice yl1 vch.last.length yl2)).setCell ⟨w2.heap.size, 5, none⟩ (.slice yo1 vch.opens.length yo2)).setCell ⟨w2.heap.size, 6, none⟩ (.slice yra1 vch.rows.1.length yra2)).setCell ⟨w2.heap.size, 7, none⟩ (.slice yrb1 vch.rows.2.1.length yrb2)).setCell ⟨w2.heap.size, 8, none⟩ (.slice yrc1 vch.rows.2.2.length yrc2)).setCell ⟨w2.heap.size, 9, none⟩ (.slice yla1 vch.fin.1.length yla2)).setCell ⟨w2.heap.size, 10, none⟩ (.slice ylb1 vch.fin.2.1.length ylb2)).setCell ⟨w2.heap.size, 11, none⟩ (.slice ylc1 vch.fin.2.2.length ylc2)) v b from H.out.ext HF.out)
    clear HD hx4 hst hA hr HDD
    go_wp2_with fail
    refine (bytes_any HVC.out HR.out.2 (by rw [← HR.out.1]; exact L.out)).mono ?_
    rintro e w6 ⟨x6, rfl, hx6, hb6⟩
    have hb6' : Byts w6 x6 b := by have := HR.out.1; rw [this]; exact hb6
    have HB6 := Lib.hid hb6'
    have HVB6 := Lib.hid (HVB.out.ext hx6)
    have HX6 := Lib.hid (HF.out.trans hx6)
    have hl6 : ∀ ty w', (Builtin.len_ #[22] ty #[x6]).run Try.prog w' = .ok (.int .i64 b.length) w' := fun ty w' => Sl.run_len (P := Try.prog) hb6' slByts ty w'
    have hbb : ((b.length : Int) != (b.length : Int)) = false := by simp
    have hlb : b.length ≤ 4294967296 := L.out
    clear hb6 hb6' hx6 m0 m1 m2 m3 m4 m5 m6 m7 m8 m9 m10 m11 g0 g1 g2 g3 g4 g5 g6 g7 g8 g9 g10 g11 k0 k1 k2 k3 k4 k5 k6 k7 k8 k9 k10 k11 hlm him hcm hl1

    go_wp2_with fail
    go_loopw [6] (fun x5 wr => ∃ i m : Nat, i ≤ b.length ∧ x5 = .int .i64 i ∧ wr = w6.drewN m) (fun x5 _ => b.length - (intOf x5).toNat)
    case atStart => exact ⟨0, 0, Nat.zero_le _, rfl, rfl⟩
    case round =>
      obtain ⟨i, m, hi, rfl, rfl⟩ := hrel
      by_cases hil : i < b.length
      · have hix := HB6.out.run_index (P := Try.prog) slByts i hil
        have hc := HB6.out.cell i hil
        have hix2 := HVB6.out.run_index (P := Try.prog) slByts i hil
        have hc2 := HVB6.out.cell i hil
        have hb2 : (nth b i != nth b i) = false := by simp
        go_wp2_with fail
        go_quiet (fail)
        go_wp2_with fail
        go_roundw
        case rel => exact ⟨i + 1, _, by omega, by go_num, rfl⟩
        case measure => simp [intOf]; omega
      · obtain rfl : i = b.length := by omega
        go_wp2_with fail
        go_ret
        exact ⟨rfl, HX6.out.trans (Ext.drewN _ _)⟩
end Go.Proofs.Ythlnjfnlhgnblaa
