/- RulesBroken: the program's side: what all rules say of a row and the next one. -/
import Derived.Test.YtnmjaddhbecopaaGreatDoorKq
attribute [local go_sem ↓] Go.wp_at_zero Go.wp_at_succ
namespace Go.Att
open Go.RowKit
/-- The judge's block, its row and its next one open. -/
structure JBox (w : World) (q : Nat) (f : Value) (sz out : Int) (lv : Value) : Prop where
  c0 : w.cell? ⟨q, 0, none⟩ = some f
  c1 : w.cell? ⟨q, 1, none⟩ = some (.int .i64 sz)
  c2 : w.cell? ⟨q, 2, none⟩ = some lv
  c3 : w.cell? ⟨q, 3, none⟩ = some (.int .i64 out)
  c4 : ∃ v, w.cell? ⟨q, 4, none⟩ = some v
  c5 : ∃ v, w.cell? ⟨q, 5, none⟩ = some v
  f4 : w.frozen? ⟨q, 4, none⟩ = false
  f5 : w.frozen? ⟨q, 5, none⟩ = false
/-- The world with the row and the next one laid. -/
def jset (w : World) (q : Nat) (rv nv : Value) : World := (w.setCell ⟨q, 4, none⟩ rv).setCell ⟨q, 5, none⟩ nv
theorem JBox.at {w w0 : World} {q : Nat} {f : Value} {sz out : Int} {lv rv nv : Value} {p g : Int} {fs : List Int} {cd : List In4} {r n : List Int} (h : JBox w q f sz out lv) (hx : Ext w0 w) (hq : w0.heap.size ≤ q)
    (hf : Fld w0 f p g fs) (hc : Inqs w0 lv cd) (hr : Ints w0 rv r) (hn : Ints w0 nv n) (lr : r.length = 20 + cd.length) (ln : n.length = 20 + cd.length) :
    JAt (jset w q rv nv) q f p g fs sz out cd lv rv nv r n ∧ Ext w0 (jset w q rv nv) := by
  have hx1 : Ext w0 (jset w q rv nv) := Below.setCell (Below.setCell hx hq rv) hq nv
  obtain ⟨v4, c4⟩ := h.c4
  obtain ⟨v5, c5⟩ := h.c5
  refine ⟨⟨?_, ?_, ?_, ?_, ?_, ?_, hf.ext hx1, hc.ext hx1, hr.ext hx1, hn.ext hx1, lr, ln⟩, hx1⟩
  · unfold jset; rw [World.cell?_setCell_other _ _ _ _ (by simp), World.cell?_setCell_other _ _ _ _ (by simp)]; exact h.c0
  · unfold jset; rw [World.cell?_setCell_other _ _ _ _ (by simp), World.cell?_setCell_other _ _ _ _ (by simp)]; exact h.c1
  · unfold jset; rw [World.cell?_setCell_other _ _ _ _ (by simp), World.cell?_setCell_other _ _ _ _ (by simp)]; exact h.c2
  · unfold jset; rw [World.cell?_setCell_other _ _ _ _ (by simp), World.cell?_setCell_other _ _ _ _ (by simp)]; exact h.c3
  · unfold jset; rw [World.cell?_setCell_other _ _ _ _ (by simp)]; exact World.cell?_setCell_same _ _ _ c4
  · unfold jset; exact World.cell?_setCell_same _ _ _ (by rw [World.cell?_setCell_other _ _ _ _ (by simp)]; exact c5)
/-- What Rules gives. -/
def RulesGot (w : World) (q : Nat) (rv nv : Value) (l : List Int) (e : Ending) (w' : World) : Prop := ∃ v T, e = .returned v ∧ Ext (jset w q rv nv) w' ∧ OwnL (jset w q rv nv) T w' v l
/-- The first rules, so many. -/
def headT (p : Int) (r : List Int) (i : Nat) : List Int := (List.range i).map fun k => fsub p (fmul p (nth r (20 + k)) (nth r (20 + k))) (nth r (20 + k))
theorem headT_len (p : Int) (r : List Int) (i : Nat) : (headT p r i).length = i := by simp [headT]
theorem headT_succ (p : Int) (r : List Int) (i : Nat) : headT p r (i + 1) = headT p r i ++ [fsub p (fmul p (nth r (20 + i)) (nth r (20 + i))) (nth r (20 + i))] := by simp [headT, List.range_succ]
/-- The rules of cells, so many. -/
def cellT (p : Int) (r : List Int) (cd : List In4) (i : Nat) : List Int := (List.range i).map fun k => fsub p (nth r (3 + k)) (sumK p r cd (cellK p r k) cd.length)
theorem cellT_len (p : Int) (r : List Int) (cd : List In4) (i : Nat) : (cellT p r cd i).length = i := by simp [cellT]
theorem cellT_succ (p : Int) (r : List Int) (cd : List In4) (i : Nat) : cellT p r cd (i + 1) = cellT p r cd i ++ [fsub p (nth r (3 + i)) (sumK p r cd (cellK p r i) cd.length)] := by simp [cellT, List.range_succ]
/-- The rules of the row's own order, so many times two. -/
def ordT (p : Int) (r : List Int) (i : Nat) : List Int := (List.range i).flatMap fun k => ordK p (nth r (12 + k)) (nth r (16 + k)) (nth r (13 + k)) (nth r (17 + k))
theorem ordT_len (p : Int) (r : List Int) (i : Nat) : (ordT p r i).length = i * 2 := by
  unfold ordT
  induction i with
  | zero => rfl
  | succ k ih => rw [List.range_succ, List.flatMap_append, List.length_append, ih]; simp [ordK]; omega
theorem ordT_succ (p : Int) (r : List Int) (i : Nat) : ordT p r (i + 1) = ordT p r i ++ ordK p (nth r (12 + i)) (nth r (16 + i)) (nth r (13 + i)) (nth r (17 + i)) := by simp [ordT, List.range_succ]
theorem rules_join (p sz out : Int) (cd : List In4) (r n : List Int) :
    (((((((((headT p r cd.length ++ [fsub p (sumK p r cd oneK cd.length) 1]) ++ cellT p r cd 3) ++ [sumK p r cd (doesK p r) cd.length, sumK p r cd (moreK p r) cd.length]) ++ ordT p r 3) ++ [fsub p (numK p n cd.length) (sumK p r cd (goesK p r) cd.length)]) ++
      [fsub p (nth n 0) (sumK p r cd (fpK p r) cd.length), fsub p (nth n 1) (sumK p r cd (apK p r) cd.length), fsub p (nth n 2) (sumK p r cd (rvK r) cd.length)]) ++ ordK p (nth r 15) (nth r 19) (nth n 12) (nth n 16)) ++
      [fsub p (nth r 20) 1, fsub p (nth r 0) 1, fsub p (fsub p (nth r 1) 1) sz, fof p (nth r 2), fof p (nth r 12), fof p (nth r 16)]) ++ [fsub p (sumK p r cd haltK cd.length) 1, fsub p (nth r 7) out]) = rulesK p sz out cd r n := by
  have e1 : headT p r cd.length = headK p cd r := rfl
  have e2 : cellT p r cd 3 = [fsub p (nth r 3) (sumK p r cd (cellK p r 0) cd.length), fsub p (nth r 4) (sumK p r cd (cellK p r 1) cd.length), fsub p (nth r 5) (sumK p r cd (cellK p r 2) cd.length)] := rfl
  have e3 : ordT p r 3 = ordK p (nth r 12) (nth r 16) (nth r 13) (nth r 17) ++ ordK p (nth r 13) (nth r 17) (nth r 14) (nth r 18) ++ ordK p (nth r 14) (nth r 18) (nth r 15) (nth r 19) := by
    simp [ordT, List.range_succ]
  rw [e1, e2, e3]
  simp [rulesK, tailK, List.append_assoc]
end Go.Att
namespace Go.Proofs.YtnmjaddhbecopaaGreatDoor
open Go.RowKit Go.Att
section
variable {w : World} {q : Nat} {f : Value} {p g : Int} {fs : List Int} {sz out : Int} {cd : List In4} {lv rv nv : Value} {r n : List Int}
set_option maxRecDepth 100000 in
set_option maxHeartbeats 16000000 in
theorem jrules_any {w0 : World} (hb : JBox w q f sz out lv) (hx : Ext w0 w) (hq : w0.heap.size ≤ q) (hf : Fld w0 f p g fs) (hc : Inqs w0 lv cd) (hr : Ints w0 rv r) (hn : Ints w0 nv n) (lr : r.length = 20 + cd.length) (ln : n.length = 20 + cd.length) (hs : cd.length ≤ 1048576) (h1 : 1 ≤ cd.length) :
    Calls Tryz.prog 107 #[.pointer (some ⟨q, 0, none⟩), rv, nv] w (RulesGot w q rv nv (rulesK p sz out cd r n)) := by
  have hmf : ∀ (fn : Fn) (first cap : Array Value) (w : World), (Instr.makeFunc fn first cap).run Tryz.prog w = .ok (.func fn first cap) w := fun _ _ _ _ => rfl
  have HJ := Lib.hid (hb.at hx hq hf hc hr hn lr ln).1
  have hll := hc.run_len (P := Tryz.prog) slIns
  have HLR := Lib.hid lr
  have HLN := Lib.hid ln
  obtain ⟨ar, cr, hrv⟩ := hr.shape
  obtain ⟨an, cn, hnv⟩ := hn.shape
  obtain ⟨⟨v4, c4⟩, ⟨v5, c5⟩, f4, f5⟩ : (∃ v, w.cell? ⟨q, 4, none⟩ = some v) ∧ (∃ v, w.cell? ⟨q, 5, none⟩ = some v) ∧ w.frozen? ⟨q, 4, none⟩ = false ∧ w.frozen? ⟨q, 5, none⟩ = false := ⟨hb.c4, hb.c5, hb.f4, hb.f5⟩
  have HWW := Lib.hid (show (w.setCell ⟨q, 4, none⟩ rv).setCell ⟨q, 5, none⟩ nv = jset w q rv nv from rfl)
  have HRV := Lib.hid hrv
  have HNV := Lib.hid hnv
  rw [hrv, hnv]
  clear hb hf hc hr hn lr ln hrv hnv
  generalize r.length = rl at HRV ⊢
  generalize n.length = nl at HNV ⊢
  go_enter Tryz.func107, Tryz.ntmps107
  go_upto_region 3 with (fail)
  rw [← HRV.out, ← HNV.out, HWW.out]
  have HGOT : Hid (∀ v w', Ext (jset w q rv nv) w' → OwnL (jset w q rv nv) 3 w' v (rulesK p sz out cd r n) → RulesGot w q (.slice ar rl cr) (.slice an nl cn) (rulesK p sz out cd r n) (.returned v) w') := Lib.hid (fun v w' h1 h2 => by rw [← HRV.out, ← HNV.out]; exact ⟨v, _, rfl, h1, h2⟩)
  generalize jset w q rv nv = W1 at *
  clear HRV HNV HWW c4 c5 f4 f5 hx hq
  have c2 := HJ.out.c2
  go_wp2_with fail
  clear c2
  go_loopw [7, 28] (fun x7 x28 wr => ∃ i : Nat, i ≤ cd.length ∧ x28 = .int .i64 i ∧ Hid (Ext W1 wr) ∧ Hid (OwnL W1 3 wr x7 (headT p r i))) (fun _ x28 _ => cd.length - (intOf x28).toNat)
  case atStart => exact ⟨0, Nat.zero_le _, rfl, Lib.hid (Ext.refl _), Lib.hid (OwnL.nil _ _ _)⟩
  case round =>
    obtain ⟨i, hi, rfl, HX, HO⟩ := hrel
    by_cases hil : i < cd.length
    · have hri : ∀ w', (Instr.indexAt 23 rv (.int .i64 (20 + (i : Int)))).run Tryz.prog w' = .ok (.pointer (some (elt rv (20 + i) 1))) w' := by
        intro w'
        have := HJ.out.row.run_index (P := Tryz.prog) slInts (20 + i) (by have := HLR.out; omega) w'
        simpa using this
      have d := HX.out.cell (HJ.out.row.cell (20 + i) (by have := HLR.out; omega))
      have c0 := HX.out.cell HJ.out.c0
      have HF := Lib.hid (HJ.out.fld.ext HX.out)
      have HS := Lib.hid (headT_succ p r i)
      have HLL := Lib.hid (headT_len p r i)
      generalize headT p r i = l0 at *
      generalize nth r (20 + i) = s0 at *
      go_wp2_with fail
      refine wp_region_move_quiet_tail 14 _ (by kernel_rfl) rfl rfl (by kernel_rfl) ?_
      simp only [List.take_succ_cons, List.take_zero, List.drop_succ_cons, List.drop_zero]
      repeat (go_big_quiet_step ((first | (go_at_call 123; exact mul_q HF.out _ _ _) | (go_at_call 179; exact sub_q HF.out _ _ _))))
      refine wpQuiet_nil ?_
      rintro _ ⟨nq, rfl⟩
      have hxq := HX.out.trans (Ext.drewN wr nq)
      have hoq := HO.out.ext (Ext.drewN wr nq)
      have hl1 : l0.length + 1 ≤ 4294967296 := by rw [HLL.out]; omega
      clear c0 d hri
      go_wp2_with (at_builtin; refine wpList_grow rfl _ _ 23 rfl slInts hxq hoq rfl [fsub p (fmul p s0 s0) s0] 1 rfl (by omega) rfl hl1 ?_; intro v4 w4 HO4 HX4)
      refine NoPan.normal ?_
      have HO5 := Lib.hid HO4; have HX5 := Lib.hid HX4
      clear HO4 HX4 hxq hoq hl1
      go_wp2_with fail
      go_roundw
      case rel => exact ⟨i + 1, by omega, by go_num, HX5, by rw [HS.out]; exact HO5⟩
      case measure => simp [intOf]; omega
    · obtain rfl : i = cd.length := by omega
      go_wp2_with fail
      generalize wr = Wa at *
      generalize u7 = va at *
      have HLa := Lib.hid (headT_len p r cd.length)
      generalize hla : headT p r cd.length = la at *
      have HLA := Lib.hid hla
      clear hla hi hil
      have c0 := HX.out.cell HJ.out.c0
      have hlen : la.length + 1 ≤ 4294967296 := by rw [HLa.out]; omega
      go_region_held3 (fun w' => w'.cell? ⟨q, 0, none⟩ = some f) (first | exact HX4.cell HJ.out.c0 | exact (hx2.trans (Ext.alloc _ _)).cell c0 | exact hx2.cell c0 | exact hxc.cell c0 | go_keep) (first | (go_at_call 183; refine (jsum_one (HJ.out.ext (HX.out.trans (Ext.drew _))) hs).mono ?_; rintro e w1 ⟨rfl, hxa⟩; have hxc := (Ext.drew Wa).trans hxa) | (go_at_call 179; refine (sub_any (HJ.out.fld.ext (HX.out.trans hxc)) _ _).mono ?_; rintro e w2 ⟨rfl, z1, rfl⟩; have hx2 := hxc.trans (Ext.drewN w1 z1)) | (refine step_grow rfl _ _ 23 rfl slInts (HX.out.trans hx2) (HO.out.ext hx2) rfl [fsub p (sumK p r cd oneK cd.length) 1] 1 rfl (by omega) rfl hlen ?_; intro v4 w4 HO4 HX4))
      have HOb := Lib.hid HO4; have HXb := Lib.hid HX4
      clear HO4 HX4 hxa hxc hx2 HX HO c0 hlen
      go_wp2_with fail
      generalize w4 = Wb at *
      generalize v4 = vb at *
      generalize hlb : la ++ [fsub p (sumK p r cd oneK cd.length) 1] = lb at *
      have HLb := Lib.hid (show lb.length = cd.length + 1 by rw [← hlb, List.length_append, HLa.out]; rfl)
      have HLB := Lib.hid hlb
      clear hlb
      go_loopw [7, 63] (fun x7 x63 wr => ∃ t : Nat, t ≤ 3 ∧ x63 = .int .i64 t ∧ Hid (Ext W1 wr) ∧ Hid (OwnL W1 3 wr x7 (lb ++ cellT p r cd t))) (fun _ x63 _ => 3 - (intOf x63).toNat)
      case atStart => exact ⟨0, by omega, rfl, HXb, Lib.hid (by have := HOb.out; simpa [cellT] using this)⟩
      case round =>
        clear HOb HXb
        obtain ⟨t, ht, rfl, HX, HO⟩ := hrel
        by_cases htl : t < 3
        · have hri : ∀ w', (Instr.indexAt 23 rv (.int .i64 (3 + (t : Int)))).run Tryz.prog w' = .ok (.pointer (some (elt rv (3 + t) 1))) w' := by
            intro w'
            have := HJ.out.row.run_index (P := Tryz.prog) slInts (3 + t) (by have := HLR.out; omega) w'
            simpa using this
          have HS := Lib.hid (show lb ++ cellT p r cd (t + 1) = (lb ++ cellT p r cd t) ++ [fsub p (nth r (3 + t)) (sumK p r cd (cellK p r t) cd.length)] by rw [cellT_succ, List.append_assoc])
          have hlen : (lb ++ cellT p r cd t).length + 1 ≤ 4294967296 := by rw [List.length_append, cellT_len, HLb.out]; omega
          have HJT := Lib.hid (show (t = 0 ∧ (t : Int) = 0) ∨ (t = 1 ∧ (t : Int) = 1) ∨ (t = 2 ∧ (t : Int) = 2) by omega)
          have hd := HJ.out.row.cell (3 + t) (by have := HLR.out; omega)
          have HD := Lib.hid hd
          have d := HX.out.cell hd
          have c0 := HX.out.cell HJ.out.c0
          have hwr : IntKind.i64.wrap (3 + (t : Int)) = 3 + (t : Int) := IntWalk.i64_in _ (by omega)
          clear hd
          generalize lb ++ cellT p r cd t = lt at *
          generalize nth r (3 + t) = y at *
          go_wp2_with fail
          generalize wr = Wt at *
          go_region_held3 (fun w' => w'.cell? ⟨q, 0, none⟩ = some f ∧ w'.cell? (elt rv (3 + t) 1) = some (.int .i64 y)) (first | exact ⟨HX4.cell HJ.out.c0, HX4.cell HD.out⟩ | exact ⟨(hx3.trans (Ext.alloc _ _)).cell c0, (hx3.trans (Ext.alloc _ _)).cell d⟩ | exact ⟨hx3.cell c0, hx3.cell d⟩ | exact ⟨hx2.cell c0, hx2.cell d⟩ | exact ⟨hx1.cell c0, hx1.cell d⟩ | go_keep) (first | (go_at_call 185; refine (jcellf_any q _ _).mono ?_; rintro e w1 ⟨q1, q2, rfl, hxa, hq1, hq2⟩; have hx1 := (Ext.drew Wt).trans hxa) | (go_at_call 183; refine (jsum_cell (HJ.out.ext (HX.out.trans hx1)) q1 q2 hq1 t (t : Int) hq2 HJT.out hs).mono ?_; rintro e w2 ⟨rfl, hxb⟩; have hx2 := hx1.trans hxb) | (go_at_call 179; refine (sub_any (HJ.out.fld.ext (HX.out.trans hx2)) _ _).mono ?_; rintro e w3 ⟨rfl, z1, rfl⟩; have hx3 := hx2.trans (Ext.drewN w2 z1)) | (refine step_grow rfl _ _ 23 rfl slInts (HX.out.trans hx3) (HO.out.ext hx3) rfl [fsub p y (sumK p r cd (cellK p r t) cd.length)] 1 rfl (by omega) rfl hlen ?_; intro v4 w4 HO4 HX4))
          have HO5 := Lib.hid HO4; have HX5 := Lib.hid HX4
          clear HO4 HX4 hxa hxb hx1 hx2 hx3 hq1 hq2 HX HO c0 d hlen hwr hri
          go_wp2_with fail
          go_roundw
          case rel => exact ⟨t + 1, by omega, by go_num, HX5, by rw [HS.out]; exact HO5⟩
          case measure => simp [intOf]; omega
        · obtain rfl : t = 3 := by omega
          generalize wr = Wc at *
          generalize u7 = vc at *
          clear ht htl
          generalize hlc : lb ++ cellT p r cd 3 = lc at *
          have HLc := Lib.hid (show lc.length = cd.length + 4 by rw [← hlc, List.length_append, HLb.out, cellT_len])
          have HLC := Lib.hid hlc
          clear hlc
          go_wp2_with fail
          refine (jsum_does (HJ.out.ext HX.out) hs).mono ?_
          rintro e w1 ⟨rfl, hx1⟩
          have HX1 := Lib.hid (HX.out.trans hx1)
          have HO1 := Lib.hid (HO.out.ext hx1)
          clear hx1 HX HO
          go_wp2_with fail
          refine (jsum_more (HJ.out.ext HX1.out) hs).mono ?_
          rintro e w2 ⟨rfl, hx2⟩
          have HX2 := Lib.hid (HX1.out.trans hx2)
          have HO2 := Lib.hid (HO1.out.ext hx2)
          have hlen : lc.length + 2 ≤ 4294967296 := by rw [HLc.out]; omega
          clear hx2 HX1 HO1
          go_wp2_with (at_builtin; refine wpList_grow rfl _ _ 23 rfl slInts HX2.out HO2.out rfl [sumK p r cd (doesK p r) cd.length, sumK p r cd (moreK p r) cd.length] 2 rfl (by omega) rfl hlen ?_; intro v4 w4 HO4 HX4)
          have HX := Lib.hid HX4
          have HO := Lib.hid HO4
          clear HX2 HO2 hlen HO4 HX4
          generalize hld : lc ++ [sumK p r cd (doesK p r) cd.length, sumK p r cd (moreK p r) cd.length] = ld at *
          have HLd := Lib.hid (show ld.length = cd.length + 6 by rw [← hld, List.length_append, HLc.out]; rfl)
          have HLD := Lib.hid hld
          clear hld
          generalize w4 = Wd at *
          generalize v4 = vd at *
          go_loopw [7, 96] (fun x7 x96 wr => ∃ t : Nat, t ≤ 3 ∧ x96 = .int .i64 t ∧ Hid (Ext W1 wr) ∧ Hid (OwnL W1 3 wr x7 (ld ++ ordT p r t))) (fun _ x96 _ => 3 - (intOf x96).toNat)
          case atStart => exact ⟨0, by omega, rfl, HX, Lib.hid (by have := HO.out; simpa [ordT] using this)⟩
          case round =>
            clear HO HX
            obtain ⟨t, ht, rfl, HX, HO⟩ := hrel
            by_cases htl : t < 3
            · have r1 : ∀ w', (Instr.indexAt 23 rv (.int .i64 (12 + (t : Int)))).run Tryz.prog w' = .ok (.pointer (some (elt rv (12 + t) 1))) w' := by
                intro w'; have := HJ.out.row.run_index (P := Tryz.prog) slInts (12 + t) (by have := HLR.out; omega) w'; simpa using this
              have r2 : ∀ w', (Instr.indexAt 23 rv (.int .i64 (16 + (t : Int)))).run Tryz.prog w' = .ok (.pointer (some (elt rv (16 + t) 1))) w' := by
                intro w'; have := HJ.out.row.run_index (P := Tryz.prog) slInts (16 + t) (by have := HLR.out; omega) w'; simpa using this
              have r3 : ∀ w', (Instr.indexAt 23 rv (.int .i64 (12 + (t : Int) + 1))).run Tryz.prog w' = .ok (.pointer (some (elt rv (13 + t) 1))) w' := by
                intro w'; have := HJ.out.row.run_index (P := Tryz.prog) slInts (13 + t) (by have := HLR.out; omega) w'; rw [show ((13 + t : Nat) : Int) = 12 + (t : Int) + 1 by omega] at this; exact this
              have r4 : ∀ w', (Instr.indexAt 23 rv (.int .i64 (16 + (t : Int) + 1))).run Tryz.prog w' = .ok (.pointer (some (elt rv (17 + t) 1))) w' := by
                intro w'; have := HJ.out.row.run_index (P := Tryz.prog) slInts (17 + t) (by have := HLR.out; omega) w'; rw [show ((17 + t : Nat) : Int) = 16 + (t : Int) + 1 by omega] at this; exact this
              have d1 := HX.out.cell (HJ.out.row.cell (12 + t) (by have := HLR.out; omega))
              have d2 := HX.out.cell (HJ.out.row.cell (16 + t) (by have := HLR.out; omega))
              have d3 := HX.out.cell (HJ.out.row.cell (13 + t) (by have := HLR.out; omega))
              have d4 := HX.out.cell (HJ.out.row.cell (17 + t) (by have := HLR.out; omega))
              have u1 : IntKind.i64.wrap (12 + (t : Int)) = 12 + (t : Int) := IntWalk.i64_in _ (by omega)
              have u2 : IntKind.i64.wrap (16 + (t : Int)) = 16 + (t : Int) := IntWalk.i64_in _ (by omega)
              have u3 : IntKind.i64.wrap (12 + (t : Int) + 1) = 12 + (t : Int) + 1 := IntWalk.i64_in _ (by omega)
              have u4 : IntKind.i64.wrap (16 + (t : Int) + 1) = 16 + (t : Int) + 1 := IntWalk.i64_in _ (by omega)
              have HS := Lib.hid (show ld ++ ordT p r (t + 1) = (ld ++ ordT p r t) ++ ordK p (nth r (12 + t)) (nth r (16 + t)) (nth r (13 + t)) (nth r (17 + t)) by rw [ordT_succ, List.append_assoc])
              have hlen : (ld ++ ordT p r t).length + 2 ≤ 4294967296 := by rw [List.length_append, ordT_len, HLd.out]; omega
              generalize ld ++ ordT p r t = lt at *
              generalize nth r (12 + t) = y1 at *
              generalize nth r (16 + t) = y2 at *
              generalize nth r (13 + t) = y3 at *
              generalize nth r (17 + t) = y4 at *
              go_wp2_with fail
              refine wp_region_move_quiet_tail 24 _ (by kernel_rfl) rfl rfl (by kernel_rfl) ?_
              simp only [List.take_succ_cons, List.take_zero, List.drop_succ_cons, List.drop_zero]
              repeat (go_big_quiet_step (fail))
              refine wpQuiet_nil ?_
              rintro _ ⟨nq, rfl⟩
              have HXq := Lib.hid (HX.out.trans (Ext.drewN wr nq))
              have HOq := Lib.hid (HO.out.ext (Ext.drewN wr nq))
              generalize wr.drewN nq = Wq at *
              clear d1 d2 d3 d4 u1 u2 u3 u4 r1 r2 r3 r4 HX HO
              go_wp2_with (first | (go_at_call 188; refine (jorder_any (HJ.out.fld.ext HXq.out) (HXq.out.cell HJ.out.c0) _ _ _ _).mono ?_; rintro e w5 ⟨rfl, m, rfl⟩; have hxm := HXq.out.trans (Ext.drewN Wq m); have hom := HOq.out.ext (Ext.drewN Wq m)) | (at_builtin; refine wpList_grow rfl _ _ 23 rfl slInts hxm hom rfl (ordK p y1 y2 y3 y4) 2 rfl (by omega) rfl hlen ?_; intro v4 w4 HO4 HX4))
              refine NoPan.normal ?_
              have HO5 := Lib.hid HO4; have HX5 := Lib.hid HX4
              clear HO4 HX4 hxm hom hlen
              go_wp2_with fail
              go_roundw
              case rel => exact ⟨t + 1, by omega, by go_num, HX5, by rw [HS.out]; exact HO5⟩
              case measure => simp [intOf]; omega
            · obtain rfl : t = 3 := by omega
              generalize wr = We at *
              generalize u7 = ve at *
              clear ht htl
              generalize hle : ld ++ ordT p r 3 = le at *
              have HLe := Lib.hid (show le.length = cd.length + 12 by rw [← hle, List.length_append, HLd.out, ordT_len])
              have HLE := Lib.hid hle
              clear hle
              have c2 := HX.out.cell HJ.out.c2
              go_wp2_with fail
              clear c2
              go_loopw [12, 132] (fun x12 x132 wr => ∃ k : Nat, k ≤ cd.length ∧ x132 = .int .i64 k ∧ x12 = .int .i64 (numK p n k) ∧ Hid (Ext We wr)) (fun _ x132 _ => cd.length - (intOf x132).toNat)
              case atStart => exact ⟨0, by omega, rfl, rfl, Lib.hid (Ext.refl _)⟩
              case round =>
                obtain ⟨k, hk, rfl, rfl, HZ⟩ := hrel
                by_cases hkl : k < cd.length
                · have hri : ∀ w', (Instr.indexAt 23 nv (.int .i64 (20 + (k : Int)))).run Tryz.prog w' = .ok (.pointer (some (elt nv (20 + k) 1))) w' := by
                    intro w'; have := HJ.out.next.run_index (P := Tryz.prog) slInts (20 + k) (by have := HLN.out; omega) w'; simpa using this
                  have d := HZ.out.cell (HX.out.cell (HJ.out.next.cell (20 + k) (by have := HLN.out; omega)))
                  have c0 := HZ.out.cell (HX.out.cell HJ.out.c0)
                  have HF := Lib.hid (HJ.out.fld.ext (HX.out.trans HZ.out))
                  have HS := Lib.hid (show numK p n (k + 1) = fadd p (numK p n k) (fmul p k (nth n (20 + k))) from rfl)
                  have hwr : IntKind.i64.wrap (20 + (k : Int)) = 20 + (k : Int) := IntWalk.i64_in _ (by omega)
                  generalize numK p n k = s1 at *
                  generalize nth n (20 + k) = y at *
                  go_wp2_with fail
                  go_quiet ((first | (go_at_call 123; exact mul_q HF.out _ _ _) | (go_at_call 122; exact add_q HF.out _ _ _)))
                  clear d c0 hwr hri
                  go_wp2_with fail
                  go_roundw
                  case rel => exact ⟨k + 1, by omega, by go_num, by rw [HS.out], Lib.hid (HZ.out.trans (Ext.drewN _ _))⟩
                  case measure => simp [intOf]; omega
                · obtain rfl : k = cd.length := by omega
                  replace HX := Lib.hid (HX.out.trans HZ.out)
                  replace HO := Lib.hid (HO.out.ext HZ.out)
                  generalize wr = Wf at *
                  clear HZ hk hkl
                  generalize hN : numK p n cd.length = N at *
                  have HN := Lib.hid hN
                  clear hN
                  go_wp2_with fail
                  have c0 := HX.out.cell HJ.out.c0
                  have hlen : le.length + 1 ≤ 4294967296 := by rw [HLe.out]; omega
                  go_region_held3 (fun w' => w'.cell? ⟨q, 0, none⟩ = some f) (first | exact HX9.cell HJ.out.c0 | exact (hx2.trans (Ext.alloc _ _)).cell c0 | exact hx2.cell c0 | exact hx1.cell c0 | go_keep) (first | (go_at_call 179; ((with_reducible refine (sub_any (HJ.out.fld.ext (HX.out.trans hx1)) _ _).mono ?_); rintro e w2 ⟨rfl, z2, rfl⟩); have hx2 := hx1.trans (Ext.drewN w1 z2)) | (go_at_call 183; ((with_reducible refine (jsum_goes (HJ.out.ext (HX.out.trans (Ext.drew Wf))) hs).mono ?_); rintro e w1 ⟨rfl, hxa1⟩); have hx1 := (Ext.drew Wf).trans hxa1) | (refine step_grow rfl _ _ 23 rfl slInts (HX.out.trans hx2) (HO.out.ext hx2) rfl [fsub p N (sumK p r cd (goesK p r) cd.length)] 1 rfl (by omega) rfl hlen ?_; intro v9 w9 HO9 HX9))
                  replace HX := Lib.hid HX9
                  replace HO := Lib.hid HO9
                  clear HO9 HX9 hlen hx1 hx2 hxa1
                  generalize hlf : le ++ [fsub p N (sumK p r cd (goesK p r) cd.length)] = lf at *
                  have HLf := Lib.hid (show lf.length = cd.length + 13 by rw [← hlf, List.length_append, HLe.out]; rfl)
                  have HLF := Lib.hid hlf
                  clear hlf
                  clear c0
                  generalize w9 = Wg at *
                  generalize v9 = vg at *
                  have f0 : ∀ w', (Instr.indexAt 23 nv (.int .i64 0)).run Tryz.prog w' = .ok (.pointer (some (elt nv 0 1))) w' := HJ.out.next.run_index slInts 0 (by have := HLN.out; omega)
                  have HD0 := Lib.hid (HJ.out.next.cell 0 (by have := HLN.out; omega))
                  have d0 := HX.out.cell HD0.out
                  have f1 : ∀ w', (Instr.indexAt 23 nv (.int .i64 1)).run Tryz.prog w' = .ok (.pointer (some (elt nv 1 1))) w' := HJ.out.next.run_index slInts 1 (by have := HLN.out; omega)
                  have HD1 := Lib.hid (HJ.out.next.cell 1 (by have := HLN.out; omega))
                  have d1 := HX.out.cell HD1.out
                  have f2 : ∀ w', (Instr.indexAt 23 nv (.int .i64 2)).run Tryz.prog w' = .ok (.pointer (some (elt nv 2 1))) w' := HJ.out.next.run_index slInts 2 (by have := HLN.out; omega)
                  have HD2 := Lib.hid (HJ.out.next.cell 2 (by have := HLN.out; omega))
                  have d2 := HX.out.cell HD2.out
                  have c0 := HX.out.cell HJ.out.c0
                  generalize hn0 : nth n 0 = n0 at *
                  have HN0 := Lib.hid hn0
                  clear hn0
                  generalize hn1 : nth n 1 = n1 at *
                  have HN1 := Lib.hid hn1
                  clear hn1
                  generalize hn2 : nth n 2 = n2 at *
                  have HN2 := Lib.hid hn2
                  clear hn2
                  go_wp2_with fail
                  have hlen : lf.length + 3 ≤ 4294967296 := by rw [HLf.out]; omega
                  refine wp_region_held_drew (S := (fun w' => w'.cell? ⟨q, 0, none⟩ = some f ∧ w'.cell? (elt nv 0 1) = some (.int .i64 n0) ∧ w'.cell? (elt nv 1 1) = some (.int .i64 n1) ∧ w'.cell? (elt nv 2 1) = some (.int .i64 n2))) (by kernel_rfl) ⟨(Ext.drew Wg).cell c0, (Ext.drew Wg).cell d0, (Ext.drew Wg).cell d1, (Ext.drew Wg).cell d2⟩ (fun hHeld => ?_)
                  refine wpAnyH_take (i := 0) (v := ?v0) rfl (by kernel_rfl) (by kernel_rfl) (by kernel_rfl) (fun _ _ _ h => h) (Or.inl ⟨by rfl, ?y0⟩) (by assumption) ?r0
                  case y0 => (intro w hSw; (try dsimp only at hSw); go_simp; (try with_reducible rfl))
                  (try simp only [Act.put, List.setIfInBounds_toArray])
                  refine wpAnyH_take (i := 1) (v := ?v1) rfl (by kernel_rfl) (by kernel_rfl) (by kernel_rfl) (fun _ _ _ h => h) (Or.inl ⟨by rfl, ?y1⟩) (by assumption) ?r1
                  case y1 => (intro w hSw; (try dsimp only at hSw); go_simp; (try with_reducible rfl))
                  (try simp only [Act.put])
                  refine wpAnyH_take (i := 2) (v := ?v2) rfl (by kernel_rfl) (by kernel_rfl) (by kernel_rfl) (fun _ _ _ h => h) (Or.inl ⟨by rfl, ?y2⟩) (by assumption) ?r2
                  case y2 => (intro w hSw; (try dsimp only at hSw); go_simp; (try with_reducible rfl))
                  (try simp only [Act.put])
                  refine wpAnyH_take (i := 3) (v := ?v3) rfl (by kernel_rfl) (by kernel_rfl) (by kernel_rfl) (fun _ _ _ h => h) (Or.inl ⟨by rfl, ?y3⟩) (by assumption) ?r3
                  case y3 => (intro w hSw; (try dsimp only at hSw); go_simp; (try with_reducible rfl))
                  (try simp only [Act.put])
                  refine wpAnyH_take (i := 4) (v := ?v4) rfl (by kernel_rfl) (by kernel_rfl) (by kernel_rfl) (fun _ _ _ h => h) (Or.inl ⟨by rfl, ?y4⟩) (by assumption) ?r4
                  case y4 => (intro w hSw; (try dsimp only at hSw); go_simp; (try with_reducible rfl))
                  (try simp only [Act.put])
                  refine wpAnyH_take (i := 5) (v := ?v5) rfl (by kernel_rfl) (by kernel_rfl) (by kernel_rfl) (fun _ _ _ h => h) (Or.inl ⟨by rfl, ?y5⟩) (by assumption) ?r5
                  case y5 => (intro w hSw; (try dsimp only at hSw); go_simp; (try with_reducible rfl))
                  (try simp only [Act.put])
                  refine wpAnyH_take (i := 6) (v := ?v6) rfl (by kernel_rfl) (by kernel_rfl) (by kernel_rfl) (fun _ _ _ h => h) (Or.inl ⟨by rfl, ?y6⟩) (by assumption) ?r6
                  case y6 => (intro w hSw; (try dsimp only at hSw); go_simp; (try with_reducible rfl))
                  (try simp only [Act.put])
                  refine wpAnyH_take (i := 7) (v := ?v7) rfl (by kernel_rfl) (by kernel_rfl) (by kernel_rfl) (fun _ _ _ h => h) (Or.inl ⟨by rfl, ?y7⟩) (by assumption) ?r7
                  case y7 => (intro w hSw; (try dsimp only at hSw); go_simp; (try with_reducible rfl))
                  (try simp only [Act.put])
                  refine wpAnyH_take (i := 8) (v := ?v8) rfl (by kernel_rfl) (by kernel_rfl) (by kernel_rfl) (fun _ _ _ h => h) (Or.inl ⟨by rfl, ?y8⟩) (by assumption) ?r8
                  case y8 => (intro w hSw; (try dsimp only at hSw); go_simp; (try with_reducible rfl))
                  (try simp only [Act.put])
                  refine wpAnyH_take (i := 9) (v := ?v9) rfl (by kernel_rfl) (by kernel_rfl) (by kernel_rfl) (fun _ _ _ h => h) (Or.inl ⟨by rfl, ?y9⟩) (by assumption) ?r9
                  case y9 => (intro w hSw; (try dsimp only at hSw); go_simp; (try with_reducible rfl))
                  (try simp only [Act.put])
                  refine wpAnyH_take (i := 10) (v := ?v10) rfl (by kernel_rfl) (by kernel_rfl) (by kernel_rfl) (fun _ _ _ h => h) (Or.inl ⟨by rfl, ?y10⟩) (by assumption) ?r10
                  case y10 => (intro w hSw; (try dsimp only at hSw); go_simp; (try with_reducible rfl))
                  (try simp only [Act.put])
                  refine wpAnyH_take (i := 13) (v := ?v13) rfl (by kernel_rfl) (by kernel_rfl) (by kernel_rfl) (fun _ _ _ h => h) (Or.inl ⟨by rfl, ?y13⟩) (by assumption) ?r13
                  case y13 => (intro w hSw; (try dsimp only at hSw); go_simp; (try with_reducible rfl))
                  (try simp only [Act.put])
                  refine wpAnyH_take (i := 14) (v := ?v14) rfl (by kernel_rfl) (by kernel_rfl) (by kernel_rfl) (fun _ _ _ h => h) (Or.inl ⟨by rfl, ?y14⟩) (by assumption) ?r14
                  case y14 => (intro w hSw; (try dsimp only at hSw); go_simp; (try with_reducible rfl))
                  (try simp only [Act.put])
                  refine wpAnyH_take (i := 15) (v := ?v15) rfl (by kernel_rfl) (by kernel_rfl) (by kernel_rfl) (fun _ _ _ h => h) (Or.inl ⟨by rfl, ?y15⟩) (by assumption) ?r15
                  case y15 => (intro w hSw; (try dsimp only at hSw); go_simp; (try with_reducible rfl))
                  (try simp only [Act.put])
                  refine wpAnyH_take (i := 16) (v := ?v16) rfl (by kernel_rfl) (by kernel_rfl) (by kernel_rfl) (fun _ _ _ h => h) (Or.inl ⟨by rfl, ?y16⟩) (by assumption) ?r16
                  case y16 => (intro w hSw; (try dsimp only at hSw); go_simp; (try with_reducible rfl))
                  (try simp only [Act.put])
                  refine wpAnyH_take (i := 17) (v := ?v17) rfl (by kernel_rfl) (by kernel_rfl) (by kernel_rfl) (fun _ _ _ h => h) (Or.inl ⟨by rfl, ?y17⟩) (by assumption) ?r17
                  case y17 => (intro w hSw; (try dsimp only at hSw); go_simp; (try with_reducible rfl))
                  (try simp only [Act.put])
                  refine wpAnyH_take (i := 18) (v := ?v18) rfl (by kernel_rfl) (by kernel_rfl) (by kernel_rfl) (fun _ _ _ h => h) (Or.inl ⟨by rfl, ?y18⟩) (by assumption) ?r18
                  case y18 => (intro w hSw; (try dsimp only at hSw); go_simp; (try with_reducible rfl))
                  (try simp only [Act.put])
                  refine wpAnyH_take (i := 19) (v := ?v19) rfl (by kernel_rfl) (by kernel_rfl) (by kernel_rfl) (fun _ _ _ h => h) (Or.inl ⟨by rfl, ?y19⟩) (by assumption) ?r19
                  case y19 => (intro w hSw; (try dsimp only at hSw); go_simp; (try with_reducible rfl))
                  (try simp only [Act.put])
                  refine wpAnyH_take (i := 20) (v := ?v20) rfl (by kernel_rfl) (by kernel_rfl) (by kernel_rfl) (fun _ _ _ h => h) (Or.inl ⟨by rfl, ?y20⟩) (by assumption) ?r20
                  case y20 => (intro w hSw; (try dsimp only at hSw); go_simp; (try with_reducible rfl))
                  (try simp only [Act.put])
                  refine wpAnyH_take (i := 21) (v := ?v21) rfl (by kernel_rfl) (by kernel_rfl) (by kernel_rfl) (fun _ _ _ h => h) (Or.inl ⟨by rfl, ?y21⟩) (by assumption) ?r21
                  case y21 => (intro w hSw; (try dsimp only at hSw); go_simp; (try with_reducible rfl))
                  (try simp only [Act.put])
                  refine wpAnyH_take (i := 22) (v := ?v22) rfl (by kernel_rfl) (by kernel_rfl) (by kernel_rfl) (fun _ _ _ h => h) (Or.inl ⟨by rfl, ?y22⟩) (by assumption) ?r22
                  case y22 => (intro w hSw; (try dsimp only at hSw); go_simp; (try with_reducible rfl))
                  (try simp only [Act.put])
                  refine wpAnyH_take (i := 25) (v := ?v25) rfl (by kernel_rfl) (by kernel_rfl) (by kernel_rfl) (fun _ _ _ h => h) (Or.inl ⟨by rfl, ?y25⟩) (by assumption) ?r25
                  case y25 => (intro w hSw; (try dsimp only at hSw); go_simp; (try with_reducible rfl))
                  (try simp only [Act.put])
                  refine wpAnyH_take (i := 26) (v := ?v26) rfl (by kernel_rfl) (by kernel_rfl) (by kernel_rfl) (fun _ _ _ h => h) (Or.inl ⟨by rfl, ?y26⟩) (by assumption) ?r26
                  case y26 => (intro w hSw; (try dsimp only at hSw); go_simp; (try with_reducible rfl))
                  (try simp only [Act.put])
                  refine wpAnyH_take (i := 27) (v := ?v27) rfl (by kernel_rfl) (by kernel_rfl) (by kernel_rfl) (fun _ _ _ h => h) (Or.inl ⟨by rfl, ?y27⟩) (by assumption) ?r27
                  case y27 => (intro w hSw; (try dsimp only at hSw); go_simp; (try with_reducible rfl))
                  (try simp only [Act.put])
                  refine wpAnyH_take (i := 28) (v := ?v28) rfl (by kernel_rfl) (by kernel_rfl) (by kernel_rfl) (fun _ _ _ h => h) (Or.inl ⟨by rfl, ?y28⟩) (by assumption) ?r28
                  case y28 => (intro w hSw; (try dsimp only at hSw); go_simp; (try with_reducible rfl))
                  (try simp only [Act.put])
                  refine wpAnyH_take (i := 29) (v := ?v29) rfl (by kernel_rfl) (by kernel_rfl) (by kernel_rfl) (fun _ _ _ h => h) (Or.inl ⟨by rfl, ?y29⟩) (by assumption) ?r29
                  case y29 => (intro w hSw; (try dsimp only at hSw); go_simp; (try with_reducible rfl))
                  (try simp only [Act.put])
                  refine wpAnyH_take (i := 30) (v := ?v30) rfl (by kernel_rfl) (by kernel_rfl) (by kernel_rfl) (fun _ _ _ h => h) (Or.inl ⟨by rfl, ?y30⟩) (by assumption) ?r30
                  case y30 => (intro w hSw; (try dsimp only at hSw); go_simp; (try with_reducible rfl))
                  (try simp only [Act.put])
                  refine wpAnyH_take (i := 31) (v := ?v31) rfl (by kernel_rfl) (by kernel_rfl) (by kernel_rfl) (fun _ _ _ h => h) (Or.inl ⟨by rfl, ?y31⟩) (by assumption) ?r31
                  case y31 => (intro w hSw; (try dsimp only at hSw); go_simp; (try with_reducible rfl))
                  (try simp only [Act.put])
                  refine wpAnyH_take (i := 32) (v := ?v32) rfl (by kernel_rfl) (by kernel_rfl) (by kernel_rfl) (fun _ _ _ h => h) (Or.inl ⟨by rfl, ?y32⟩) (by assumption) ?r32
                  case y32 => (intro w hSw; (try dsimp only at hSw); go_simp; (try with_reducible rfl))
                  (try simp only [Act.put])
                  refine wpAnyH_take (i := 33) (v := ?v33) rfl (by kernel_rfl) (by kernel_rfl) (by kernel_rfl) (fun _ _ _ h => h) (Or.inl ⟨by rfl, ?y33⟩) (by assumption) ?r33
                  case y33 => (intro w hSw; (try dsimp only at hSw); go_simp; (try with_reducible rfl))
                  (try simp only [Act.put])
                  refine wpAnyH_take (i := 34) (v := ?v34) rfl (by kernel_rfl) (by kernel_rfl) (by kernel_rfl) (fun _ _ _ h => h) (Or.inl ⟨by rfl, ?y34⟩) (by assumption) ?r34
                  case y34 => (intro w hSw; (try dsimp only at hSw); go_simp; (try with_reducible rfl))
                  (try simp only [Act.put])
                  refine wpAnyH_ready (rs := [11]) (by kernel_rfl) (by simp) ?_
                  refine AllReadyH.cons rfl (fun K hK => ?_) AllReadyH.nil
                  go_simp
                  refine (jsum_fp (HJ.out.ext (HX.out.trans (Ext.drew Wg))) hs).mono ?_
                  rintro e w1 ⟨rfl, hxa1⟩
                  have hx1 := (Ext.drew Wg).trans hxa1
                  go_wp2_with fail
                  refine hK.out _ _ ⟨hx1.cell c0, hx1.cell d0, hx1.cell d1, hx1.cell d2⟩ (fun hHeld => ?_)
                  clear hK K
                  (try simp only [Act.put, List.setIfInBounds_toArray, List.set_cons_zero, List.set_cons_succ])
                  refine wpAnyH_ready (rs := [12]) (by kernel_rfl) (by simp) ?_
                  refine AllReadyH.cons rfl (fun K hK => ?_) AllReadyH.nil
                  go_simp
                  refine (sub_any (HJ.out.fld.ext (HX.out.trans hx1)) _ _).mono ?_
                  rintro e w2 ⟨rfl, z2, rfl⟩
                  have hx2 := hx1.trans (Ext.drewN w1 z2)
                  go_wp2_with fail
                  refine hK.out _ _ ⟨hx2.cell c0, hx2.cell d0, hx2.cell d1, hx2.cell d2⟩ (fun hHeld => ?_)
                  clear hK K
                  (try simp only [Act.put, List.setIfInBounds_toArray, List.set_cons_zero, List.set_cons_succ])
                  refine wpAnyH_ready (rs := [23]) (by kernel_rfl) (by simp) ?_
                  refine AllReadyH.cons rfl (fun K hK => ?_) AllReadyH.nil
                  go_simp
                  refine (jsum_ap (HJ.out.ext (HX.out.trans hx2)) hs).mono ?_
                  rintro e w3 ⟨rfl, hxa3⟩
                  have hx3 := hx2.trans hxa3
                  go_wp2_with fail
                  refine hK.out _ _ ⟨hx3.cell c0, hx3.cell d0, hx3.cell d1, hx3.cell d2⟩ (fun hHeld => ?_)
                  clear hK K
                  (try simp only [Act.put, List.setIfInBounds_toArray, List.set_cons_zero, List.set_cons_succ])
                  refine wpAnyH_ready (rs := [24]) (by kernel_rfl) (by simp) ?_
                  refine AllReadyH.cons rfl (fun K hK => ?_) AllReadyH.nil
                  go_simp
                  refine (sub_any (HJ.out.fld.ext (HX.out.trans hx3)) _ _).mono ?_
                  rintro e w4 ⟨rfl, z4, rfl⟩
                  have hx4 := hx3.trans (Ext.drewN w3 z4)
                  go_wp2_with fail
                  refine hK.out _ _ ⟨hx4.cell c0, hx4.cell d0, hx4.cell d1, hx4.cell d2⟩ (fun hHeld => ?_)
                  clear hK K
                  (try simp only [Act.put, List.setIfInBounds_toArray, List.set_cons_zero, List.set_cons_succ])
                  refine wpAnyH_ready (rs := [35]) (by kernel_rfl) (by simp) ?_
                  refine AllReadyH.cons rfl (fun K hK => ?_) AllReadyH.nil
                  go_simp
                  refine (jsum_rv (HJ.out.ext (HX.out.trans hx4)) hs).mono ?_
                  rintro e w5 ⟨rfl, hxa5⟩
                  have hx5 := hx4.trans hxa5
                  go_wp2_with fail
                  refine hK.out _ _ ⟨hx5.cell c0, hx5.cell d0, hx5.cell d1, hx5.cell d2⟩ (fun hHeld => ?_)
                  clear hK K
                  (try simp only [Act.put, List.setIfInBounds_toArray, List.set_cons_zero, List.set_cons_succ])
                  refine wpAnyH_ready (rs := [36]) (by kernel_rfl) (by simp) ?_
                  refine AllReadyH.cons rfl (fun K hK => ?_) AllReadyH.nil
                  go_simp
                  refine (sub_any (HJ.out.fld.ext (HX.out.trans hx5)) _ _).mono ?_
                  rintro e w6 ⟨rfl, z6, rfl⟩
                  have hx6 := hx5.trans (Ext.drewN w5 z6)
                  go_wp2_with fail
                  refine hK.out _ _ ⟨hx6.cell c0, hx6.cell d0, hx6.cell d1, hx6.cell d2⟩ (fun hHeld => ?_)
                  clear hK K
                  (try simp only [Act.put, List.setIfInBounds_toArray, List.set_cons_zero, List.set_cons_succ])
                  refine wpAnyH_ready (rs := [37]) (by kernel_rfl) (by simp) ?_
                  refine AllReadyH.cons rfl (fun K hK => ?_) AllReadyH.nil
                  go_simp
                  refine hK.out _ _ ⟨(hx6.trans (Ext.alloc _ _)).cell c0, (hx6.trans (Ext.alloc _ _)).cell d0, (hx6.trans (Ext.alloc _ _)).cell d1, (hx6.trans (Ext.alloc _ _)).cell d2⟩ (fun hHeld => ?_)
                  clear hK K
                  (try simp only [Act.put, List.setIfInBounds_toArray, List.set_cons_zero, List.set_cons_succ])
                  refine wpAnyH_ready (rs := [38]) (by kernel_rfl) (by simp) ?_
                  refine AllReadyH.cons (o := ({ dst := some 204, op := Op.call { callee := Callee.builtin Builtin.append, args := #[Operand.tmp 166, Operand.tmp 203], argTypes := #[23, 23] }, type := 23, pos := "rules.go:289", after := #[{ on := 0, ground := Ground.data }, { on := 37, ground := Ground.data }, { on := 36, ground := Ground.chain }], guard := none } : Oper)) rfl (fun K hK => ?_) AllReadyH.nil
                  refine step_grow rfl _ _ 23 rfl slInts (HX.out.trans hx6) (HO.out.ext hx6) rfl [fsub p n0 (sumK p r cd (fpK p r) cd.length), fsub p n1 (sumK p r cd (apK p r) cd.length), fsub p n2 (sumK p r cd (rvK r) cd.length)] 3 rfl (by omega) rfl hlen ?_
                  intro v9 w9 HO9 HX9
                  refine hK.out _ _ ⟨HX9.cell HJ.out.c0, HX9.cell HD0.out, HX9.cell HD1.out, HX9.cell HD2.out⟩ (fun hHeld => ?_)
                  clear hK K
                  (try simp only [Act.put, List.setIfInBounds_toArray, List.set_cons_zero, List.set_cons_succ])
                  refine wpAnyH_take (i := 39) (oi := ({ dst := some 7, op := Op.assign (Operand.tmp 204), type := 23, pos := "rules.go:289", after := #[{ on := 38, ground := Ground.data }, { on := 38, ground := Ground.chain }, { on := 0, ground := Ground.phase }, { on := 1, ground := Ground.phase }, { on := 2, ground := Ground.phase }, { on := 3, ground := Ground.phase }, { on := 4, ground := Ground.phase }, { on := 5, ground := Ground.phase }, { on := 6, ground := Ground.phase }, { on := 7, ground := Ground.phase }, { on := 8, ground := Ground.phase }, { on := 9, ground := Ground.phase }, { on := 10, ground := Ground.phase }, { on := 11, ground := Ground.phase }, { on := 12, ground := Ground.phase }, { on := 13, ground := Ground.phase }, { on := 14, ground := Ground.phase }, { on := 15, ground := Ground.phase }, { on := 16, ground := Ground.phase }, { on := 17, ground := Ground.phase }, { on := 18, ground := Ground.phase }, { on := 19, ground := Ground.phase }, { on := 20, ground := Ground.phase }, { on := 21, ground := Ground.phase }, { on := 22, ground := Ground.phase }, { on := 23, ground := Ground.phase }, { on := 24, ground := Ground.phase }, { on := 25, ground := Ground.phase }, { on := 26, ground := Ground.phase }, { on := 27, ground := Ground.phase }, { on := 28, ground := Ground.phase }, { on := 29, ground := Ground.phase }, { on := 30, ground := Ground.phase }, { on := 31, ground := Ground.phase }, { on := 32, ground := Ground.phase }, { on := 33, ground := Ground.phase }, { on := 34, ground := Ground.phase }, { on := 35, ground := Ground.phase }, { on := 36, ground := Ground.phase }, { on := 37, ground := Ground.phase }, { on := 38, ground := Ground.phase }], guard := none } : Oper)) (v := ?v39) rfl (by kernel_rfl) (by kernel_rfl) (by kernel_rfl) (fun _ _ _ h => h) (Or.inl ⟨by rfl, ?y39⟩) (by assumption) ?r39
                  case y39 => (intro w hSw; (try dsimp only at hSw); go_simp; (try with_reducible rfl))
                  (try simp only [Act.put, List.setIfInBounds_toArray, List.set_cons_zero, List.set_cons_succ])
                  refine wpAnyH_done (by kernel_rfl) ?_ _
                  replace HX := Lib.hid HX9
                  replace HO := Lib.hid HO9
                  clear HO9 HX9 hlen hx1 hx2 hx3 hx4 hx5 hx6 hxa1 hxa3 hxa5 hHeld
                  generalize hlg : lf ++ [fsub p n0 (sumK p r cd (fpK p r) cd.length), fsub p n1 (sumK p r cd (apK p r) cd.length), fsub p n2 (sumK p r cd (rvK r) cd.length)] = lg at *
                  have HLg := Lib.hid (show lg.length = cd.length + 16 by rw [← hlg, List.length_append, HLf.out]; rfl)
                  have HLG := Lib.hid hlg
                  clear hlg
                  clear c0 d0 d1 d2 f0 f1 f2 HD0 HD1 HD2
                  generalize w9 = Wh at *
                  generalize v9 = vh at *
                  have rf15 : ∀ w', (Instr.indexAt 23 rv (.int .i64 15)).run Tryz.prog w' = .ok (.pointer (some (elt rv 15 1))) w' := HJ.out.row.run_index slInts 15 (by have := HLR.out; omega)
                  have rd15 := HX.out.cell (HJ.out.row.cell 15 (by have := HLR.out; omega))
                  have rf19 : ∀ w', (Instr.indexAt 23 rv (.int .i64 19)).run Tryz.prog w' = .ok (.pointer (some (elt rv 19 1))) w' := HJ.out.row.run_index slInts 19 (by have := HLR.out; omega)
                  have rd19 := HX.out.cell (HJ.out.row.cell 19 (by have := HLR.out; omega))
                  have nf12 : ∀ w', (Instr.indexAt 23 nv (.int .i64 12)).run Tryz.prog w' = .ok (.pointer (some (elt nv 12 1))) w' := HJ.out.next.run_index slInts 12 (by have := HLN.out; omega)
                  have nd12 := HX.out.cell (HJ.out.next.cell 12 (by have := HLN.out; omega))
                  have nf16 : ∀ w', (Instr.indexAt 23 nv (.int .i64 16)).run Tryz.prog w' = .ok (.pointer (some (elt nv 16 1))) w' := HJ.out.next.run_index slInts 16 (by have := HLN.out; omega)
                  have nd16 := HX.out.cell (HJ.out.next.cell 16 (by have := HLN.out; omega))
                  go_wp2_with fail
                  refine wp_region_move_quiet_tail 14 _ (by kernel_rfl) rfl rfl (by kernel_rfl) ?_
                  simp only [List.take_succ_cons, List.take_zero, List.drop_succ_cons, List.drop_zero]
                  repeat (go_big_quiet_step (fail))
                  refine wpQuiet_nil ?_
                  rintro _ ⟨nq, rfl⟩
                  have HXq := Lib.hid (HX.out.trans (Ext.drewN Wh nq))
                  have HOq := Lib.hid (HO.out.ext (Ext.drewN Wh nq))
                  have hlen : lg.length + 2 ≤ 4294967296 := by rw [HLg.out]; omega
                  generalize Wh.drewN nq = Wq at *
                  clear rf15 rd15 rf19 rd19 nf12 nd12 nf16 nd16 HX HO
                  go_wp2_with (first | (go_at_call 188; refine (jorder_any (HJ.out.fld.ext HXq.out) (HXq.out.cell HJ.out.c0) _ _ _ _).mono ?_; rintro e w5 ⟨rfl, m, rfl⟩; have hxm := HXq.out.trans (Ext.drewN Wq m); have hom := HOq.out.ext (Ext.drewN Wq m)) | (at_builtin; refine wpList_grow rfl _ _ 23 rfl slInts hxm hom rfl (ordK p (nth r 15) (nth r 19) (nth n 12) (nth n 16)) 2 rfl (by omega) rfl hlen ?_; intro v4 w4 HO4 HX4))
                  refine NoPan.normal ?_
                  have HO := Lib.hid HO4
                  have HX := Lib.hid HX4
                  clear HO4 HX4 hxm hom hlen HXq HOq
                  generalize hlh : lg ++ ordK p (nth r 15) (nth r 19) (nth n 12) (nth n 16) = lh at *
                  have HLh := Lib.hid (show lh.length = cd.length + 18 by rw [← hlh, List.length_append, HLg.out]; rfl)
                  have HLH := Lib.hid hlh
                  clear hlh
                  generalize w4 = Wi at *
                  generalize v4 = vi at *
                  have rf20 : ∀ w', (Instr.indexAt 23 rv (.int .i64 20)).run Tryz.prog w' = .ok (.pointer (some (elt rv 20 1))) w' := HJ.out.row.run_index slInts 20 (by have := HLR.out; omega)
                  have rd20 := HX.out.cell (HJ.out.row.cell 20 (by have := HLR.out; omega))
                  have rf0 : ∀ w', (Instr.indexAt 23 rv (.int .i64 0)).run Tryz.prog w' = .ok (.pointer (some (elt rv 0 1))) w' := HJ.out.row.run_index slInts 0 (by have := HLR.out; omega)
                  have rd0 := HX.out.cell (HJ.out.row.cell 0 (by have := HLR.out; omega))
                  have rf1 : ∀ w', (Instr.indexAt 23 rv (.int .i64 1)).run Tryz.prog w' = .ok (.pointer (some (elt rv 1 1))) w' := HJ.out.row.run_index slInts 1 (by have := HLR.out; omega)
                  have rd1 := HX.out.cell (HJ.out.row.cell 1 (by have := HLR.out; omega))
                  have rf2 : ∀ w', (Instr.indexAt 23 rv (.int .i64 2)).run Tryz.prog w' = .ok (.pointer (some (elt rv 2 1))) w' := HJ.out.row.run_index slInts 2 (by have := HLR.out; omega)
                  have rd2 := HX.out.cell (HJ.out.row.cell 2 (by have := HLR.out; omega))
                  have rf12 : ∀ w', (Instr.indexAt 23 rv (.int .i64 12)).run Tryz.prog w' = .ok (.pointer (some (elt rv 12 1))) w' := HJ.out.row.run_index slInts 12 (by have := HLR.out; omega)
                  have rd12 := HX.out.cell (HJ.out.row.cell 12 (by have := HLR.out; omega))
                  have rf16 : ∀ w', (Instr.indexAt 23 rv (.int .i64 16)).run Tryz.prog w' = .ok (.pointer (some (elt rv 16 1))) w' := HJ.out.row.run_index slInts 16 (by have := HLR.out; omega)
                  have rd16 := HX.out.cell (HJ.out.row.cell 16 (by have := HLR.out; omega))
                  have c0 := HX.out.cell HJ.out.c0
                  have c1 := HX.out.cell HJ.out.c1
                  have HF := Lib.hid (HJ.out.fld.ext HX.out)
                  go_wp2_with fail
                  refine wp_region_move_quiet_tail 59 _ (by kernel_rfl) rfl rfl (by kernel_rfl) ?_
                  simp only [List.take_succ_cons, List.take_zero, List.drop_succ_cons, List.drop_zero]
                  repeat (go_big_quiet_step ((first | (go_at_call 179; exact sub_q HF.out _ _ _) | (go_at_call 104; exact of_q HF.out _ _))))
                  refine wpQuiet_nil ?_
                  rintro _ ⟨nq, rfl⟩
                  have hxq := HX.out.trans (Ext.drewN Wi nq)
                  have hoq := HO.out.ext (Ext.drewN Wi nq)
                  have hlen : lh.length + 6 ≤ 4294967296 := by rw [HLh.out]; omega
                  clear rf20 rd20 rf0 rd0 rf1 rd1 rf2 rd2 rf12 rd12 rf16 rd16 c0 c1 HX HO
                  go_wp2_with (at_builtin; refine wpList_grow rfl _ _ 23 rfl slInts hxq hoq rfl [fsub p (nth r 20) 1, fsub p (nth r 0) 1, fsub p (fsub p (nth r 1) 1) sz, fof p (nth r 2), fof p (nth r 12), fof p (nth r 16)] 6 rfl (by omega) rfl hlen ?_; intro v4 w4 HO4 HX4)
                  refine NoPan.normal ?_
                  have HO := Lib.hid HO4
                  have HX := Lib.hid HX4
                  clear HO4 HX4 hxq hoq hlen
                  generalize hli : lh ++ [fsub p (nth r 20) 1, fsub p (nth r 0) 1, fsub p (fsub p (nth r 1) 1) sz, fof p (nth r 2), fof p (nth r 12), fof p (nth r 16)] = li at *
                  have HLi := Lib.hid (show li.length = cd.length + 24 by rw [← hli, List.length_append, HLh.out]; rfl)
                  have HLI := Lib.hid hli
                  clear hli
                  generalize w4 = Wj at *
                  generalize v4 = vj at *
                  have c0 := HX.out.cell HJ.out.c0
                  have c3 := HX.out.cell HJ.out.c3
                  have hlen : li.length + 2 ≤ 4294967296 := by rw [HLi.out]; omega
                  go_wp2_with fail
                  go_region_held3 (fun w' => w'.cell? ⟨q, 0, none⟩ = some f ∧ w'.cell? ⟨q, 3, none⟩ = some (.int .i64 out)) (first | exact ⟨HX9.cell HJ.out.c0, HX9.cell HJ.out.c3⟩ | exact ⟨(hx3.trans (Ext.alloc _ _)).cell c0, (hx3.trans (Ext.alloc _ _)).cell c3⟩ | exact ⟨hx3.cell c0, hx3.cell c3⟩ | exact ⟨(hx1.trans (Ext.drewN w1 (z2 + z3))).cell c0, (hx1.trans (Ext.drewN w1 (z2 + z3))).cell c3⟩ | exact ⟨hx2.cell c0, hx2.cell c3⟩ | exact ⟨hx1.cell c0, hx1.cell c3⟩ | go_keep) (first | (go_at_call 194; refine (jv_any (HJ.out.ext (HX.out.trans hx2)) 0 0 (by simp)).mono ?_; rintro e wv ⟨rfl, rfl⟩; have hvv : True := trivial) | (go_at_call 183; refine (jsum_halts (HJ.out.ext (HX.out.trans (Ext.drew Wj))) hs).mono ?_; rintro e w1 ⟨rfl, hxa1⟩; have hx1 := (Ext.drew Wj).trans hxa1) | (go_at_call 179; (first | (have hvw := hvv; refine (sub_any (HJ.out.fld.ext (HX.out.trans hx2)) _ _).mono ?_; rintro e w3 ⟨rfl, z3, rfl⟩; have hx3 := hx1.trans (Ext.drewN w1 (z2 + z3))) | (refine (sub_any (HJ.out.fld.ext (HX.out.trans hx1)) _ _).mono ?_; rintro e w2 ⟨rfl, z2, rfl⟩; have hx2 := hx1.trans (Ext.drewN w1 z2)))) | (refine step_grow rfl _ _ 23 rfl slInts (HX.out.trans hx3) (HO.out.ext hx3) rfl [fsub p (sumK p r cd haltK cd.length) 1, fsub p (nth r 7) out] 2 rfl (by omega) rfl hlen ?_; intro v9 w9 HO9 HX9))
                  have HO9 := Lib.hid HO9
                  have HX9 := Lib.hid HX9
                  clear c0 c3 hlen
                  go_wp2_with fail
                  go_ret
                  refine HGOT.out _ _ HX9.out ?_
                  have hfin : li ++ [fsub p (sumK p r cd haltK cd.length) 1, fsub p (nth r 7) out] = rulesK p sz out cd r n := by
                    rw [← HLI.out, ← HLH.out, ← HLG.out, ← HLF.out, ← HLE.out, ← HLD.out, ← HLC.out, ← HLB.out, ← HLA.out, ← HN0.out, ← HN1.out, ← HN2.out, ← HN.out]
                    exact rules_join p sz out cd r n
                  rw [← hfin]
                  exact HO9.out
end
end Go.Proofs.YtnmjaddhbecopaaGreatDoor
