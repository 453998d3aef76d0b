/- Are two openings, two vouchers the same? Contracts. -/
import Derived.Test.YthpgmjdepigihaaDoorSa
import Derived.Test.YthpgmjdepigihaaDoorY5
import Derived.Deep.RegionHeld3
import Derived.Deep.DrawnRows
namespace Go.Att
open Go.RowKit
theorem opn_eq {o o' : Opn} {p q r : Bool} (h1 : decide (o.1 = o'.1) = p) (h2 : decide (o.2.1 = o'.2.1) = q) (h3 : decide (o.2.2 = o'.2.2) = r) : decide (o = o') = (p && q && r) := by
  subst h1 h2 h3
  obtain ⟨a, b, c⟩ := o
  obtain ⟨a', b', c'⟩ := o'
  simp [Bool.and_assoc]
end Go.Att
namespace Go.Proofs.YthpgmjdepigihaaDoor
open Go.RowKit Go.Att
set_option maxRecDepth 100000 in
set_option maxHeartbeats 1000000 in
theorem sopn_any {w : World} {a b c a' b' c' : Value} {o o' : Opn} (h : OpnAt w a b c o) (h' : OpnAt w a' b' c' o') :
    Calls Tryd.prog 51 #[.agg #[a, b, c], .agg #[a', b', c']] w fun e w' => e = .returned (.bool (decide (o = o'))) ∧ Ext w w' := by
  obtain ⟨p, hp⟩ : ∃ x, decide (o.1 = o'.1) = x := ⟨_, rfl⟩
  obtain ⟨q, hq⟩ : ∃ x, decide (o.2.1 = o'.2.1) = x := ⟨_, rfl⟩
  obtain ⟨r, hr⟩ : ∃ x, decide (o.2.2 = o'.2.2) = x := ⟨_, rfl⟩
  have HE := Lib.hid (opn_eq hp hq hr)
  have h1 : ∀ W, Ext w W → Calls Tryd.prog 26 #[a, a'] W (Rd W (.bool p)) := fun W hx => hp ▸ sints_any _ _ _ _ _ (h.places.ext hx) (h'.places.ext hx)
  have h2 : ∀ W, Ext w W → Calls Tryd.prog 21 #[b, b'] W (Rd W (.bool q)) := fun W hx => hq ▸ srows_any _ _ _ _ _ (h.rows.ext hx) (h'.rows.ext hx)
  have h3 : ∀ W, Ext w W → Calls Tryd.prog 21 #[c, c'] W (Rd W (.bool r)) := fun W hx => hr ▸ srows_any _ _ _ _ _ (h.nodes.ext hx) (h'.nodes.ext hx)
  have H1 := Lib.hid h1; have H2 := Lib.hid h2; have H3 := Lib.hid h3
  have X0 := Lib.hid ((Ext.alloc w (Obj.cells #[a, b, c] 28)).trans (Ext.alloc _ (Obj.cells #[a', b', c'] 28)))
  clear h1 h2 h3 hp hq hr h h'
  go_enter Tryd.func51, Tryd.ntmps51
  go_wp2_with fail
  refine (H1.out _ X0.out).mono ?_
  rintro e w1 ⟨rfl, m1, rfl⟩; clear H1
  go_wp2_with fail
  refine (H2.out _ (X0.out.trans (Ext.drewN _ _))).mono ?_
  rintro e w2 ⟨rfl, m2, rfl⟩; clear H2
  go_wp2_with fail
  refine (H3.out _ (X0.out.trans (Ext.drewN _ _))).mono ?_
  rintro e w3 ⟨rfl, m3, rfl⟩; clear H3
  cases p
  · go_wp2_with fail
    go_ret
    exact ⟨ret_bool HE.out.symm, X0.out.trans (Ext.drewN _ _)⟩
  · cases q
    · go_wp2_with fail
      go_ret
      exact ⟨ret_bool HE.out.symm, X0.out.trans (Ext.drewN _ _)⟩
    · go_wp2_with fail
      go_ret
      exact ⟨ret_bool HE.out.symm, X0.out.trans (Ext.drewN _ _)⟩

theorem opns_split {w : World} {v : Value} {l : List Opn} (h : Opns w v l) : ∃ A B C ao cap, v = .slice ao l.length cap ∧ OpsAt w (.slice ao l.length cap) l A B C := by
  obtain ⟨A, B, C, h⟩ := h
  obtain ⟨ao, cap, e, -⟩ := h.sl
  subst e
  exact ⟨A, B, C, ao, cap, rfl, h⟩
theorem opns_eq_of {a b : List Opn} (h : a.length = b.length) (h2 : ∀ i, i < a.length → nthO a i = nthO b i) : a = b := by
  refine List.ext_getElem h fun i h3 h4 => ?_
  have := h2 i h3
  rwa [nthO_eq h3, nthO_eq h4] at this
set_option maxRecDepth 100000 in
set_option maxHeartbeats 2000000 in
theorem sfold_any {w : World} {r l o r' l' o' : Value} {R R' : List (List Int)} {L L' : List Int} {O O' : List Opn} (hr : Rws w r R) (hr' : Rws w r' R') (hl : Ints w l L) (hl' : Ints w l' L') (ho : Opns w o O) (ho' : Opns w o' O') :
    Calls Tryd.prog 50 #[.agg #[r, l, o], .agg #[r', l', o']] w fun e w' => e = .returned (.bool (decide (R = R') && decide (L = L') && decide (O = O'))) ∧ Ext w w' := by
  obtain ⟨A, B, C, ao, co, rfl, hoo⟩ := opns_split ho; clear ho; have ho := hoo; clear hoo
  obtain ⟨A', B', C', ao', co', rfl, hoo⟩ := opns_split ho'; clear ho'; have ho' := hoo; clear hoo
  have hlo := ho.run_len (P := Tryd.prog) slOpnY
  have hlo' := ho'.run_len (P := Tryd.prog) slOpnY
  have hlen := ho.len
  obtain ⟨p, hp⟩ : ∃ x, decide (R = R') = x := ⟨_, rfl⟩
  obtain ⟨q, hq⟩ : ∃ x, decide (L = L') = x := ⟨_, rfl⟩
  rw [hp, hq]
  have h1 : ∀ W, Ext w W → Calls Tryd.prog 21 #[r, r'] W (Rd W (.bool p)) := fun W hx => hp ▸ srows_any _ _ _ _ _ (hr.ext hx) (hr'.ext hx)
  have h2 : ∀ W, Ext w W → Calls Tryd.prog 26 #[l, l'] W (Rd W (.bool q)) := fun W hx => hq ▸ sints_any _ _ _ _ _ (hl.ext hx) (hl'.ext hx)
  have H1 := Lib.hid h1; have H2 := Lib.hid h2; have HO := Lib.hid ho; have HO' := Lib.hid ho'
  have X0 := Lib.hid ((Ext.alloc w (Obj.cells #[r, l, .slice ao O.length co] 26)).trans (Ext.alloc _ (Obj.cells #[r', l', .slice ao' O'.length co'] 26)))
  clear h1 h2 hp hq hr hr' hl hl' ho ho'
  go_enter Tryd.func50, Tryd.ntmps50
  go_wp2_with fail
  refine (H1.out _ X0.out).mono ?_
  rintro e w1 ⟨rfl, m1, rfl⟩; clear H1
  go_wp2_with fail
  refine (H2.out _ (X0.out.trans (Ext.drewN _ _))).mono ?_
  rintro e w2 ⟨rfl, m2, rfl⟩; clear H2
  cases p
  · go_wp2_with fail
    go_ret
    exact ⟨rfl, X0.out.trans (Ext.drewN _ _)⟩
  cases q
  · go_wp2_with fail
    go_ret
    exact ⟨rfl, X0.out.trans (Ext.drewN _ _)⟩
  by_cases hll : O.length = O'.length
  rotate_left
  · have hbb : ((O.length : Int) != (O'.length : Int)) = true := by rw [bne_iff_ne]; omega
    have HD := Lib.hid (decide_eq_false (p := O = O') (fun e => hll (by rw [e])))
    clear hll
    go_wp2_with fail
    go_ret
    exact ⟨ret_bool HD.out.symm, X0.out.trans (Ext.drewN _ _)⟩
  · have hbb : ((O.length : Int) != (O'.length : Int)) = false := by rw [bne_eq_false_iff_eq]; omega
    have HL := Lib.hid hll; clear hll
    have k0 : (((w.alloc (Obj.cells #[r, l, .slice ao O.length co] 26)).alloc (Obj.cells #[r', l', .slice ao' O'.length co'] 26)).drewN (m1 + m2)).cell? ⟨w.heap.size, 2, none⟩ = some (.slice ao O.length co) := by simp [go_sem]
    have k1 : (((w.alloc (Obj.cells #[r, l, .slice ao O.length co] 26)).alloc (Obj.cells #[r', l', .slice ao' O'.length co'] 26)).drewN (m1 + m2)).cell? ⟨w.heap.size + 1, 2, none⟩ = some (.slice ao' O'.length co') := by simp [go_sem]
    have K0 := Lib.hid k0; have K1 := Lib.hid k1
    have X1 := Lib.hid (X0.out.trans (Ext.drewN _ (m1 + m2)))
    clear k0 k1
    go_wp2_with fail
    generalize (((w.alloc (Obj.cells #[r, l, .slice ao O.length co] 26)).alloc (Obj.cells #[r', l', .slice ao' O'.length co'] 26)).drewN (m1 + m2)) = w2 at *
    go_loopw [7, 8] (fun x5 _ wr => ∃ i : Nat, i ≤ O.length ∧ x5 = .int .i64 i ∧ Hid (∀ j, j < i → nthO O j = nthO O' j) ∧ Ext w2 wr) (fun x5 _ _ => O.length - (intOf x5).toNat)
    case atStart => exact ⟨0, Nat.zero_le _, rfl, Lib.hid (fun j hj => by omega), Ext.refl _⟩
    case round =>
      obtain ⟨i, hi, rfl, H, hx⟩ := hrel
      have e0 := hx.cell K0.out
      have e1 := hx.cell K1.out
      by_cases hil : i < O.length
      · have hil2 : i < O'.length := by have := HL.out; omega
        have hix := HO.out.run_index (P := Tryd.prog) slOpnY i hil
        have hix2 := HO'.out.run_index (P := Tryd.prog) slOpnY i hil2
        obtain ⟨cb, cc, he, c0, c1, c2⟩ := (HO.out.ext (X1.out.trans hx)).cells i hil
        obtain ⟨cb', cc', he', c0', c1', c2'⟩ := (HO'.out.ext (X1.out.trans hx)).cells i hil2
        rw [he] at hix; rw [he'] at hix2
        have HC := Lib.hid ((HO.out.row i hil).ext (X1.out.trans hx)); have HC' := Lib.hid ((HO'.out.row i hil2).ext (X1.out.trans hx))
        have HX := Lib.hid hx
        clear he he' hx
        generalize A i = va at *; generalize B i = vb at *; generalize C i = vc at *; generalize A' i = va' at *; generalize B' i = vb' at *; generalize C' i = vc' at *
        obtain ⟨y, hy⟩ : ∃ y, decide (nthO O i = nthO O' i) = y := ⟨_, rfl⟩
        have HY := Lib.hid hy
        have hcall : ∀ W, Ext wr W → Calls Tryd.prog 51 #[.agg #[va, vb, vc], .agg #[va', vb', vc']] W fun e w' => e = .returned (.bool y) ∧ Ext W w' := fun W hx => hy ▸ sopn_any (HC.out.ext hx) (HC'.out.ext hx)
        have HCALL := Lib.hid hcall
        clear hy hcall
        go_wp2_with fail
        go_region_held3 (fun w' => w'.cell? ⟨w.heap.size, 2, none⟩ = some (.slice ao O.length co) ∧ w'.cell? ⟨w.heap.size + 1, 2, none⟩ = some (.slice ao' O'.length co') ∧ w'.cell? ⟨cb, cc, none⟩ = some va ∧ w'.cell? ⟨cb, cc + 1, none⟩ = some vb ∧ w'.cell? ⟨cb, cc + 2, none⟩ = some vc ∧ w'.cell? ⟨cb', cc', none⟩ = some va' ∧ w'.cell? ⟨cb', cc' + 1, none⟩ = some vb' ∧ w'.cell? ⟨cb', cc' + 2, none⟩ = some vc') (first | go_keep | exact ⟨hxq.cell e0, hxq.cell e1, hxq.cell c0, hxq.cell c1, hxq.cell c2, hxq.cell c0', hxq.cell c1', hxq.cell c2'⟩) (first | (go_at_call 51; refine (HCALL.out _ (Ext.drew wr)).mono ?_; rintro e w5 ⟨rfl, hxq0⟩; have hxq := (Ext.drew wr).trans hxq0))
        cases y
        · have HD := Lib.hid (decide_eq_false (p := O = O') (fun e => of_decide_eq_false HY.out (by rw [e])))
          go_wp2_with fail
          go_ret
          exact ⟨ret_bool HD.out.symm, X1.out.trans (HX.out.trans hxq)⟩
        · have HE := Lib.hid (of_decide_eq_true HY.out)
          have HXQ := Lib.hid hxq
          clear hxq hxq0
          go_wp2_with fail
          go_roundw
          case rel => exact ⟨i + 1, by omega, by go_num, Lib.hid (fun j hj => by
            rcases Nat.lt_or_eq_of_le (show j ≤ i by omega) with h | rfl
            · exact H.out j h
            · exact HE.out), HX.out.trans HXQ.out⟩
          case measure => simp [intOf]; omega
      · obtain rfl : i = O.length := by omega
        have HD := Lib.hid (decide_eq_true (p := O = O') (opns_eq_of HL.out H.out))
        go_wp2_with fail
        go_ret
        exact ⟨ret_bool HD.out.symm, X1.out.trans hx⟩
/-- Two vouchers alike, as it is told. -/
def svB (v v' : Vch) : Bool := decide (v.main = v'.main) && decide (v.aux = v'.aux) && (decide (v.roots = v'.roots) && decide (v.last = v'.last) && decide (v.opens = v'.opens)) && decide (v.rows = v'.rows) && decide (v.fin = v'.fin) && (v.tries == v'.tries)
theorem svB_refl (v : Vch) : svB v v = true := by simp [svB]
theorem vch_eq {v v' : Vch} {p q f x y t : Bool} (h1 : decide (v.main = v'.main) = p) (h2 : decide (v.aux = v'.aux) = q) (h3 : (decide (v.roots = v'.roots) && decide (v.last = v'.last) && decide (v.opens = v'.opens)) = f) (h4 : decide (v.rows = v'.rows) = x) (h5 : decide (v.fin = v'.fin) = y) (h6 : (v.tries == v'.tries) = t) : svB v v' = (p && q && f && x && y && t) := by
  subst h1 h2 h3 h4 h5 h6
  rfl
set_option maxRecDepth 100000 in
set_option maxHeartbeats 4000000 in
theorem svch_any {w : World} {m a r l o ra rb rc la lb lc m' a' r' l' o' ra' rb' rc' la' lb' lc' : Value} {v v' : Vch} (h : VchAt w m a r l o ra rb rc la lb lc v) (h' : VchAt w m' a' r' l' o' ra' rb' rc' la' lb' lc' v') :
    Calls Tryd.prog 12 #[.agg #[m, a, .int .i64 v.tries, r, l, o, ra, rb, rc, la, lb, lc], .agg #[m', a', .int .i64 v'.tries, r', l', o', ra', rb', rc', la', lb', lc']] w fun e w' => e = .returned (.bool (svB v v')) ∧ Ext w w' := by
  obtain ⟨p0, hp⟩ : ∃ z, decide (v.main = v'.main) = z := ⟨_, rfl⟩
  obtain ⟨q0, hq⟩ : ∃ z, decide (v.aux = v'.aux) = z := ⟨_, rfl⟩
  obtain ⟨f0, hf⟩ : ∃ z, (decide (v.roots = v'.roots) && decide (v.last = v'.last) && decide (v.opens = v'.opens)) = z := ⟨_, rfl⟩
  obtain ⟨x0, hx⟩ : ∃ z, decide (v.rows = v'.rows) = z := ⟨_, rfl⟩
  obtain ⟨y0, hy⟩ : ∃ z, decide (v.fin = v'.fin) = z := ⟨_, rfl⟩
  obtain ⟨t0, ht⟩ : ∃ z, (v.tries == v'.tries) = z := ⟨_, rfl⟩
  have HE := Lib.hid (vch_eq hp hq hf hx hy ht)
  have h1 : ∀ W, Ext w W → Calls Tryd.prog 26 #[m, m'] W (Rd W (.bool p0)) := fun W hx => hp ▸ sints_any _ _ _ _ _ (h.main.ext hx) (h'.main.ext hx)
  have h2 : ∀ W, Ext w W → Calls Tryd.prog 26 #[a, a'] W (Rd W (.bool q0)) := fun W hx => hq ▸ sints_any _ _ _ _ _ (h.aux.ext hx) (h'.aux.ext hx)
  have h3 : ∀ W, Ext w W → Calls Tryd.prog 50 #[.agg #[r, l, o], .agg #[r', l', o']] W (fun e w' => e = .returned (.bool f0) ∧ Ext W w') := fun W hx => hf ▸ sfold_any (h.roots.ext hx) (h'.roots.ext hx) (h.last.ext hx) (h'.last.ext hx) (h.opens.ext hx) (h'.opens.ext hx)
  have h4 : ∀ W, Ext w W → Calls Tryd.prog 51 #[.agg #[ra, rb, rc], .agg #[ra', rb', rc']] W (fun e w' => e = .returned (.bool x0) ∧ Ext W w') := fun W hw => hx ▸ sopn_any (h.rows.ext hw) (h'.rows.ext hw)
  have h5 : ∀ W, Ext w W → Calls Tryd.prog 51 #[.agg #[la, lb, lc], .agg #[la', lb', lc']] W (fun e w' => e = .returned (.bool y0) ∧ Ext W w') := fun W hw => hy ▸ sopn_any (h.fin.ext hw) (h'.fin.ext hw)
  have H1 := Lib.hid h1; have H2 := Lib.hid h2; have H3 := Lib.hid h3; have H4 := Lib.hid h4; have H5 := Lib.hid h5; have HT := Lib.hid ht
  have X0 := Lib.hid ((Ext.alloc w (Obj.cells #[m, a, .int .i64 v.tries, r, l, o, ra, rb, rc, la, lb, lc] 30)).trans (Ext.alloc _ (Obj.cells #[m', a', .int .i64 v'.tries, r', l', o', ra', rb', rc', la', lb', lc'] 30)))
  have k2 : ((w.alloc (Obj.cells #[m, a, .int .i64 v.tries, r, l, o, ra, rb, rc, la, lb, lc] 30)).alloc (Obj.cells #[m', a', .int .i64 v'.tries, r', l', o', ra', rb', rc', la', lb', lc'] 30)).cell? ⟨w.heap.size, 2, none⟩ = some (.int .i64 v.tries) := by simp [go_sem]
  have K2 := Lib.hid k2
  have k2' : ((w.alloc (Obj.cells #[m, a, .int .i64 v.tries, r, l, o, ra, rb, rc, la, lb, lc] 30)).alloc (Obj.cells #[m', a', .int .i64 v'.tries, r', l', o', ra', rb', rc', la', lb', lc'] 30)).cell? ⟨w.heap.size + 1, 2, none⟩ = some (.int .i64 v'.tries) := by simp [go_sem]
  have K2' := Lib.hid k2'
  have k6 : ((w.alloc (Obj.cells #[m, a, .int .i64 v.tries, r, l, o, ra, rb, rc, la, lb, lc] 30)).alloc (Obj.cells #[m', a', .int .i64 v'.tries, r', l', o', ra', rb', rc', la', lb', lc'] 30)).cell? ⟨w.heap.size, 6, none⟩ = some (ra) := by simp [go_sem]
  have K6 := Lib.hid k6
  have k6' : ((w.alloc (Obj.cells #[m, a, .int .i64 v.tries, r, l, o, ra, rb, rc, la, lb, lc] 30)).alloc (Obj.cells #[m', a', .int .i64 v'.tries, r', l', o', ra', rb', rc', la', lb', lc'] 30)).cell? ⟨w.heap.size + 1, 6, none⟩ = some (ra') := by simp [go_sem]
  have K6' := Lib.hid k6'
  have k7 : ((w.alloc (Obj.cells #[m, a, .int .i64 v.tries, r, l, o, ra, rb, rc, la, lb, lc] 30)).alloc (Obj.cells #[m', a', .int .i64 v'.tries, r', l', o', ra', rb', rc', la', lb', lc'] 30)).cell? ⟨w.heap.size, 7, none⟩ = some (rb) := by simp [go_sem]
  have K7 := Lib.hid k7
  have k7' : ((w.alloc (Obj.cells #[m, a, .int .i64 v.tries, r, l, o, ra, rb, rc, la, lb, lc] 30)).alloc (Obj.cells #[m', a', .int .i64 v'.tries, r', l', o', ra', rb', rc', la', lb', lc'] 30)).cell? ⟨w.heap.size + 1, 7, none⟩ = some (rb') := by simp [go_sem]
  have K7' := Lib.hid k7'
  have k8 : ((w.alloc (Obj.cells #[m, a, .int .i64 v.tries, r, l, o, ra, rb, rc, la, lb, lc] 30)).alloc (Obj.cells #[m', a', .int .i64 v'.tries, r', l', o', ra', rb', rc', la', lb', lc'] 30)).cell? ⟨w.heap.size, 8, none⟩ = some (rc) := by simp [go_sem]
  have K8 := Lib.hid k8
  have k8' : ((w.alloc (Obj.cells #[m, a, .int .i64 v.tries, r, l, o, ra, rb, rc, la, lb, lc] 30)).alloc (Obj.cells #[m', a', .int .i64 v'.tries, r', l', o', ra', rb', rc', la', lb', lc'] 30)).cell? ⟨w.heap.size + 1, 8, none⟩ = some (rc') := by simp [go_sem]
  have K8' := Lib.hid k8'
  have k9 : ((w.alloc (Obj.cells #[m, a, .int .i64 v.tries, r, l, o, ra, rb, rc, la, lb, lc] 30)).alloc (Obj.cells #[m', a', .int .i64 v'.tries, r', l', o', ra', rb', rc', la', lb', lc'] 30)).cell? ⟨w.heap.size, 9, none⟩ = some (la) := by simp [go_sem]
  have K9 := Lib.hid k9
  have k9' : ((w.alloc (Obj.cells #[m, a, .int .i64 v.tries, r, l, o, ra, rb, rc, la, lb, lc] 30)).alloc (Obj.cells #[m', a', .int .i64 v'.tries, r', l', o', ra', rb', rc', la', lb', lc'] 30)).cell? ⟨w.heap.size + 1, 9, none⟩ = some (la') := by simp [go_sem]
  have K9' := Lib.hid k9'
  have k10 : ((w.alloc (Obj.cells #[m, a, .int .i64 v.tries, r, l, o, ra, rb, rc, la, lb, lc] 30)).alloc (Obj.cells #[m', a', .int .i64 v'.tries, r', l', o', ra', rb', rc', la', lb', lc'] 30)).cell? ⟨w.heap.size, 10, none⟩ = some (lb) := by simp [go_sem]
  have K10 := Lib.hid k10
  have k10' : ((w.alloc (Obj.cells #[m, a, .int .i64 v.tries, r, l, o, ra, rb, rc, la, lb, lc] 30)).alloc (Obj.cells #[m', a', .int .i64 v'.tries, r', l', o', ra', rb', rc', la', lb', lc'] 30)).cell? ⟨w.heap.size + 1, 10, none⟩ = some (lb') := by simp [go_sem]
  have K10' := Lib.hid k10'
  have k11 : ((w.alloc (Obj.cells #[m, a, .int .i64 v.tries, r, l, o, ra, rb, rc, la, lb, lc] 30)).alloc (Obj.cells #[m', a', .int .i64 v'.tries, r', l', o', ra', rb', rc', la', lb', lc'] 30)).cell? ⟨w.heap.size, 11, none⟩ = some (lc) := by simp [go_sem]
  have K11 := Lib.hid k11
  have k11' : ((w.alloc (Obj.cells #[m, a, .int .i64 v.tries, r, l, o, ra, rb, rc, la, lb, lc] 30)).alloc (Obj.cells #[m', a', .int .i64 v'.tries, r', l', o', ra', rb', rc', la', lb', lc'] 30)).cell? ⟨w.heap.size + 1, 11, none⟩ = some (lc') := by simp [go_sem]
  have K11' := Lib.hid k11'
  clear h1 h2 h3 h4 h5 hp hq hf hx hy ht h h' k2 k2' k6 k6' k7 k7' k8 k8' k9 k9' k10 k10' k11 k11'
  go_enter Tryd.func12, Tryd.ntmps12
  go_wp2_with fail
  refine (H1.out _ X0.out).mono ?_
  rintro e w1 ⟨rfl, m1, rfl⟩; clear H1
  go_wp2_with fail
  refine (H2.out _ (X0.out.trans (Ext.drewN _ _))).mono ?_
  rintro e w2 ⟨rfl, m2, rfl⟩; clear H2
  go_wp2_with fail
  refine (H3.out _ (X0.out.trans (Ext.drewN _ _))).mono ?_
  rintro e w3 ⟨rfl, hx3⟩; clear H3
  replace hx3 := (Ext.drewN ((w.alloc (Obj.cells #[m, a, .int .i64 v.tries, r, l, o, ra, rb, rc, la, lb, lc] 30)).alloc (Obj.cells #[m', a', .int .i64 v'.tries, r', l', o', ra', rb', rc', la', lb', lc'] 30)) (m1 + m2)).trans hx3
  have k2 := hx3.cell K2.out
  have k2' := hx3.cell K2'.out
  have k6 := hx3.cell K6.out
  have k6' := hx3.cell K6'.out
  have k7 := hx3.cell K7.out
  have k7' := hx3.cell K7'.out
  have k8 := hx3.cell K8.out
  have k8' := hx3.cell K8'.out
  have k9 := hx3.cell K9.out
  have k9' := hx3.cell K9'.out
  have k10 := hx3.cell K10.out
  have k10' := hx3.cell K10'.out
  have k11 := hx3.cell K11.out
  have k11' := hx3.cell K11'.out
  have HX3 := Lib.hid hx3; clear hx3
  go_wp2_with fail
  refine (H4.out _ (X0.out.trans HX3.out)).mono ?_
  rintro e w4 ⟨rfl, hx4⟩; clear H4 k2 k2' k6 k6' k7 k7' k8 k8' k9 k9' k10 k10' k11 k11'
  replace hx4 := HX3.out.trans hx4
  have k2 := hx4.cell K2.out
  have k2' := hx4.cell K2'.out
  have k6 := hx4.cell K6.out
  have k6' := hx4.cell K6'.out
  have k7 := hx4.cell K7.out
  have k7' := hx4.cell K7'.out
  have k8 := hx4.cell K8.out
  have k8' := hx4.cell K8'.out
  have k9 := hx4.cell K9.out
  have k9' := hx4.cell K9'.out
  have k10 := hx4.cell K10.out
  have k10' := hx4.cell K10'.out
  have k11 := hx4.cell K11.out
  have k11' := hx4.cell K11'.out
  have HX4 := Lib.hid hx4; clear hx4 HX3
  go_wp2_with fail
  refine (H5.out _ (X0.out.trans HX4.out)).mono ?_
  rintro e w5 ⟨rfl, hx5⟩; clear H5 k2 k2' k6 k6' k7 k7' k8 k8' k9 k9' k10 k10' k11 k11'
  replace hx5 := HX4.out.trans hx5
  have k2 := hx5.cell K2.out
  have k2' := hx5.cell K2'.out
  have HX5 := Lib.hid (X0.out.trans hx5); clear hx5 HX4 X0
  have ht := HT.out
  cases p0
  · go_wp2_with fail
    go_ret
    exact ⟨ret_bool HE.out.symm, HX5.out⟩
  cases q0
  · go_wp2_with fail
    go_ret
    exact ⟨ret_bool HE.out.symm, HX5.out⟩
  cases f0
  · go_wp2_with fail
    go_ret
    exact ⟨ret_bool HE.out.symm, HX5.out⟩
  cases x0
  · go_wp2_with fail
    go_ret
    exact ⟨ret_bool HE.out.symm, HX5.out⟩
  cases y0
  · go_wp2_with fail
    go_ret
    exact ⟨ret_bool HE.out.symm, HX5.out⟩
  go_wp2_with fail
  go_ret
  exact ⟨ret_bool HE.out.symm, HX5.out⟩
end Go.Proofs.YthpgmjdepigihaaDoor
