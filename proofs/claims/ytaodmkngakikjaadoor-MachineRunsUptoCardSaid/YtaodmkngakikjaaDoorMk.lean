/- The document's Run: contract. -/
import Derived.Test.YtaodmkngakikjaaDoorMg
import Derived.Test.YtaodmkngakikjaaDoorMi
import Derived.Test.YtaodmkngakikjaaDoorMj
namespace Go.Att
open Go.RowKit
section
variable {mem : List (Int × Int)} {low b : Int} {i : Nat}
theorem best_start : Best mem low 0 (-1) := ⟨fun _ => ⟨rfl, fun j hj => by omega⟩, fun h => by omega⟩
theorem best_skip (h : Best mem low i b) (h1 : (nthP mem i).1 ≤ low) : Best mem low (i + 1) b := by
  refine ⟨fun hb => ⟨(h.no hb).1, fun j hj => ?_⟩, fun hb => ?_⟩
  · rcases Nat.lt_or_eq_of_le (show j ≤ i by omega) with k | rfl
    · exact (h.no hb).2 j k
    · exact h1
  · obtain ⟨k1, k2, k3⟩ := h.yes hb
    refine ⟨by omega, k2, fun j hj hl => ?_⟩
    rcases Nat.lt_or_eq_of_le (show j ≤ i by omega) with k | rfl
    · exact k3 j k hl
    · omega
theorem best_keep (h : Best mem low i b) (hb : 0 ≤ b) (h2 : ¬ (nthP mem i).1 < (nthP mem b.toNat).1) : Best mem low (i + 1) b := by
  refine ⟨fun h => by omega, fun _ => ?_⟩
  obtain ⟨k1, k2, k3⟩ := h.yes hb
  refine ⟨by omega, k2, fun j hj hl => ?_⟩
  rcases Nat.lt_or_eq_of_le (show j ≤ i by omega) with k | rfl
  · exact k3 j k hl
  · omega
theorem best_first (h : Best mem low i b) (hb : b < 0) (h1 : low < (nthP mem i).1) : Best mem low (i + 1) (i : Int) := by
  refine ⟨fun h => by omega, fun _ => ?_⟩
  rw [Int.toNat_natCast]
  refine ⟨by omega, h1, fun j hj hl => ?_⟩
  rcases Nat.lt_or_eq_of_le (show j ≤ i by omega) with k | rfl
  · have := (h.no hb).2 j k; omega
  · omega
theorem best_less (h : Best mem low i b) (hb : 0 ≤ b) (h1 : low < (nthP mem i).1) (h2 : (nthP mem i).1 < (nthP mem b.toNat).1) : Best mem low (i + 1) (i : Int) := by
  refine ⟨fun h => by omega, fun _ => ?_⟩
  rw [Int.toNat_natCast]
  obtain ⟨k1, k2, k3⟩ := h.yes hb
  refine ⟨by omega, h1, fun j hj hl => ?_⟩
  rcases Nat.lt_or_eq_of_le (show j ≤ i by omega) with k | rfl
  · have := k3 j k hl; omega
  · omega
theorem best_end (h : Best mem low mem.length b) (hb : b < 0) : ∀ d ∈ mem, d.1 ≤ low := by
  intro d hd
  obtain ⟨j, hj, rfl⟩ := List.getElem_of_mem hd
  have := (h.no hb).2 j hj
  rw [nthP_eq hj] at this; exact this
theorem best_least (h : Best mem low mem.length b) (hb : 0 ≤ b) : b.toNat < mem.length ∧ nthP mem b.toNat ∈ mem ∧ low < (nthP mem b.toNat).1 ∧ ∀ d ∈ mem, low < d.1 → (nthP mem b.toNat).1 ≤ d.1 := by
  obtain ⟨k1, k2, k3⟩ := h.yes hb
  refine ⟨k1, by rw [nthP_eq k1]; exact List.getElem_mem k1, k2, fun d hd hl => ?_⟩
  obtain ⟨j, hj, rfl⟩ := List.getElem_of_mem hd
  have := k3 j hj
  rw [nthP_eq hj] at this
  exact this hl
end
/-- The last step tells the outcome. -/
theorem flatS_last {l' : List Stp} {t : Stp} : (flatS (l' ++ [t]))[l'.length * 10 + 7]? = some (.int .i64 (accI t.acc 0)) := by
  rw [flatS_snoc, List.getElem?_append_right (by rw [flatS_length]; omega), flatS_length]
  simp [Stp.nums, accI]
end Go.Att
namespace Go.Proofs.YtaodmkngakikjaaDoor
open Go.RowKit Go.Att
/-- What the document's run comes to. -/
def DRan (w : World) (r : Rw) (e : Ending) (w' : World) : Prop :=
  match r with
  | .done l out mem => ∃ v L, e = .returned (.tuple #[.agg #[.int .i64 out, .int .i64 ((l.length : Int) - 1), v], .int .i64 0]) ∧ CellsOf mem L ∧ Prs w' v L ∧ Ext w w'
  | .no k => e = .returned (.tuple #[.agg #[.int .i64 0, .int .i64 0, .slice none 0 0], .int .i64 k]) ∧ Ext w w'
theorem flatP_snoc' (L : List (Int × Int)) (c : Int × Int) : flatP (L ++ [c]) = flatP L ++ #[Value.int .i64 c.1, Value.int .i64 c.2].toList := by simp [flatP]
/-- A cell more is told. -/
theorem dran_app {w1 W w8 : World} {qb N : Nat} {x y v v8 : Value} {xs ys : List Value} (hqe : w1.heap.size = qb) (hq : BlkOf W qb [x, y, v] 31) (ho : W.ownsRow qb 57 2 v N xs) (hx : Ext w1 W) (hg : W.drew.grownBy w8 v.ownBlock) (ho8 : w8.ownsRow qb 57 2 v8 (N + 1) ys) :
    BlkOf (w8.setCell ⟨qb, 2, none⟩ v8) qb [x, y, v8] 31 ∧ (w8.setCell ⟨qb, 2, none⟩ v8).ownsRow qb 57 2 v8 (N + 1) ys ∧ Ext w1 (w8.setCell ⟨qb, 2, none⟩ v8) := by
  subst hqe
  have hnb := own_not_blk ho hq (by decide)
  have hq8 := (hq.ext (Ext.drew W)).grown hg (fun e => hnb e.symm)
  have hx8 := Ext.own_grown (hx.trans (Ext.drew W)) (own_ext ho (Ext.drew W)) hg
  have hnb8 := own_not_blk ho8 hq8 (by decide)
  exact ⟨hq8.set 2 v8, (Turned.one (c := w1.heap.size) (setCell_grown _ _ _ _)).own ho8 hnb8 hnb8, hx8.below.setCell (Nat.le_refl _) _⟩
/-- The results of the document's Run, as they lie. -/
theorem res_dran {w : World} {rb : Nat} {x y : Int} {v u : Value} (h : BlkOf w rb [.int .i64 x, .int .i64 y, v] 31) (tmps : Array Value) (g : tmps.getD 6 undef = .pointer (some ⟨rb, 0, none⟩)) (g2 : tmps.getD 7 undef = u) :
    (results Tryd.f8 tmps).run Tryd.prog w = .ok (.tuple #[.agg #[.int .i64 x, .int .i64 y, v], u]) w := by
  have g' : tmps[6]?.getD undef = .pointer (some ⟨rb, 0, none⟩) := by simpa using g
  have g2' : tmps[7]?.getD undef = u := by simpa using g2
  have k0 : w.cell? ⟨rb, 0, none⟩ = some (.int .i64 x) := h.cell 0
  have k1 : w.cell? ⟨rb, 1, none⟩ = some (.int .i64 y) := h.cell 1
  have k2 : w.cell? ⟨rb, 2, none⟩ = some v := h.cell 2
  clear h
  simp [results, Tryd.results8, go_sem, g', g2', k0, k1, k2]
section
variable {w : World} {p sz : Int} {lv : Value} {cd : List In4} {lim : Int}
set_option maxRecDepth 100000 in
set_option maxHeartbeats 8000000 in
theorem drun_any (hc : Inqs w lv cd) (hlo : 3 ≤ p) (hhi : p ≤ 2147483647) (hnz : ∀ k, walkM p sz cd lim = .no k → k ≠ 0) : Calls Tryd.prog 8 #[.int .i64 p, .agg #[.int .i64 sz, lv], .int .i64 lim] w (DRan w (walkM p sz cd lim)) := by
  obtain ⟨ao, cap, rfl⟩ := hc.shape
  have hxk := Ext.alloc w (Obj.cells #[.int .i64 sz, .slice ao cd.length cap] 24)
  have hbk := BlkOf.new w [.int .i64 sz, .slice ao cd.length cap] 24
  have hxr := Ext.alloc (w.alloc (Obj.cells #[.int .i64 sz, .slice ao cd.length cap] 24)) (Obj.cells #[.int .i64 0, .int .i64 0, .slice none 0 0] 31)
  have hbr := BlkOf.new (w.alloc (Obj.cells #[.int .i64 sz, .slice ao cd.length cap] 24)) [.int .i64 0, .int .i64 0, .slice none 0 0] 31
  have hrs : (w.alloc (Obj.cells #[.int .i64 sz, .slice ao cd.length cap] 24)).heap.size = w.heap.size + 1 := by simp
  rw [hrs] at hbr
  have HX0 := Lib.hid (hxk.trans hxr)
  have HBK := Lib.hid (hbk.ext hxr); have HBR := Lib.hid hbr
  have HC := Lib.hid (hc.ext (hxk.trans hxr))
  have HW : Hid (∀ w' : World, Ext w w' → Ext w w') := Lib.hid fun _ h => h
  have HKB : Hid (w.heap.size ≤ w.heap.size) := Lib.hid (Nat.le_refl _)
  have HRB : Hid (w.heap.size ≤ w.heap.size + 1) := Lib.hid (by omega)
  clear hxk hbk hxr hbr hrs hc
  go_enter Tryd.func8, Tryd.ntmps8
  go_upto_region 1 with (fail)
  generalize ((w.alloc (Obj.cells #[.int .i64 sz, .slice ao cd.length cap] 24)).alloc (Obj.cells #[.int .i64 0, .int .i64 0, .slice none 0 0] 31)) = W0 at *
  obtain ⟨z, hz⟩ : ∃ z, z = w.heap.size := ⟨_, rfl⟩
  obtain ⟨rb, hrb⟩ : ∃ r, r = w.heap.size + 1 := ⟨_, rfl⟩
  rw [← hrb] at HBR HRB ⊢
  generalize hkb : w.heap.size = kb at *
  have HKE := Lib.hid hkb; clear hkb hz hrb
  have e0 : W0.cell? ⟨kb, 0, none⟩ = some (.int .i64 sz) := HBK.out.cell 0
  have e1 : W0.cell? ⟨kb, 1, none⟩ = some (.slice ao cd.length cap) := HBK.out.cell 1
  go_wp2_with fail
  refine (dwalk_any (sz := sz) (lim := lim) HC.out hlo hhi).mono ?_
  rintro e w1 hd
  clear e0 e1
  cases hR : walkM p sz cd lim with
  | no k =>
    have hk := hnz k hR
    rw [hR] at hd
    obtain ⟨rfl, hx1⟩ := hd
    have HX1 := Lib.hid (HX0.out.trans hx1)
    have HB1 := Lib.hid (HBR.out.ext hx1)
    have HNE := Lib.hid hk; have HRR := Lib.hid hR
    have hkb : (k != 0) = true := by rw [bne_iff_ne]; exact hk
    clear hx1 hk hR hnz HX0 HBK HBR HC
    have c0 : w1.cell? ⟨rb, 0, none⟩ = some (.int .i64 0) := HB1.out.cell 0
    have c1 : w1.cell? ⟨rb, 1, none⟩ = some (.int .i64 0) := HB1.out.cell 1
    have c2 : w1.cell? ⟨rb, 2, none⟩ = some (.slice none 0 0) := HB1.out.cell 2
    have f0 := HB1.out.free 0
    have f1 := HB1.out.free 1
    have f2 := HB1.out.free 2
    go_wp2_with fail
    have hb : w.heap.size ≤ rb := by have := HKE.out; have := HRB.out; omega
    have hbl := ((HB1.out.set 0 (.int .i64 0)).set 1 (.int .i64 0)).set 2 (.slice none 0 0)
    refine bodyPost_ret (v := .tuple #[.agg #[.int .i64 0, .int .i64 0, .slice none 0 0], .int .i64 k]) (res_dran hbl _ rfl rfl) rfl ?_
    rw [HRR.out]
    exact ⟨rfl, ((HX1.out.below.setCell hb _).setCell hb _).setCell hb _⟩
  | done l out mem =>
    obtain ⟨hen, hl0, hl1⟩ := walkM_ended (by omega) hR
    rw [hR] at hd
    obtain ⟨sv, cv, rfl, hsv, hcv, hlen, hx1⟩ := hd
    obtain ⟨hms, hbd, huq, l', t, hl', hout, hn0, hn1⟩ := hen
    have HRR := Lib.hid hR
    have hln : l.length = l'.length + 1 := by rw [hl']; simp
    obtain ⟨n, hn⟩ : ∃ n, n = l'.length := ⟨_, rfl⟩
    have hS := Sl.of_own hsv (by omega)
    have hP := Prs.of_own hcv
    have hls : ∀ w', (Builtin.len_ #[53] 3 #[sv]).run Tryd.prog w' = .ok (.int .i64 ((n : Int) + 1)) w' := fun w' => by
      have := Sl.run_len (P := Tryd.prog) hS slStep 3 w'
      rw [show ((l.length : Nat) : Int) = (n : Int) + 1 by omega] at this; exact this
    have hix : ∀ w', (Instr.indexAt 53 sv (.int .i64 (n : Int))).run Tryd.prog w' = .ok (.pointer (some (elt sv n 10))) w' := fun w' => by
      have := Sl.run_index (P := Tryd.prog) hS slStep (n : Int) (by omega) (by omega) w'
      rw [Int.toNat_natCast] at this; exact this
    have a7 : w1.cell? ⟨(elt sv n 10).block, (elt sv n 10).off + 7, none⟩ = some (.int .i64 out) := stp_c hS n 7 (by omega) (by omega) (by omega) (by rw [hl', hn, flatS_last, hout])
    have hnl : (n : Int) ≤ 16384 := by simp at hn1; omega
    have HX1 := Lib.hid (HX0.out.trans hx1)
    have HB1 := Lib.hid (HBR.out.ext hx1)
    have HP := Lib.hid hP; have HUQ := Lib.hid huq
    have HLN := Lib.hid (show (l.length : Int) - 1 = (n : Int) by omega)
    have hmm : mem.length ≤ 50000 := by omega
    clear hx1 hR hnz HX0 HBK HBR HC hsv hcv hS hP hms hbd huq hl' hout hn0 hn1 hln hn hl0 hl1 hlen
    go_upto_region 5 with (fail)
    have HXQ := Lib.hid (Ext.alloc w1 (Obj.cells #[.int .i64 out, .int .i64 n, .slice none 0 0] 31))
    have HQ := Lib.hid (BlkOf.new w1 [.int .i64 out, .int .i64 n, .slice none 0 0] 31)
    have HRQ : Hid (rb ≠ w1.heap.size) := Lib.hid (by have := HB1.out.lt; omega)
    have hlc : ∀ w', (Builtin.len_ #[29] 3 #[cv]).run Tryd.prog w' = .ok (.int .i64 mem.length) w' := fun w' => HP.out.run_len (P := Tryd.prog) slCell 3 w'
    clear a7 hix hls
    generalize w1.alloc (Obj.cells #[.int .i64 out, .int .i64 n, .slice none 0 0] 31) = W2 at *
    generalize hqb : w1.heap.size = qb at *
    have HQE := Lib.hid hqb
    clear hqb
    go_wp2_with fail
    go_loopw [12] (fun x12 wr => ∃ (L : List (Int × Int)) (low : Int) (v : Value), x12 = .int .i64 low ∧ 0 ≤ low ∧ Hid (UpTo mem L low) ∧ Hid (BlkOf wr qb [.int .i64 out, .int .i64 n, v] 31) ∧ Hid (wr.ownsRow qb 57 2 v L.length (flatP L)) ∧ Hid (Ext w1 wr)) (fun x12 _ => above mem (intOf x12))
    case atStart => exact ⟨[], 0, .slice none 0 0, rfl, by omega, Lib.hid (UpTo.start mem), HQ, Lib.hid (World.ownsRow_nil _ _ _ _), HXQ⟩
    case round =>
      clear HXQ HQ
      obtain ⟨L, low, v, rfl, hlow, HU, HQ, HO, HE1⟩ := hrel
      generalize wr = W3 at *
      have HPK := HP; have HBK1 := HB1
      replace HP := Lib.hid (HPK.out.ext HE1.out)
      go_wp2_with fail
      go_loopw [13, 14] (fun x13 x14 wr => ∃ (b : Int) (i m : Nat), x13 = .int .i64 b ∧ x14 = .int .i64 i ∧ i ≤ mem.length ∧ Hid (Best mem low i b) ∧ wr = W3.drewN m) (fun _ x14 _ => mem.length - (intOf x14).toNat)
      case atStart => exact ⟨-1, 0, 0, rfl, rfl, Nat.zero_le _, Lib.hid best_start, rfl⟩
      case round =>
        obtain ⟨b, i, m, rfl, rfl, hi, HBE, rfl⟩ := hrel
        by_cases hlt : i < mem.length
        · have hia := HP.out.run_index (P := Tryd.prog) slCell i hlt
          have ca := HP.out.fst i hlt
          by_cases h1 : low < (nthP mem i).1
          · have d1 : decide (low < (nthP mem i).1) = true := by simpa using h1
            by_cases hb : b < 0
            · obtain ⟨rfl, -⟩ := HBE.out.no hb
              have HN := Lib.hid (best_first HBE.out hb h1)
              clear h1 hb
              go_wp2_with fail
              go_quiet (fail)
              go_wp2_with fail
              go_roundw
              case rel => exact ⟨_, i + 1, _, rfl, by go_num, by omega, HN, rfl⟩
              case measure => simp [intOf]; omega
            · obtain ⟨c, rfl⟩ := Int.eq_ofNat_of_zero_le (show 0 ≤ b by omega)
              have hb0 : (0 : Int) ≤ c := by omega
              obtain ⟨hci, -, -⟩ := HBE.out.yes hb0
              rw [Int.toNat_natCast] at hci
              have d2 : decide ((c : Int) < 0) = false := by simp
              have hib := HP.out.run_index (P := Tryd.prog) slCell c (by omega)
              have cb := HP.out.fst c (by omega)
              by_cases h2 : (nthP mem i).1 < (nthP mem c).1
              · have d3 : decide ((nthP mem i).1 < (nthP mem c).1) = true := by simpa using h2
                have HN := Lib.hid (best_less HBE.out hb0 h1 (by rw [Int.toNat_natCast]; exact h2))
                clear h1 h2 hb hb0
                go_wp2_with fail
                go_quiet (fail)
                go_wp2_with fail
                go_roundw
                case rel => exact ⟨_, i + 1, _, rfl, by go_num, by omega, HN, rfl⟩
                case measure => simp [intOf]; omega
              · have d3 : decide ((nthP mem i).1 < (nthP mem c).1) = false := by simpa using h2
                have HN := Lib.hid (best_keep HBE.out hb0 (by rw [Int.toNat_natCast]; exact h2))
                clear h1 h2 hb hb0
                go_wp2_with fail
                go_quiet (fail)
                go_wp2_with fail
                go_roundw
                case rel => exact ⟨_, i + 1, _, rfl, by go_num, by omega, HN, rfl⟩
                case measure => simp [intOf]; omega
          · have d1 : decide (low < (nthP mem i).1) = false := by simpa using h1
            have HN := Lib.hid (best_skip HBE.out (by omega))
            clear h1
            go_wp2_with fail
            go_quiet (fail)
            go_wp2_with fail
            go_roundw
            case rel => exact ⟨_, i + 1, _, rfl, by go_num, by omega, HN, rfl⟩
            case measure => simp [intOf]; omega
        · obtain rfl : i = mem.length := by omega
          replace HQ := Lib.hid (HQ.out.ext (Ext.drewN W3 m)); replace HP := Lib.hid (HP.out.ext (Ext.drewN W3 m)); replace HE1 := Lib.hid (HE1.out.trans (Ext.drewN W3 m))
          replace HO := Lib.hid (own_ext HO.out (Ext.drewN W3 m)); have HX := Lib.hid (HX1.out.trans HE1.out); have HB := Lib.hid (HBK1.out.ext HE1.out)
          generalize W3.drewN m = W4 at *
          obtain ⟨va, vc, rfl⟩ := own_shape HO.out
          have q0 : W4.cell? ⟨qb, 0, none⟩ = some (.int .i64 out) := HQ.out.cell 0
          have q1 : W4.cell? ⟨qb, 1, none⟩ = some (.int .i64 n) := HQ.out.cell 1
          have q2 : W4.cell? ⟨qb, 2, none⟩ = some (.slice va L.length vc) := HQ.out.cell 2
          by_cases hb : b < 0
          · have HE := Lib.hid (HU.out.end (best_end HBE.out hb))
            obtain ⟨rfl, -⟩ := HBE.out.no hb
            have r0 : W4.cell? ⟨rb, 0, none⟩ = some (.int .i64 0) := HB.out.cell 0
            have r1 : W4.cell? ⟨rb, 1, none⟩ = some (.int .i64 0) := HB.out.cell 1
            have r2 : W4.cell? ⟨rb, 2, none⟩ = some (.slice none 0 0) := HB.out.cell 2
            have f0 := HB.out.free 0
            have f1 := HB.out.free 1
            have f2 := HB.out.free 2
            clear hb
            go_wp2_with fail
            have hb : w.heap.size ≤ rb := by have := HKE.out; have := HRB.out; omega
            have hnr : ((.slice va L.length vc) : Value).ownBlock ≠ some rb := own_not_blk HO.out HB.out (by decide)
            have hbl := ((HB.out.set 0 (.int .i64 out)).set 1 (.int .i64 n)).set 2 (.slice va L.length vc)
            have hgr := grown_one (grown_one (setCell_grown W4 rb 0 (.int .i64 out)) (setCell_grown _ rb 1 (.int .i64 n))) (setCell_grown _ rb 2 (.slice va L.length vc))
            have hv := Prs.of_own ((Turned.one (c := rb) hgr).own HO.out hnr hnr)
            (try simp only [Exit.inBlock, Exit.then])
            refine bodyPost_ret (v := .tuple #[.agg #[.int .i64 out, .int .i64 n, .slice va L.length vc], .int .i64 0]) (res_dran hbl _ rfl rfl) rfl ?_
            rw [HRR.out]
            exact ⟨_, L, by rw [HLN.out], HE.out, hv, ((HX.out.below.setCell hb _).setCell hb _).setCell hb _⟩
          · obtain ⟨c, rfl⟩ := Int.eq_ofNat_of_zero_le (show 0 ≤ b by omega)
            obtain ⟨hci, hcm, hcl, hleast⟩ := best_least HBE.out (by omega)
            rw [Int.toNat_natCast] at hci hcm hcl hleast
            have HL := Lib.hid (HU.out.step HUQ.out hlow hcm hcl hleast)
            have HAB := Lib.hid (above_lt hcm hcl)
            have hlow2 : 0 ≤ (nthP mem c).1 := by omega
            have hic := HP.out.run_index (P := Tryd.prog) slCell c hci
            have c1 := HP.out.fst c hci
            have c2 := HP.out.snd c hci
            have hlen : L.length + 1 ≤ 4294967296 := by have := HU.out.len; omega
            have hbase : qb ≤ W4.drew.heap.size := by have := HE1.out.size; have := HQE.out; simp; omega
            have k2 : (W4.alloc (.cells #[.int .i64 (nthP mem c).1, .int .i64 (nthP mem c).2] 57)).cell? ⟨qb, 2, none⟩ = some (.slice va L.length vc) := (Ext.alloc _ _).cell q2
            have hcv : ∃ a k, cv = .slice a mem.length k := by obtain ⟨a, k, h, _⟩ := HP.out; exact ⟨a, k, h⟩
            have HCI := Lib.hid hci
            clear hb hcm hcl hleast hi
            go_wp2_with fail
            refine wp_region_stop (fun _ _ => False) (fun _ _ _ _ h => h.elim) ?_
            go_region_law ((refine step_appNw (W := W4.drew) rfl _ _ 29 rfl slCell rfl hbase (own_ext HO.out (Ext.drew W4)) rfl #[.int .i64 (nthP mem c).1, .int .i64 (nthP mem c).2] rfl (by simp [Value.oneCell']) rfl hlen (by omega) ?_; intro v8 w8 HO8 HG8 HM8; obtain ⟨av, cv8, rfl⟩ := own_shape HO8; have HGx := Lib.hid HG8; have HOx := Lib.hid HO8; have hb8 := (HQ.out.ext (Ext.drew W4)).grown HG8 (fun e => own_not_blk HO.out HQ.out (by decide) e.symm); have l15 : w8.cell? ⟨qb, 2, none⟩ = some (.slice va L.length vc) := hb8.cell 2; have q15 := hb8.free 2; have HBx := Lib.hid hb8; clear hb8 HG8 HO8 HM8))
            all_goals
              refine OrStop.normal ?_
              clear k2 c1 c2 q0 q1 q2 hbase l15 q15 hlt
              obtain ⟨n1, n2, n3⟩ := dran_app HQE.out HQ.out HO.out HE1.out HGx.out HOx.out
              have HQ9 := Lib.hid n1; have HO9 := Lib.hid n2; have HE9 := Lib.hid n3
              have c1 := (HPK.out.ext n3).fst c HCI.out
              clear HGx HOx HBx HQ HO HE1 HX HB HP n1 n2 n3
              revert HQ9 HO9 HE9 c1
              generalize World.setCell _ ⟨qb, 2, none⟩ _ = W9
              intro HQ9 HO9 HE9 c1
              go_wp2_with fail
              go_roundw
              case rel => exact ⟨L ++ [nthP mem c], _, _, rfl, hlow2, HL, HQ9, Lib.hid (by rw [flatP_snoc', List.length_append]; exact HO9.out), HE9⟩
              case measure => simp only [intOf]; exact HAB.out
end
end Go.Proofs.YtaodmkngakikjaaDoor
