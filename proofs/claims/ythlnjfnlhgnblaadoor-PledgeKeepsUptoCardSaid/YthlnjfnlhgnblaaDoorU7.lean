/- Sums of rows by powers, the program's side: weighed, Mix. -/
import Derived.Test.YthlnjfnlhgnblaaDoorU5
namespace Go.Att
open Go.RowKit
theorem mixP_start (p r : Int) (L : List (List Int)) (n : Nat) : (madeCells (Value.cells (.int .i64 0)) (n * 1)).toList = (mixP p r L n 0 0).map (Value.int .i64) := by
  have e : mixP p r L n 0 0 = List.replicate n 0 := by
    unfold mixP
    apply List.ext_getElem (by simp)
    intro i h1 h2
    simp [mixS]
  rw [e]
  simp [madeCells, Value.cells, Nat.mod_one, List.map_const']
theorem mixP_all (p r : Int) (L : List (List Int)) : mixP p r L (nthL L 0).length L.length 0 = mixL p r L := by
  unfold mixP mixL
  exact List.map_congr_left fun j _ => by simp
/-- What a Mix is refused for. -/
def mixBad (L : List (List Int)) : Bool := decide (L.length = 0) || !fitB ((nthL L 0).length : Int) L
end Go.Att
namespace Go.Proofs.YthlnjfnlhgnblaaDoor
open Go.RowKit Go.Att

set_option maxRecDepth 100000 in
set_option maxHeartbeats 2000000 in
theorem weighed_any {w : World} {f : Value} {p g : Int} {fs : List Int} (hf : Fld w f p g fs) {vr : Value} {L : List (List Int)} {R : Nat → Value} (hr : RwsAt w vr L R) (h0 : 0 < L.length) (hfit : fitB ((nthL L 0).length : Int) L = true) (r : Int) (c1 c2 : Nat)
    (h1 : w.cell? ⟨c1, 0, none⟩ = some f) (h2 : w.cell? ⟨c2, 0, none⟩ = some (.int .i64 r)) (hn : (nthL L 0).length ≤ 1048576) (hL : L.length ≤ 1048576) :
    Calls Tryd.prog 70 #[f, vr, .func (Fn.func 71) #[] #[.pointer (some ⟨c1, 0, none⟩), .pointer (some ⟨c2, 0, none⟩)]] w (Gives w fun u w' => Ints w' u (mixL p r L)) := by
  have hlr := hr.run_len (P := Tryd.prog) slRows
  have hix := hr.run_index (P := Tryd.prog) slRows 0 h0
  have hcr := hr.cell 0 h0
  have hl0 := (hr.row 0 h0).run_len (P := Tryd.prog) slInts
  rw [show ((0 : Nat) : Int) = 0 from rfl] at hix
  have HR := Lib.hid hr; have C := Lib.hid hf; have H1 := Lib.hid h1; have H2 := Lib.hid h2; have HFIT := Lib.hid hfit
  obtain ⟨n, hnn⟩ : ∃ n, (nthL L 0).length = n := ⟨_, rfl⟩
  rw [hnn] at hl0 hn HFIT
  have HNN := Lib.hid hnn
  clear hr hf h1 h2 hfit hnn
  go_enter Tryd.func70, Tryd.ntmps70
  go_wp2_with (refine wpList_mkn rfl _ _ 22 rfl slInts (Ext.refl w) rfl rfl (by omega) (by omega) (by omega) ?_; intro v1 w1 HO HX _; rw [Int.toNat_natCast, mixP_start p r L] at HO)
  clear hix hcr
  go_loopw [8, 9, 10, 11, 12, 20] (fun _ _ _ _ _ x20 wr => ∃ m : Nat, m ≤ L.length ∧ x20 = .int .i64 m ∧ wr.ownsRow w.heap.size 3 1 v1 n ((mixP p r L n m 0).map (Value.int .i64)) ∧ Ext w wr) (fun _ _ _ _ _ x20 _ => L.length - (intOf x20).toNat)
  case atStart => exact ⟨0, Nat.zero_le _, rfl, HO, HX⟩
  case round =>
    obtain ⟨m, hm, rfl, HO1, HX1⟩ := hrel
    by_cases hml : m < L.length
    · have hix2 := HR.out.run_index (P := Tryd.prog) slRows m hml
      have hc2 := (HR.out.ext HX1).cell m hml
      have hlm := (HR.out.row m hml).run_len (P := Tryd.prog) slInts
      have hfm := fitB_nth HFIT.out hml
      have hln : (nthL L m).length = n := by omega
      rw [hln] at hlm
      have HROW := Lib.hid (HR.out.row m hml)
      have HLN := Lib.hid hln
      clear hfm hln
      go_wp2_with (go_at_call 71; refine (mix2_any (C.out.ext HX1) m r c1 c2 (HX1.cell H1.out) (HX1.cell H2.out) (by omega)).mono ?_; rintro e w3 hrd; obtain ⟨rfl, hx3⟩ := hrd.ext; clear hrd)
      replace HO1 := own_ext HO1 hx3
      have HX3 := HX1.trans hx3
      clear hix2 hc2
      go_loopw [11, 12, 30] (fun _ _ x30 ws => ∃ k : Nat, k ≤ n ∧ x30 = .int .i64 k ∧ ws.ownsRow w.heap.size 3 1 v1 n ((mixP p r L n m k).map (Value.int .i64)) ∧ Ext w ws) (fun _ _ x30 _ => n - (intOf x30).toNat)
      case atStart => exact ⟨0, Nat.zero_le _, rfl, HO1, HX3⟩
      case round =>
        obtain ⟨k, hk, rfl, HO2, HX2⟩ := hrel
        by_cases hkl : k < n
        · have hrow := HROW.out.ext HX2
          have hix3 := hrow.run_index (P := Tryd.prog) slInts k (by rw [HLN.out]; exact hkl)
          have hc3 := hrow.cell k (by rw [HLN.out]; exact hkl)
          have hio := Ints.of_own HO2
          have hix4 := hio.run_index (P := Tryd.prog) slInts k (by rw [mixP_length]; exact hkl)
          have hc4 := hio.cell k (by rw [mixP_length]; exact hkl)
          rw [mixP_nth _ _ _ _ _ _ hkl] at hc4
          have HF := Lib.hid (C.out.ext HX2)
          have S := Lib.hid (mixP_set p r L n m k hkl)
          clear hrow hio
          go_wp2_with fail
          refine wp_region_quiet_tail 13 (by kernel_rfl) (by kernel_rfl) ?_
          simp only [List.take_succ_cons, List.take_zero, List.drop_succ_cons, List.drop_zero]
          repeat (go_big_quiet_step (first | (go_at_call 107; exact mul_q HF.out _ _ _) | (go_at_call 106; exact add_q HF.out _ _ _)))
          refine wpQuiet_nil ?_
          rintro _ ⟨nq, rfl⟩
          have HO4 := own_ext HO2 (Ext.drewN wr nq)
          have HX4 := HX2.trans (Ext.drewN wr nq)
          clear hix3 hc3 hc4
          go_wp2_with (refine wpList_set rfl rfl _ _ 3 rfl slInts HO4 k hkl rfl (.int .i64 (fadd p (mixS p r L m k) (fmul p (fpow p r m) (nth (nthL L m) k)))) rfl rfl (by intro u hu; simp [Value.cells] at hu; subst hu; rfl) ?_; intro w7 HO7 HG7; rw [S.out] at HO7; have HX7 := Ext.own_grown HX4 HO4 HG7)
          go_roundw
          case rel => exact ⟨k + 1, by omega, by go_num, HO7, HX7⟩
          case measure => simp [intOf]; omega
        · obtain rfl : k = n := by omega
          rw [← mixP_zero] at HO2
          go_wp2_with fail
          go_roundw
          case rel => exact ⟨m + 1, by omega, by go_num, HO2, HX2⟩
          case measure => simp [intOf]; omega
    · obtain rfl : m = L.length := by omega
      have HI := Lib.hid (Ints.of_own HO1)
      rw [← HNN.out, mixP_all] at HI
      go_wp2_with fail
      go_ret
      exact .mk _ rfl HX1 HI.out

set_option maxRecDepth 100000 in
set_option maxHeartbeats 1000000 in
theorem Mix_bad {w : World} (pf : Option Addr) {vr : Value} {L : List (List Int)} {R : Nat → Value} (hr : RwsAt w vr L R) (r : Int) (hb : mixBad L = true) :
    Calls Tryd.prog 19 #[.pointer pf, vr, .int .i64 r] w fun e w' => e = .returned (.tuple #[.slice none 0 0, errv 2]) ∧ Ext w w' := by
  have hlr := hr.run_len (P := Tryd.prog) slRows
  have hlen := hr.len
  have hsh : ∃ ao cap, vr = .slice ao L.length cap := by obtain ⟨ao, cap, h, -⟩ := hr.sl; exact ⟨ao, cap, h⟩
  obtain ⟨ao, cap, rfl⟩ := hsh
  have HR := Lib.hid hr; clear hr
  rw [errv_pos (by decide)]
  have k1 := cell_new w #[.pointer pf] 45 0
  have k2 := cell_new (w.alloc (Obj.cells #[.pointer pf] 45)) #[.slice ao L.length cap] 23 0
  rw [show (w.alloc (Obj.cells #[.pointer pf] 45)).heap.size = w.heap.size + 1 by simp] at k2
  have k3 := cell_new ((w.alloc (Obj.cells #[.pointer pf] 45)).alloc (Obj.cells #[.slice ao L.length cap] 23)) #[.int .i64 r] 3 0
  rw [show ((w.alloc (Obj.cells #[.pointer pf] 45)).alloc (Obj.cells #[.slice ao L.length cap] 23)).heap.size = w.heap.size + 1 + 1 by simp] at k3
  have x2 := Ext.alloc (w.alloc (Obj.cells #[.pointer pf] 45)) (Obj.cells #[.slice ao L.length cap] 23)
  have x3 := Ext.alloc ((w.alloc (Obj.cells #[.pointer pf] 45)).alloc (Obj.cells #[.slice ao L.length cap] 23)) (Obj.cells #[.int .i64 r] 3)
  have hx := ((Ext.alloc w (Obj.cells #[.pointer pf] 45)).trans x2).trans x3
  have e1 : (((w.alloc (Obj.cells #[.pointer pf] 45)).alloc (Obj.cells #[.slice ao L.length cap] 23)).alloc (Obj.cells #[.int .i64 r] 3)).cell? ⟨w.heap.size, 0, none⟩ = some (.pointer pf) := (x2.trans x3).cell k1
  have e2 : (((w.alloc (Obj.cells #[.pointer pf] 45)).alloc (Obj.cells #[.slice ao L.length cap] 23)).alloc (Obj.cells #[.int .i64 r] 3)).cell? ⟨w.heap.size + 1, 0, none⟩ = some (.slice ao L.length cap) := x3.cell k2
  have e3 : (((w.alloc (Obj.cells #[.pointer pf] 45)).alloc (Obj.cells #[.slice ao L.length cap] 23)).alloc (Obj.cells #[.int .i64 r] 3)).cell? ⟨w.heap.size + 1 + 1, 0, none⟩ = some (.int .i64 r) := k3
  clear k1 k2 k3 x2 x3
  by_cases h0 : L.length = 0
  · clear hb
    go_enter Tryd.func19, Tryd.ntmps19
    go_wp2_with fail
    go_ret2
    exact ⟨rfl, by rw [h0] at hx; exact hx⟩
  · have hfit : fitB ((nthL L 0).length : Int) L = false := by
      unfold mixBad at hb
      rw [decide_eq_false h0] at hb
      simpa using hb
    have hl0 : 0 < L.length := by omega
    have hq : ((L.length : Int) == 0) = false := by rw [beq_eq_false_iff_ne]; omega
    have HB := Lib.hid hfit
    clear hb hfit h0
    go_enter Tryd.func19, Tryd.ntmps19
    go_wp2_with (go_at_call 68; refine (mcontains_any (HR.out.ext hx) (HR.out.ext hx) hl0 e2).mono ?_; rw [HB.out]; rintro e w2 hrd; obtain ⟨rfl, hx2⟩ := hrd.ext; clear hrd)
    go_ret2
    exact ⟨rfl, hx.trans hx2⟩

set_option maxRecDepth 100000 in
set_option maxHeartbeats 1000000 in
theorem Mix_ok {w : World} {pf : Option Addr} {p g : Int} {fs : List Int} (hf : Fld w (.pointer pf) p g fs) {vr : Value} {L : List (List Int)} {R : Nat → Value} (hr : RwsAt w vr L R) (r : Int) (hb : mixBad L = false) (hn : (nthL L 0).length ≤ 1048576) (hL : L.length ≤ 1048576) :
    Calls Tryd.prog 19 #[.pointer pf, vr, .int .i64 r] w (Gives w fun v w' => ∃ u, v = .tuple #[u, .nilIface] ∧ Ints w' u (mixL p r L)) := by
  have hlr := hr.run_len (P := Tryd.prog) slRows
  have hsh : ∃ ao cap, vr = .slice ao L.length cap := by obtain ⟨ao, cap, h, -⟩ := hr.sl; exact ⟨ao, cap, h⟩
  obtain ⟨ao, cap, rfl⟩ := hsh
  have HR := Lib.hid hr; have C := Lib.hid hf; clear hr hf
  have hb2 : ¬ L.length = 0 ∧ fitB ((nthL L 0).length : Int) L = true := by
    unfold mixBad at hb
    simp only [Bool.or_eq_false_iff, decide_eq_false_iff_not, Bool.not_eq_false'] at hb
    exact hb
  obtain ⟨h0, hfit⟩ := hb2
  have hl0 : 0 < L.length := by omega
  have hq : ((L.length : Int) == 0) = false := by rw [beq_eq_false_iff_ne]; omega
  have HB := Lib.hid hfit
  clear hb hfit h0
  have k1 := cell_new w #[.pointer pf] 45 0
  have k2 := cell_new (w.alloc (Obj.cells #[.pointer pf] 45)) #[.slice ao L.length cap] 23 0
  rw [show (w.alloc (Obj.cells #[.pointer pf] 45)).heap.size = w.heap.size + 1 by simp] at k2
  have k3 := cell_new ((w.alloc (Obj.cells #[.pointer pf] 45)).alloc (Obj.cells #[.slice ao L.length cap] 23)) #[.int .i64 r] 3 0
  rw [show ((w.alloc (Obj.cells #[.pointer pf] 45)).alloc (Obj.cells #[.slice ao L.length cap] 23)).heap.size = w.heap.size + 1 + 1 by simp] at k3
  have x2 := Ext.alloc (w.alloc (Obj.cells #[.pointer pf] 45)) (Obj.cells #[.slice ao L.length cap] 23)
  have x3 := Ext.alloc ((w.alloc (Obj.cells #[.pointer pf] 45)).alloc (Obj.cells #[.slice ao L.length cap] 23)) (Obj.cells #[.int .i64 r] 3)
  have hx := ((Ext.alloc w (Obj.cells #[.pointer pf] 45)).trans x2).trans x3
  have e1 : (((w.alloc (Obj.cells #[.pointer pf] 45)).alloc (Obj.cells #[.slice ao L.length cap] 23)).alloc (Obj.cells #[.int .i64 r] 3)).cell? ⟨w.heap.size, 0, none⟩ = some (.pointer pf) := (x2.trans x3).cell k1
  have e2 : (((w.alloc (Obj.cells #[.pointer pf] 45)).alloc (Obj.cells #[.slice ao L.length cap] 23)).alloc (Obj.cells #[.int .i64 r] 3)).cell? ⟨w.heap.size + 1, 0, none⟩ = some (.slice ao L.length cap) := x3.cell k2
  have e3 : (((w.alloc (Obj.cells #[.pointer pf] 45)).alloc (Obj.cells #[.slice ao L.length cap] 23)).alloc (Obj.cells #[.int .i64 r] 3)).cell? ⟨w.heap.size + 1 + 1, 0, none⟩ = some (.int .i64 r) := k3
  clear k1 k2 k3 x2 x3
  go_enter Tryd.func19, Tryd.ntmps19
  go_wp2_with (first | (go_at_call 68; refine (mcontains_any (HR.out.ext hx) (HR.out.ext hx) hl0 e2).mono ?_; rw [HB.out]; rintro e w2 hrd; obtain ⟨rfl, hx2⟩ := hrd.ext; clear hrd; replace e1 := hx2.cell e1; replace e2 := hx2.cell e2; replace e3 := hx2.cell e3; replace hx2 := hx.trans hx2) | (go_at_call 70; refine (weighed_any (C.out.ext hx2) (HR.out.ext hx2) hl0 HB.out r _ _ e1 e3 hn hL).mono ?_; rintro e w3 ⟨u, rfl, hx3, hu⟩; have HU := Lib.hid hu; clear hu))
  go_ret2
  exact .mk _ rfl (hx2.trans hx3) ⟨_, rfl, HU.out⟩
end Go.Proofs.YthlnjfnlhgnblaaDoor
