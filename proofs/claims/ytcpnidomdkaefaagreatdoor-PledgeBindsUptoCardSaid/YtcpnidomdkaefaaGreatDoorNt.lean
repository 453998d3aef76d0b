/- What pledge.Check leans on: tree.Check, its closures, what a table is by its point: contracts. -/
import Derived.Test.YtcpnidomdkaefaaGreatDoorNo
import Derived.Test.YtcpnidomdkaefaaGreatDoorZx21
import Derived.BigQuiet
namespace Go.Att
open Go.RowKit
theorem shl_pow {a : Nat} (h : a ≤ 6) : IntKind.i64.wrap ((2 : Int) ^ a) = ((2 ^ a : Nat) : Int) := by
  have h6 : a = 0 ∨ a = 1 ∨ a = 2 ∨ a = 3 ∨ a = 4 ∨ a = 5 ∨ a = 6 := by omega
  rcases h6 with rfl | rfl | rfl | rfl | rfl | rfl | rfl <;> decide
end Go.Att
namespace Go.Proofs.YtcpnidomdkaefaaGreatDoor
open Go.RowKit Go.Att
section
variable {w : World} {bs : Nat} {p : Int} {k : Nat} {tv pv rv nv : Value} {top pl : List Int} {rows nodes : List (List Int)} {RR NR : Nat → Value}
set_option maxRecDepth 100000 in
set_option maxHeartbeats 4000000 in
theorem tcheck_any (hs : Spg w (.pointer (some ⟨bs, 0, none⟩)) p k) (ht : Ints w tv top) (hp : Ints w pv pl) (hr : RwsAt w rv rows RR) (hn : RwsAt w nv nodes NR) (hpl : pl.length ≤ 1000000) (hrw : ∀ i, i < rows.length → (nthL rows i).length ≤ 4294960000) (n : Nat) (hn1 : 1 ≤ n) (hn2 : n ≤ 65536) :
    Calls Tryz.prog 38 #[.pointer (some ⟨bs, 0, none⟩), tv, .int .i64 n, .agg #[pv, rv, nv]] w fun e w' => e = .returned (.bool (treeB p k top n pl rows nodes)) ∧ Ext w w' := by
  have hX := Ext.alloc w (Obj.cells #[pv, rv, nv] 25)
  have HX := Lib.hid hX
  have HB := Lib.hid (BlkOf.new w [pv, rv, nv] 25)
  have CF := Lib.hid (fun W (hx : Ext w W) => follow_any (hs.ext hx) (ht.ext hx) (hp.ext hx) (hr.ext hx) (hn.ext hx) hpl hrw n hn1 hn2)
  obtain ⟨r, hr'⟩ : ∃ r, treeB p k top n pl rows nodes = r := ⟨_, rfl⟩
  rw [hr']
  have HR := Lib.hid hr'
  clear hX hs ht hp hr hn hrw hr'
  go_enter Tryz.func38, Tryz.ntmps38
  go_upto_region 1 with (fail)
  generalize w.alloc (Obj.cells #[pv, rv, nv] 25) = W0 at *
  have k0 : W0.cell? ⟨w.heap.size, 0, none⟩ = some pv := HB.out.cell 0
  have k1 : W0.cell? ⟨w.heap.size, 1, none⟩ = some rv := HB.out.cell 1
  have k2 : W0.cell? ⟨w.heap.size, 2, none⟩ = some nv := HB.out.cell 2
  go_wp2_with (go_at_call 60; refine (CF.out _ HX.out).mono ?_; rintro e w1 ⟨u, rfl, hx1, -⟩)
  go_ret
  exact ⟨by rw [← HR.out]; rfl, HX.out.trans hx1⟩
end
theorem pasks_any (w : World) (a : Int) : Calls Tryz.prog 30 #[.int .i64 a] w fun e w' => e = .returned (.bool (decide (1 ≤ a ∧ a ≤ 64))) ∧ w = w' := by
  obtain ⟨r, hr⟩ : ∃ r, decide (1 ≤ a ∧ a ≤ 64) = r := ⟨_, rfl⟩
  rw [hr]
  have HR := Lib.hid hr
  clear hr
  by_cases h1 : 1 ≤ a
  · by_cases h2 : a ≤ 64
    · have HF := Lib.hid (show r = true from by rw [← HR.out]; exact decide_eq_true ⟨h1, h2⟩)
      go_enter Tryz.func30, Tryz.ntmps30
      go_wp2
      go_ret
      exact ⟨by rw [HF.out]; rfl, rfl⟩
    · have HF := Lib.hid (show r = false from by rw [← HR.out]; exact decide_eq_false (by omega))
      go_enter Tryz.func30, Tryz.ntmps30
      go_wp2
      go_ret
      exact ⟨by rw [HF.out]; rfl, rfl⟩
  · have HF := Lib.hid (show r = false from by rw [← HR.out]; exact decide_eq_false (by omega))
    go_enter Tryz.func30, Tryz.ntmps30
    go_wp2
    go_ret
    exact ⟨by rw [HF.out]; rfl, rfl⟩
section
variable {w : World} {ks q1 q2 : Nat}
theorem pck1_enter (xs : Array Value) (W : World) : (callFunc 36 xs).run Tryz.prog W = .ok (.enter 36 xs) W := by kernel_rfl
theorem pck2_enter (xs : Array Value) (W : World) : (callFunc 41 xs).run Tryz.prog W = .ok (.enter 41 xs) W := by kernel_rfl
theorem pck3_enter (xs : Array Value) (W : World) : (callFunc 43 xs).run Tryz.prog W = .ok (.enter 43 xs) W := by kernel_rfl
/-- Is a row of another width? -/
theorem pck1_any {v : Value} {l : List Int} (h : Ints w v l) {a : Nat} (ha : a ≤ 6) (h1 : w.cell? ⟨q1, 0, none⟩ = some (.pointer (some ⟨ks, 0, none⟩))) (k2 : w.cell? ⟨ks, 2, none⟩ = some (.int .i64 a)) :
    Calls Tryz.prog 36 #[v, .pointer (some ⟨q1, 0, none⟩)] w (Rd w (.bool (decide (l.length ≠ 2 ^ a)))) := by
  have hl := h.run_len (P := Tryz.prog) slInts
  have hln := h.len
  have hsh := shl_pow ha
  have hpb : (2 : Nat) ^ a ≤ 64 := Nat.le_trans (Nat.pow_le_pow_right (by decide) ha) (by decide)
  clear h
  obtain ⟨M, hM⟩ : ∃ M, (2 : Nat) ^ a = M := ⟨_, rfl⟩
  rw [hM] at hsh hpb ⊢
  clear hM
  have h0a : (0 : Int) ≤ a ∧ (a : Int) ≤ 6 := by omega
  by_cases h4 : l.length = M
  · rw [h4] at hl
    have HF := Lib.hid (show decide (l.length ≠ M) = false from decide_eq_false (by omega))
    clear h4
    go_enter Tryz.func36, Tryz.ntmps36
    go_wp2
    go_ret
    exact .same (by rw [HF.out]; first | rfl | (congr 1; simp; done))
  · have HF := Lib.hid (show decide (l.length ≠ M) = true from decide_eq_true h4)
    have hne : ¬ ((l.length : Int) = (M : Int)) := by omega
    have hnf : ((l.length : Int) != (M : Int)) = true := by rw [bne_iff_ne]; exact hne
    clear h4
    go_enter Tryz.func36, Tryz.ntmps36
    go_wp2
    go_ret
    exact .same (by rw [HF.out]; first | rfl | (rw [hnf]) | (congr 1; simp; omega))
end
section
variable {w : World} {bf : Nat} {p g : Int} {fs : List Int} {ks q1 q2 : Nat}
theorem pownat_q (hf : Fld w (.pointer (some ⟨bf, 0, none⟩)) p g fs) (a : Int) (i : Nat) (hi : i ≤ 9223372036854775807) (m : Nat) : Calls Tryz.prog 42 #[.pointer (some ⟨bf, 0, none⟩), .int .i64 a, .int .i64 i] (w.drewN m) fun e w'' => e = .returned (.int .i64 (fpow p a i)) ∧ ∃ m, w'' = w.drewN m := pow_q hf a i (by omega) (by omega) m
set_option maxRecDepth 100000 in
set_option maxHeartbeats 2000000 in
theorem pck2_any (hf : Fld w (.pointer (some ⟨bf, 0, none⟩)) p g fs) (h1 : w.cell? ⟨q1, 0, none⟩ = some (.pointer (some ⟨ks, 0, none⟩))) (k0 : w.cell? ⟨ks, 0, none⟩ = some (.pointer (some ⟨bf, 0, none⟩))) (r : Int) (h2 : w.cell? ⟨q2, 0, none⟩ = some (.int .i64 r)) (i : Nat) (hi : i ≤ 9223372036854775807) :
    Calls Tryz.prog 41 #[.int .i64 i, .pointer (some ⟨q1, 0, none⟩), .pointer (some ⟨q2, 0, none⟩)] w (Rd w (.int .i64 (fpow p r i))) := by
  have HF := Lib.hid hf
  clear hf
  go_enter Tryz.func41, Tryz.ntmps41
  go_wp2_with fail
  go_quiet ((go_at_call 42; exact pownat_q HF.out r i hi _))
  go_wp2_with fail
  go_ret
  exact .more _ rfl
set_option maxRecDepth 100000 in
set_option maxHeartbeats 2000000 in
theorem pck3_any (hf : Fld w (.pointer (some ⟨bf, 0, none⟩)) p g fs) (h1 : w.cell? ⟨q1, 0, none⟩ = some (.pointer (some ⟨ks, 0, none⟩))) (k0 : w.cell? ⟨ks, 0, none⟩ = some (.pointer (some ⟨bf, 0, none⟩))) {a : Nat} (k2 : w.cell? ⟨ks, 2, none⟩ = some (.int .i64 a)) {va : Value} {at_ : List Int} (h2 : w.cell? ⟨q2, 0, none⟩ = some va) (hv : Ints w va at_) (ha : a ≤ at_.length) (hal : at_.length ≤ 30) (i : Nat) (hi : i ≤ 9223372036854775807) :
    Calls Tryz.prog 43 #[.int .i64 i, .pointer (some ⟨q1, 0, none⟩), .pointer (some ⟨q2, 0, none⟩)] w (Rd w (.int .i64 (wgt (at_.take a) i % p))) := by
  have HF := Lib.hid hf
  have htk := hv.run_take (P := Tryz.prog) slInts a ha
  have HTK := Lib.hid (hv.take a ha)
  have HTL := Lib.hid (show (at_.take a).length ≤ 30 from by rw [List.length_take]; omega)
  have HI := Lib.hid hi
  clear hf hv
  go_enter Tryz.func43, Tryz.ntmps43
  go_wp2_with fail
  go_quiet ((go_at_call 44; exact Calls.quiet_of (unit_any (HF.out.drewN _) _ (at_.take a) i (HTK.out.drewN _) HTL.out HI.out)))
  go_wp2_with fail
  go_ret
  exact .more _ rfl
set_option maxRecDepth 100000 in
set_option maxHeartbeats 4000000 in
theorem pis_any (hf : Fld w (.pointer (some ⟨bf, 0, none⟩)) p g fs) (k0 : w.cell? ⟨ks, 0, none⟩ = some (.pointer (some ⟨bf, 0, none⟩))) {a : Nat} (k2 : w.cell? ⟨ks, 2, none⟩ = some (.int .i64 a)) {vp va : Value} {point at_ : List Int} (hp : Ints w vp point) (hv : Ints w va at_) (ha : a ≤ at_.length) (hal : at_.length ≤ 30) :
    Calls Tryz.prog 45 #[.pointer (some ⟨ks, 0, none⟩), vp, va] w fun e w' => e = .returned (.int .i64 (dtU p (nth point) (unitsL p (at_.drop a) point.length) point.length)) ∧ Ext w w' := by
  have hlp := hp.run_len (P := Tryz.prog) slInts
  have hln := hp.len
  have HF := Lib.hid hf; have HP := Lib.hid hp
  have htd := hv.run_drop (P := Tryz.prog) slInts a ha
  have HTD := Lib.hid (hv.drop a ha)
  have HTL := Lib.hid (show (at_.drop a).length ≤ 30 from by rw [List.length_drop]; omega)
  have HK0 := Lib.hid k0; have HK2 := Lib.hid k2
  clear hf hp hv k0 k2
  go_enter Tryz.func45, Tryz.ntmps45
  go_wp2_with fail
  go_loopw [7, 8, 9, 12] (fun x7 _ _ x12 wr => ∃ i : Nat, i ≤ point.length ∧ x12 = .int .i64 i ∧ x7 = .int .i64 (dtU p (nth point) (unitsL p (at_.drop a) point.length) i) ∧ Hid (Ext w wr)) (fun _ _ _ x12 _ => point.length - (intOf x12).toNat)
  case atStart => exact ⟨0, Nat.zero_le _, rfl, rfl, Lib.hid (Ext.refl _)⟩
  case round =>
    obtain ⟨i, hi, rfl, rfl, HX⟩ := hrel
    by_cases hil : i < point.length
    · have hix := HP.out.run_index (P := Tryz.prog) slInts i hil
      have hcx := HX.out.cell (HP.out.cell i hil)
      have k0 := HX.out.cell HK0.out
      have k2 := HX.out.cell HK2.out
      have ST := Lib.hid (show fadd p (dtU p (nth point) (unitsL p (at_.drop a) point.length) i) (fmul p (nth point i) (wgt (at_.drop a) i % p)) = dtU p (nth point) (unitsL p (at_.drop a) point.length) (i + 1) from by rw [dtU, unitsL_nth p _ hil])
      obtain ⟨x, hx⟩ : ∃ x, nth point i = x := ⟨_, rfl⟩
      obtain ⟨s, hs⟩ : ∃ s, dtU p (nth point) (unitsL p (at_.drop a) point.length) i = s := ⟨_, rfl⟩
      obtain ⟨u, hu⟩ : ∃ u, wgt (at_.drop a) i % p = u := ⟨_, rfl⟩
      have CU := Lib.hid (fun m => Calls.quiet_of (unit_any ((HF.out.ext HX.out).drewN m) _ (at_.drop a) i ((HTD.out.ext HX.out).drewN m) HTL.out (by omega)))
      rw [hx] at hcx ST
      rw [hs] at ST ⊢
      have HIL := Lib.hid hil
      have HFW := Lib.hid (HF.out.ext HX.out)
      rw [hu] at ST CU
      clear hx hs hu
      go_wp2_with fail
      go_quiet (first | (go_at_call 44; exact CU.out _) | (go_at_call 94; exact mul_q HFW.out _ _ _) | (go_at_call 65; exact add_q HFW.out _ _ _))
      go_wp2_with fail
      go_roundw
      case rel => exact ⟨i + 1, by have := HIL.out; omega, by go_num, by rw [ST.out], Lib.hid (HX.out.trans (Ext.drewN _ _))⟩
      case measure => have := HIL.out; simp [intOf]; omega
    · obtain rfl : i = point.length := by omega
      go_wp2_with fail
      go_ret
      exact ⟨rfl, HX.out⟩
end
end Go.Proofs.YtcpnidomdkaefaaGreatDoor
