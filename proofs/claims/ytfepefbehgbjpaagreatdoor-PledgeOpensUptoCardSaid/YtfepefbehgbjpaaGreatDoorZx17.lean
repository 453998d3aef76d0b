/- Whether an opening shows just these places, in rows of a width: attestref5.Shows: contract. How a pledge that came in reads: three lists, and an opening of a list and two lists of lists; how long they are. What a pledge says, in plain words: what both sides' Check come to. No program in sight. What pledge.Check leans on: tree.Check, its closures, what a table is by its point: contracts. What a pledge says, the program's side: pledge.Check: contracts. Printed by wip/mknu.py. What a pledge says, the document's side: attestref12.Check: contract. What shows a table at a point, the program's side, where it refuses: contract. Printed by wip/mkom.py. Are two openings, two pledges the same, where they are; and what a chain's digest is: contracts. Printed by wip/mkop.py. -/
import Derived.Test.YtfepefbehgbjpaaGreatDoorNk
import Derived.Test.YtfepefbehgbjpaaGreatDoorZx19
import Derived.Test.YtfepefbehgbjpaaGreatDoorNm
import Derived.Test.YtfepefbehgbjpaaGreatDoorZx18
import Derived.Test.YtfepefbehgbjpaaGreatDoorNo
import Derived.BigQuiet
import Derived.Deep.RegionHeld3
import Derived.Deep.DrawnRows
import Derived.Test.YtfepefbehgbjpaaGreatDoorJg
import Derived.Test.YtfepefbehgbjpaaGreatDoorZx13
import Derived.Test.YtfepefbehgbjpaaGreatDoorZx10
import Derived.Test.YtfepefbehgbjpaaGreatDoorZx14
import Derived.Test.YtfepefbehgbjpaaGreatDoorSn
section
namespace Go.Att
open Go.RowKit
def showsB (p : Int) (k : Nat) (root : List Int) (n : Nat) (pl : List Int) (rows nodes : List (List Int)) (L : List Int) (wd : Nat) : Bool := (pl == L) && (rows.all fun l => decide (l.length = wd)) && treeB p k root n pl rows nodes
end Go.Att
namespace Go.Proofs.YtfepefbehgbjpaaGreatDoor
open Go.RowKit Go.Att
end Go.Proofs.YtfepefbehgbjpaaGreatDoor
end
section
namespace Go.Att
open Go.RowKit
structure Pld where
  root : List Int
  mixed : List Int
  point : List Int
  places : List Int
  rows : List (List Int)
  nodes : List (List Int)
structure PldAt (w : World) (a b c d e f : Value) (o : Pld) : Prop where
  root : Ints w a o.root
  mixed : Ints w b o.mixed
  point : Ints w c o.point
  places : Ints w d o.places
  rows : Rws w e o.rows
  nodes : Rws w f o.nodes
theorem PldAt.ext {w w' : World} {a b c d e f : Value} {o : Pld} (h : PldAt w a b c d e f o) (hx : Ext w w') : PldAt w' a b c d e f o :=
  ⟨h.root.ext hx, h.mixed.ext hx, h.point.ext hx, h.places.ext hx, let ⟨R, hR⟩ := h.rows; ⟨R, hR.ext hx⟩, let ⟨R, hR⟩ := h.nodes; ⟨R, hR.ext hx⟩⟩
structure PldLe (o : Pld) (n : Nat) : Prop where
  root : o.root.length ≤ n
  mixed : o.mixed.length ≤ n
  point : o.point.length ≤ n
  places : o.places.length ≤ n
  rows : o.rows.length ≤ n
  row : ∀ i, i < o.rows.length → (nthL o.rows i).length ≤ n
  nodes : o.nodes.length ≤ n
  node : ∀ i, i < o.nodes.length → (nthL o.nodes i).length ≤ n
end Go.Att
namespace Go.Proofs.YtfepefbehgbjpaaGreatDoor
open Go.RowKit Go.Att Go.ChangeShapes Go.WideShapes Go.Deep
section
variable {H : Type} {enc : TypeId × Value → H} {P : Program} {w : World} {base : Nat} {spare : Nat → Bool} {held : Bool}
end
end Go.Proofs.YtfepefbehgbjpaaGreatDoor
end
section
namespace Go.Att
open Go.RowKit
def plD2 (p : Int) (k : Nat) (D : List Int) (o : Pld) (at_ : List Int) : List Int := stepP p k 3 (stepP p k 3 D o.root) at_
def plD3 (p : Int) (k : Nat) (D : List Int) (o : Pld) (at_ : List Int) : List Int := stepP p k 4 (plD2 p k D o at_) []
def plR (p : Int) (k : Nat) (D : List Int) (o : Pld) (at_ : List Int) : Int := nth (plD3 p k D o at_) 0
def plD5 (p : Int) (k : Nat) (D : List Int) (o : Pld) (at_ : List Int) : List Int := stepP p k 3 (stepP p k 3 (plD3 p k D o at_) o.mixed) o.point
def plL (p : Int) (k : Nat) (D : List Int) (o : Pld) (at_ : List Int) (n : Int) (asked : Nat) : List Int := onceL (plcL p k (plD5 p k D o at_) n asked)
def plOk (p sh rt r : Int) (a : Nat) (at_ : List Int) (o : Pld) (L : List Int) (i : Nat) : Bool :=
  (dtU p (fun j => fpow p r j) (nthL o.rows i) (2 ^ a) == ev o.mixed (ptAt p sh rt (nth L i).toNat) % p) &&
  (dtU p (fun j => wgt (at_.take a) j % p) (nthL o.rows i) (2 ^ a) == ev o.point (ptAt p sh rt (nth L i).toNat) % p)
def plAll (p sh rt r : Int) (a : Nat) (at_ : List Int) (o : Pld) (L : List Int) : Bool := (List.range L.length).all (plOk p sh rt r a at_ o L)
def plN (p : Int) (a c : Nat) (at_ : List Int) (o : Pld) : Int := dtU p (nth o.point) (unitsL p (at_.drop a) (2 ^ c)) (2 ^ c)
def plShow (p : Int) (k : Nat) (n : Nat) (a : Nat) (o : Pld) (L : List Int) : Bool := showsB p k o.root n o.places o.rows o.nodes L (2 ^ a)
def plFit (c : Nat) (o : Pld) : Bool := decide (o.mixed.length = 2 ^ c) && decide (o.point.length = 2 ^ c)
def plV (p : Int) (k : Nat) (sh rt : Int) (n : Nat) (D : List Int) (v : Nat) (at_ : List Int) (asked : Nat) (o : Pld) : Int × Bool :=
  if (plFit (v - v / 2) o && (plShow p k n (v / 2) o (plL p k D o at_ n asked) && plAll p sh rt (plR p k D o at_) (v / 2) at_ o (plL p k D o at_ n asked))) = true then (plN p (v / 2) (v - v / 2) at_ o, true) else (0, false)
theorem plAll_not {p sh rt r : Int} {a : Nat} {at_ : List Int} {o : Pld} {L : List Int} {i : Nat} (hi : i < L.length) (h : plOk p sh rt r a at_ o L i = false) : plAll p sh rt r a at_ o L = false := by
  cases hb : plAll p sh rt r a at_ o L with
  | false => rfl
  | true =>
    have := List.all_eq_true.1 hb i (List.mem_range.2 hi)
    rw [h] at this; cases this
theorem plAll_yes {p sh rt r : Int} {a : Nat} {at_ : List Int} {o : Pld} {L : List Int} (h : ∀ j, j < L.length → plOk p sh rt r a at_ o L j = true) : plAll p sh rt r a at_ o L = true := List.all_eq_true.2 fun i hi => h i (List.mem_range.1 hi)
theorem plL_in {p : Int} {k : Nat} {D : List Int} {o : Pld} {at_ : List Int} {n : Int} {asked : Nat} (hn : 1 ≤ n) {i : Nat} (hi : i < (plL p k D o at_ n asked).length) : 0 ≤ nth (plL p k D o at_ n asked) i ∧ nth (plL p k D o at_ n asked) i < n := by
  have := nth_mem hi
  exact plcL_in hn ((onceL_mem _).1 this)
theorem plL_len {p : Int} {k : Nat} {D : List Int} {o : Pld} {at_ : List Int} {n : Int} {asked : Nat} : (plL p k D o at_ n asked).length ≤ asked := by
  have := once_len (plcL p k (plD5 p k D o at_) n asked)
  rw [plcL_length] at this; exact this
theorem plShow_row {p : Int} {k n a : Nat} {o : Pld} {L : List Int} (h : plShow p k n a o L = true) : o.places = L ∧ o.rows.length = L.length ∧ ∀ i, i < o.rows.length → (nthL o.rows i).length = 2 ^ a := by
  unfold plShow showsB at h
  simp only [Bool.and_eq_true, beq_iff_eq, List.all_eq_true, decide_eq_true_eq] at h
  obtain ⟨⟨h1, h2⟩, h3⟩ := h
  unfold treeB at h3
  simp only [Bool.and_eq_true, decide_eq_true_eq] at h3
  refine ⟨h1, by rw [← h1]; exact h3.1.1.2, fun i hi => h2 _ (by rw [nthL_eq hi]; exact List.getElem_mem hi)⟩
end Go.Att
end
section
namespace Go.Att
open Go.RowKit
theorem shl_pow {a : Nat} (h : a ≤ 6) : IntKind.i64.wrap ((2 : Int) ^ a) = ((2 ^ a : Nat) : Int) := by
  have h6 : a = 0 ∨ a = 1 ∨ a = 2 ∨ a = 3 ∨ a = 4 ∨ a = 5 ∨ a = 6 := by omega
  rcases h6 with rfl | rfl | rfl | rfl | rfl | rfl | rfl <;> decide
end Go.Att
namespace Go.Proofs.YtfepefbehgbjpaaGreatDoor
open Go.RowKit Go.Att
section
variable {w : World} {bs : Nat} {p : Int} {k : Nat} {tv pv rv nv : Value} {top pl : List Int} {rows nodes : List (List Int)} {RR NR : Nat → Value}
set_option maxRecDepth 100000 in
set_option maxHeartbeats 4000000 in
theorem tcheck_any (hs : Spg w (.pointer (some ⟨bs, 0, none⟩)) p k) (ht : Ints w tv top) (hp : Ints w pv pl) (hr : RwsAt w rv rows RR) (hn : RwsAt w nv nodes NR) (hpl : pl.length ≤ 1000000) (hrw : ∀ i, i < rows.length → (nthL rows i).length ≤ 4294960000) (n : Nat) (hn1 : 1 ≤ n) (hn2 : n ≤ 65536) :
    Calls Tryz.prog 59 #[.pointer (some ⟨bs, 0, none⟩), tv, .int .i64 n, .agg #[pv, rv, nv]] w fun e w' => e = .returned (.bool (treeB p k top n pl rows nodes)) ∧ Ext w w' := by
  have hX := Ext.alloc w (Obj.cells #[pv, rv, nv] 31)
  have HX := Lib.hid hX
  have HB := Lib.hid (BlkOf.new w [pv, rv, nv] 31)
  have CF := Lib.hid (fun W (hx : Ext w W) => follow_any (hs.ext hx) (ht.ext hx) (hp.ext hx) (hr.ext hx) (hn.ext hx) hpl hrw n hn1 hn2)
  obtain ⟨r, hr'⟩ : ∃ r, treeB p k top n pl rows nodes = r := ⟨_, rfl⟩
  rw [hr']
  have HR := Lib.hid hr'
  clear hX hs ht hp hr hn hrw hr'
  go_enter Tryz.func59, Tryz.ntmps59
  go_upto_region 1 with (fail)
  generalize w.alloc (Obj.cells #[pv, rv, nv] 31) = W0 at *
  have k0 : W0.cell? ⟨w.heap.size, 0, none⟩ = some pv := HB.out.cell 0
  have k1 : W0.cell? ⟨w.heap.size, 1, none⟩ = some rv := HB.out.cell 1
  have k2 : W0.cell? ⟨w.heap.size, 2, none⟩ = some nv := HB.out.cell 2
  go_wp2_with (go_at_call 110; refine (CF.out _ HX.out).mono ?_; rintro e w1 ⟨u, rfl, hx1, -⟩)
  go_ret
  exact ⟨by rw [← HR.out]; rfl, HX.out.trans hx1⟩
end
theorem pasks_any (w : World) (a : Int) : Calls Tryz.prog 24 #[.int .i64 a] w fun e w' => e = .returned (.bool (decide (1 ≤ a ∧ a ≤ 64))) ∧ w = w' := by
  obtain ⟨r, hr⟩ : ∃ r, decide (1 ≤ a ∧ a ≤ 64) = r := ⟨_, rfl⟩
  rw [hr]
  have HR := Lib.hid hr
  clear hr
  by_cases h1 : 1 ≤ a
  · by_cases h2 : a ≤ 64
    · have HF := Lib.hid (show r = true from by rw [← HR.out]; exact decide_eq_true ⟨h1, h2⟩)
      go_enter Tryz.func24, Tryz.ntmps24
      go_wp2
      go_ret
      exact ⟨by rw [HF.out]; rfl, rfl⟩
    · have HF := Lib.hid (show r = false from by rw [← HR.out]; exact decide_eq_false (by omega))
      go_enter Tryz.func24, Tryz.ntmps24
      go_wp2
      go_ret
      exact ⟨by rw [HF.out]; rfl, rfl⟩
  · have HF := Lib.hid (show r = false from by rw [← HR.out]; exact decide_eq_false (by omega))
    go_enter Tryz.func24, Tryz.ntmps24
    go_wp2
    go_ret
    exact ⟨by rw [HF.out]; rfl, rfl⟩
section
variable {w : World} {ks q1 q2 : Nat}
theorem pck1_enter (xs : Array Value) (W : World) : (callFunc 57 xs).run Tryz.prog W = .ok (.enter 57 xs) W := by kernel_rfl
theorem pck2_enter (xs : Array Value) (W : World) : (callFunc 62 xs).run Tryz.prog W = .ok (.enter 62 xs) W := by kernel_rfl
theorem pck3_enter (xs : Array Value) (W : World) : (callFunc 63 xs).run Tryz.prog W = .ok (.enter 63 xs) W := by kernel_rfl
theorem pck1_any {v : Value} {l : List Int} (h : Ints w v l) {a : Nat} (ha : a ≤ 6) (h1 : w.cell? ⟨q1, 0, none⟩ = some (.pointer (some ⟨ks, 0, none⟩))) (k2 : w.cell? ⟨ks, 2, none⟩ = some (.int .i64 a)) :
    Calls Tryz.prog 57 #[v, .pointer (some ⟨q1, 0, none⟩)] w (Rd w (.bool (decide (l.length ≠ 2 ^ a)))) := by
  have hl := h.run_len (P := Tryz.prog) slInts
  have hln := h.len
  have hsh := shl_pow ha
  have hpb : (2 : Nat) ^ a ≤ 64 := Nat.le_trans (Nat.pow_le_pow_right (by decide) ha) (by decide)
  clear h
  obtain ⟨M, hM⟩ : ∃ M, (2 : Nat) ^ a = M := ⟨_, rfl⟩
  rw [hM] at hsh hpb ⊢
  clear hM
  have h0a : (0 : Int) ≤ a ∧ (a : Int) ≤ 6 := by omega
  by_cases h4 : l.length = M
  · rw [h4] at hl
    have HF := Lib.hid (show decide (l.length ≠ M) = false from decide_eq_false (by omega))
    clear h4
    go_enter Tryz.func57, Tryz.ntmps57
    go_wp2
    go_ret
    exact .same (by rw [HF.out]; first | rfl | (congr 1; simp; done))
  · have HF := Lib.hid (show decide (l.length ≠ M) = true from decide_eq_true h4)
    have hne : ¬ ((l.length : Int) = (M : Int)) := by omega
    have hnf : ((l.length : Int) != (M : Int)) = true := by rw [bne_iff_ne]; exact hne
    clear h4
    go_enter Tryz.func57, Tryz.ntmps57
    go_wp2
    go_ret
    exact .same (by rw [HF.out]; first | rfl | (rw [hnf]) | (congr 1; simp; omega))
end
section
variable {w : World} {bf : Nat} {p g : Int} {fs : List Int} {ks q1 q2 : Nat}
theorem pownat_q (hf : Fld w (.pointer (some ⟨bf, 0, none⟩)) p g fs) (a : Int) (i : Nat) (hi : i ≤ 9223372036854775807) (m : Nat) : Calls Tryz.prog 32 #[.pointer (some ⟨bf, 0, none⟩), .int .i64 a, .int .i64 i] (w.drewN m) fun e w'' => e = .returned (.int .i64 (fpow p a i)) ∧ ∃ m, w'' = w.drewN m := pow_q hf a i (by omega) (by omega) m
set_option maxRecDepth 100000 in
set_option maxHeartbeats 2000000 in
theorem pck2_any (hf : Fld w (.pointer (some ⟨bf, 0, none⟩)) p g fs) (h1 : w.cell? ⟨q1, 0, none⟩ = some (.pointer (some ⟨ks, 0, none⟩))) (k0 : w.cell? ⟨ks, 0, none⟩ = some (.pointer (some ⟨bf, 0, none⟩))) (r : Int) (h2 : w.cell? ⟨q2, 0, none⟩ = some (.int .i64 r)) (i : Nat) (hi : i ≤ 9223372036854775807) :
    Calls Tryz.prog 62 #[.int .i64 i, .pointer (some ⟨q1, 0, none⟩), .pointer (some ⟨q2, 0, none⟩)] w (Rd w (.int .i64 (fpow p r i))) := by
  have HF := Lib.hid hf
  clear hf
  go_enter Tryz.func62, Tryz.ntmps62
  go_wp2_with fail
  go_quiet ((go_at_call 32; exact pownat_q HF.out r i hi _))
  go_wp2_with fail
  go_ret
  exact .more _ rfl
set_option maxRecDepth 100000 in
set_option maxHeartbeats 2000000 in
theorem pck3_any (hf : Fld w (.pointer (some ⟨bf, 0, none⟩)) p g fs) (h1 : w.cell? ⟨q1, 0, none⟩ = some (.pointer (some ⟨ks, 0, none⟩))) (k0 : w.cell? ⟨ks, 0, none⟩ = some (.pointer (some ⟨bf, 0, none⟩))) {a : Nat} (k2 : w.cell? ⟨ks, 2, none⟩ = some (.int .i64 a)) {va : Value} {at_ : List Int} (h2 : w.cell? ⟨q2, 0, none⟩ = some va) (hv : Ints w va at_) (ha : a ≤ at_.length) (hal : at_.length ≤ 30) (i : Nat) (hi : i ≤ 9223372036854775807) :
    Calls Tryz.prog 63 #[.int .i64 i, .pointer (some ⟨q1, 0, none⟩), .pointer (some ⟨q2, 0, none⟩)] w (Rd w (.int .i64 (wgt (at_.take a) i % p))) := by
  have HF := Lib.hid hf
  have htk := hv.run_take (P := Tryz.prog) slInts a ha
  have HTK := Lib.hid (hv.take a ha)
  have HTL := Lib.hid (show (at_.take a).length ≤ 30 from by rw [List.length_take]; omega)
  have HI := Lib.hid hi
  clear hf hv
  go_enter Tryz.func63, Tryz.ntmps63
  go_wp2_with fail
  go_quiet ((go_at_call 34; exact Calls.quiet_of (unit_any (HF.out.drewN _) _ (at_.take a) i (HTK.out.drewN _) HTL.out HI.out)))
  go_wp2_with fail
  go_ret
  exact .more _ rfl
set_option maxRecDepth 100000 in
set_option maxHeartbeats 4000000 in
theorem pis_any (hf : Fld w (.pointer (some ⟨bf, 0, none⟩)) p g fs) (k0 : w.cell? ⟨ks, 0, none⟩ = some (.pointer (some ⟨bf, 0, none⟩))) {a : Nat} (k2 : w.cell? ⟨ks, 2, none⟩ = some (.int .i64 a)) {vp va : Value} {point at_ : List Int} (hp : Ints w vp point) (hv : Ints w va at_) (ha : a ≤ at_.length) (hal : at_.length ≤ 30) :
    Calls Tryz.prog 38 #[.pointer (some ⟨ks, 0, none⟩), vp, va] w fun e w' => e = .returned (.int .i64 (dtU p (nth point) (unitsL p (at_.drop a) point.length) point.length)) ∧ Ext w w' := by
  have hlp := hp.run_len (P := Tryz.prog) slInts
  have hln := hp.len
  have HF := Lib.hid hf; have HP := Lib.hid hp
  have htd := hv.run_drop (P := Tryz.prog) slInts a ha
  have HTD := Lib.hid (hv.drop a ha)
  have HTL := Lib.hid (show (at_.drop a).length ≤ 30 from by rw [List.length_drop]; omega)
  have HK0 := Lib.hid k0; have HK2 := Lib.hid k2
  clear hf hp hv k0 k2
  go_enter Tryz.func38, Tryz.ntmps38
  go_wp2_with fail
  go_loopw [7, 8, 9, 12] (fun x7 _ _ x12 wr => ∃ i : Nat, i ≤ point.length ∧ x12 = .int .i64 i ∧ x7 = .int .i64 (dtU p (nth point) (unitsL p (at_.drop a) point.length) i) ∧ Hid (Ext w wr)) (fun _ _ _ x12 _ => point.length - (intOf x12).toNat)
  case atStart => exact ⟨0, Nat.zero_le _, rfl, rfl, Lib.hid (Ext.refl _)⟩
  case round =>
    obtain ⟨i, hi, rfl, rfl, HX⟩ := hrel
    by_cases hil : i < point.length
    · have hix := HP.out.run_index (P := Tryz.prog) slInts i hil
      have hcx := HX.out.cell (HP.out.cell i hil)
      have k0 := HX.out.cell HK0.out
      have k2 := HX.out.cell HK2.out
      have ST := Lib.hid (show fadd p (dtU p (nth point) (unitsL p (at_.drop a) point.length) i) (fmul p (nth point i) (wgt (at_.drop a) i % p)) = dtU p (nth point) (unitsL p (at_.drop a) point.length) (i + 1) from by rw [dtU, unitsL_nth p _ hil])
      obtain ⟨x, hx⟩ : ∃ x, nth point i = x := ⟨_, rfl⟩
      obtain ⟨s, hs⟩ : ∃ s, dtU p (nth point) (unitsL p (at_.drop a) point.length) i = s := ⟨_, rfl⟩
      obtain ⟨u, hu⟩ : ∃ u, wgt (at_.drop a) i % p = u := ⟨_, rfl⟩
      have CU := Lib.hid (fun m => Calls.quiet_of (unit_any ((HF.out.ext HX.out).drewN m) _ (at_.drop a) i ((HTD.out.ext HX.out).drewN m) HTL.out (by omega)))
      rw [hx] at hcx ST
      rw [hs] at ST ⊢
      have HIL := Lib.hid hil
      have HFW := Lib.hid (HF.out.ext HX.out)
      rw [hu] at ST CU
      clear hx hs hu
      go_wp2_with fail
      go_quiet (first | (go_at_call 34; exact CU.out _) | (go_at_call 79; exact mul_q HFW.out _ _ _) | (go_at_call 78; exact add_q HFW.out _ _ _))
      go_wp2_with fail
      go_roundw
      case rel => exact ⟨i + 1, by have := HIL.out; omega, by go_num, by rw [ST.out], Lib.hid (HX.out.trans (Ext.drewN _ _))⟩
      case measure => have := HIL.out; simp [intOf]; omega
    · obtain rfl : i = point.length := by omega
      go_wp2_with fail
      go_ret
      exact ⟨rfl, HX.out⟩
end
end Go.Proofs.YtfepefbehgbjpaaGreatDoor
end
section
namespace Go.Att
open Go.RowKit
structure PrgS (w0 : World) (q q16 ks : Nat) (va fv dv : Value) (os : List Value) (a c : Nat) (T : TypeId) (W : World) : Prop where
  x : Ext w0 W
  at_ : W.cell? ⟨q, 0, none⟩ = some va
  o : BlkOf W (q + 1) os T
  t : W.cell? ⟨q16, 0, none⟩ = some (.pointer (some ⟨ks, 0, none⟩))
  s0 : W.cell? ⟨ks, 0, none⟩ = some fv
  s1 : W.cell? ⟨ks, 1, none⟩ = some dv
  s2 : W.cell? ⟨ks, 2, none⟩ = some (.int .i64 a)
  s3 : W.cell? ⟨ks, 3, none⟩ = some (.int .i64 c)
section
variable {w0 W W' : World} {q q16 ks : Nat} {va fv dv : Value} {os : List Value} {a c : Nat} {T : TypeId}
theorem PrgS.ext (h : PrgS w0 q q16 ks va fv dv os a c T W) (hx : Ext W W') : PrgS w0 q q16 ks va fv dv os a c T W' := ⟨h.x.trans hx, hx.cell h.at_, h.o.ext hx, hx.cell h.t, hx.cell h.s0, hx.cell h.s1, hx.cell h.s2, hx.cell h.s3⟩
theorem PrgS.grown (h : PrgS w0 q q16 ks va fv dv os a c T W) {b : Nat} (hg : W.grownBy W' (some b)) (hb : w0.heap.size ≤ b) (h1 : b < q) (h2 : b ≠ q16) (h3 : b ≠ ks) : PrgS w0 q q16 ks va fv dv os a c T W' :=
  ⟨Below.grown h.x.below hg h.x.size (fun k e => by cases e; exact hb), hg.cell h.at_ (fun e => by have := Option.some.inj e; simp only at this; omega), h.o.grown hg (fun e => by have := Option.some.inj e; omega), hg.cell h.t (fun e => h2 (Option.some.inj e).symm), hg.cell h.s0 (fun e => h3 (Option.some.inj e).symm), hg.cell h.s1 (fun e => h3 (Option.some.inj e).symm), hg.cell h.s2 (fun e => h3 (Option.some.inj e).symm), hg.cell h.s3 (fun e => h3 (Option.some.inj e).symm)⟩
end
end Go.Att
namespace Go.Proofs.YtfepefbehgbjpaaGreatDoor
open Go.RowKit Go.Att
section
variable {w0 w : World} {cb bs bf : Nat} {p g0 : Int} {k : Nat} {fs D : List Int} {dv va r0 r1 r2 r3 r4 r5 : Value} {at_ : List Int} {o : Pld} {sh rt : Int}
end
end Go.Proofs.YtfepefbehgbjpaaGreatDoor
end
section
namespace Go.Proofs.YtfepefbehgbjpaaGreatDoor
open Go.RowKit Go.Att
structure DocS (w0 : World) (q : Nat) (ds os : List Value) (W : World) : Prop where
  x : Ext w0 W
  d : BlkOf W q ds 39
  o : BlkOf W (q + 1) os 33
theorem DocS.ext {w0 W W' : World} {q : Nat} {ds os : List Value} (h : DocS w0 q ds os W) (hx : Ext W W') : DocS w0 q ds os W' := ⟨h.x.trans hx, h.d.ext hx, h.o.ext hx⟩
theorem DocS.grown {w0 W W' : World} {q b : Nat} {ds os : List Value} (h : DocS w0 q ds os W) (hg : W.grownBy W' (some b)) (hb : w0.heap.size ≤ b) (hq : b < q) : DocS w0 q ds os W' :=
  ⟨Below.grown h.x.below hg h.x.size (fun k e => by cases e; exact hb), h.d.grown hg (fun e => by have := Option.some.inj e; omega), h.o.grown hg (fun e => by have := Option.some.inj e; omega)⟩
def PlGot (w : World) (b : Nat) (n : Int) (y : Bool) (e : Ending) (w' : World) : Prop := e = .returned (.tuple #[.int .i64 n, .bool y]) ∧ w.grownBy w' (some b)
section
variable {w0 w : World} {b : Nat} {p : Int} {k : Nat} {D : List Int} {va r0 r1 r2 r3 r4 r5 : Value} {at_ : List Int} {o : Pld} {sh rt : Int}
end
end Go.Proofs.YtfepefbehgbjpaaGreatDoor
end
section
namespace Go.Proofs.YtfepefbehgbjpaaGreatDoor
open Go.RowKit Go.Att
section
variable {w : World} {cb bs bf : Nat} {dv va vt : Value} {at_ t : List Int} {sh rt : Int}
def PoBad (w : World) (b : Int) (e : Ending) (w' : World) : Prop := e = .returned (.tuple #[.agg #[.slice none 0 0, .slice none 0 0, .slice none 0 0, .slice none 0 0, .slice none 0 0, .slice none 0 0], .int .i64 0, errv b]) ∧ Ext w w'
set_option maxRecDepth 100000 in
set_option maxHeartbeats 8000000 in
theorem popen_no (hvt : Ints w vt t) (hn : varOf t.length < 0) (ha : Ints w va at_) (asked : Int) :
    Calls Tryz.prog 6 #[.pointer (some ⟨bs, 0, none⟩), .pointer (some ⟨cb, 0, none⟩), dv, vt, va, .int .i64 asked] w (PoBad w 2) := by
  have hla := ha.run_len (P := Tryz.prog) slInts
  have hal := ha.len
  obtain ⟨aa, ac, hshp⟩ := ha.shape
  obtain ⟨al, hle⟩ : ∃ n, at_.length = n := ⟨_, rfl⟩
  rw [hle] at hla hal hshp
  subst hshp
  clear ha hle
  have hX := (Ext.alloc w (Obj.cells #[.slice aa al ac] 22)).trans (Ext.alloc _ (Obj.cells #[.slice none 0 0, .slice none 0 0, .slice none 0 0, .slice none 0 0, .slice none 0 0, .slice none 0 0] 33))
  have hK2 := BlkOf.new (w.alloc (Obj.cells #[.slice aa al ac] 22)) [.slice none 0 0, .slice none 0 0, .slice none 0 0, .slice none 0 0, .slice none 0 0, .slice none 0 0] 33
  rw [World.size_alloc] at hK2
  have HX := Lib.hid hX; have HK2 := Lib.hid hK2
  have CO := Lib.hid (fun W (hx : Ext w W) => of_no dv (hvt.ext hx) hn)
  clear hX hK2 hvt hn
  go_enter Tryz.func6, Tryz.ntmps6
  go_upto_region 1 with (fail)
  generalize (w.alloc (Obj.cells #[.slice aa al ac] 22)).alloc (Obj.cells #[.slice none 0 0, .slice none 0 0, .slice none 0 0, .slice none 0 0, .slice none 0 0, .slice none 0 0] 33) = W1 at *
  go_upto_region 2 with (go_at_call 23; refine (CO.out _ HX.out).mono ?_; rintro e w2 ⟨rfl, rfl⟩)
  have HX3 := Lib.hid (HX.out.trans (Ext.alloc W1 (Obj.cells #[.pointer none] 68)))
  have HO3 := Lib.hid (HK2.out.ext (Ext.alloc W1 (Obj.cells #[.pointer none] 68)))
  generalize W1.alloc (Obj.cells #[.pointer none] 68) = w3 at *
  generalize hqw : w.heap.size = q at *
  have HQW := Lib.hid hqw
  clear hqw
  clear HX HK2
  go_quiet (fail)
  have BO := Lib.hid (HO3.out.ext (Ext.drewN w3 nq))
  have HXE := Lib.hid (HX3.out.trans (Ext.drewN w3 nq))
  clear HO3 HX3
  generalize w3.drewN nq = w4 at *
  have y0 : w4.cell? ⟨q + 1, 0, none⟩ = some (.slice none 0 0) := BO.out.cell 0
  have y1 : w4.cell? ⟨q + 1, 1, none⟩ = some (.slice none 0 0) := BO.out.cell 1
  have y2 : w4.cell? ⟨q + 1, 2, none⟩ = some (.slice none 0 0) := BO.out.cell 2
  have y3 : w4.cell? ⟨q + 1, 3, none⟩ = some (.slice none 0 0) := BO.out.cell 3
  have y4 : w4.cell? ⟨q + 1, 4, none⟩ = some (.slice none 0 0) := BO.out.cell 4
  have y5 : w4.cell? ⟨q + 1, 5, none⟩ = some (.slice none 0 0) := BO.out.cell 5
  have x0 := BO.out.free 0
  have x1 := BO.out.free 1
  have x2 := BO.out.free 2
  have x3 := BO.out.free 3
  have x4 := BO.out.free 4
  have x5 := BO.out.free 5
  go_wp2_with fail
  have gz := grown_one (grown_one (grown_one (grown_one (grown_one (setCell_grown w4 (q + 1) 0 (.slice none 0 0)) (setCell_grown _ (q + 1) 1 (.slice none 0 0))) (setCell_grown _ (q + 1) 2 (.slice none 0 0))) (setCell_grown _ (q + 1) 3 (.slice none 0 0))) (setCell_grown _ (q + 1) 4 (.slice none 0 0))) (setCell_grown _ (q + 1) 5 (.slice none 0 0))
  have bz := (((((BO.out.set 0 (.slice none 0 0)).set 1 (.slice none 0 0)).set 2 (.slice none 0 0)).set 3 (.slice none 0 0)).set 4 (.slice none 0 0)).set 5 (.slice none 0 0)
  have d0 : _ = some (Value.slice none 0 0) := bz.cell 0
  have d1 : _ = some (Value.slice none 0 0) := bz.cell 1
  have d2 : _ = some (Value.slice none 0 0) := bz.cell 2
  have d3 : _ = some (Value.slice none 0 0) := bz.cell 3
  have d4 : _ = some (Value.slice none 0 0) := bz.cell 4
  have d5 : _ = some (Value.slice none 0 0) := bz.cell 5
  exact bodyPost_ret (v := .tuple #[.agg #[.slice none 0 0, .slice none 0 0, .slice none 0 0, .slice none 0 0, .slice none 0 0, .slice none 0 0], .int .i64 0, errv 2]) (by simp [results, Tryz.results6, go_sem, d0, d1, d2, d3, d4, d5]; rfl) rfl ⟨rfl, Below.grown HXE.out.below gz HXE.out.size (fun k e => by cases e; have := HQW.out; omega)⟩

set_option maxRecDepth 100000 in
set_option maxHeartbeats 8000000 in
theorem popen_bad {n : Int} (hd : DomOf w dv (.pointer (some ⟨bf, 0, none⟩)) n sh rt) (h1 : 1 ≤ n) (h2 : n ≤ 65536) (v : Nat) (hv : v ≤ 12) (hvt : Ints w vt t) (ht : t.length = 2 ^ v) (ha : Ints w va at_) (hno : ¬ (roomB n v = true ∧ at_.length = v)) (asked : Int) :
    Calls Tryz.prog 6 #[.pointer (some ⟨bs, 0, none⟩), .pointer (some ⟨cb, 0, none⟩), dv, vt, va, .int .i64 asked] w (PoBad w 2) := by
  have hla := ha.run_len (P := Tryz.prog) slInts
  have hal := ha.len
  obtain ⟨aa, ac, hshp⟩ := ha.shape
  obtain ⟨al, hle⟩ : ∃ n, at_.length = n := ⟨_, rfl⟩
  rw [hle] at hla hal hshp
  rw [hle] at hno
  subst hshp
  clear ha hle
  have hX := (Ext.alloc w (Obj.cells #[.slice aa al ac] 22)).trans (Ext.alloc _ (Obj.cells #[.slice none 0 0, .slice none 0 0, .slice none 0 0, .slice none 0 0, .slice none 0 0, .slice none 0 0] 33))
  have hK1x := (Ext.alloc _ (Obj.cells #[.slice none 0 0, .slice none 0 0, .slice none 0 0, .slice none 0 0, .slice none 0 0, .slice none 0 0] 33)).cell (cell_new w #[.slice aa al ac] 22 0)
  have hK2 := BlkOf.new (w.alloc (Obj.cells #[.slice aa al ac] 22)) [.slice none 0 0, .slice none 0 0, .slice none 0 0, .slice none 0 0, .slice none 0 0, .slice none 0 0] 33
  rw [World.size_alloc] at hK2
  have HX := Lib.hid hX; have HK := Lib.hid hK1x; have HK2 := Lib.hid hK2
  have CO := Lib.hid (fun W (hx : Ext w W) => of_ok (hd.ext hx) h1 h2 (hvt.ext hx) v hv ht)
  clear hX hK1x hK2 hvt hd ht h1 h2
  obtain ⟨rb, hrb⟩ : ∃ rb, roomB n v = rb := ⟨_, rfl⟩
  unfold ShpGot at CO
  rw [hrb] at CO hno
  cases rb with
  | false =>
    clear hno hrb
    go_enter Tryz.func6, Tryz.ntmps6
    go_upto_region 1 with (fail)
    generalize (w.alloc (Obj.cells #[.slice aa al ac] 22)).alloc (Obj.cells #[.slice none 0 0, .slice none 0 0, .slice none 0 0, .slice none 0 0, .slice none 0 0, .slice none 0 0] 33) = W1 at *
    go_upto_region 2 with (go_at_call 23; refine (CO.out _ HX.out).mono ?_; rintro e w2 ⟨u, rfl, hx2, s, rfl, ks, rfl, s0, s1, s2, s3⟩; have HX2 := Lib.hid hx2; have HS2 := Lib.hid s2; have HS3 := Lib.hid s3; clear hx2 s0 s1 s2 s3)
    have hx3 := Ext.alloc w2 (Obj.cells #[.pointer (some ⟨ks, 0, none⟩)] 68)
    have hk16 := cell_new w2 #[.pointer (some ⟨ks, 0, none⟩)] 68 0
    have HXB := Lib.hid (HX2.out.trans hx3)
    have HX3 := Lib.hid (HX.out.trans HXB.out)
    have HK3 := Lib.hid (HXB.out.cell HK.out)
    have HO3 := Lib.hid (HK2.out.ext HXB.out)
    have HT := Lib.hid hk16
    have T2 := Lib.hid (hx3.cell HS2.out)
    have T3 := Lib.hid (hx3.cell HS3.out)
    clear hx3 hk16 HX2 HXB HX HK HK2 HS2 HS3
    generalize w2.alloc (Obj.cells #[.pointer (some ⟨ks, 0, none⟩)] 68) = w3 at *
    generalize w2.heap.size = q16 at *
    generalize hqw : w.heap.size = q at *
    have HQW := Lib.hid hqw
    clear hqw
    obtain ⟨a, ha'⟩ : ∃ a, v / 2 = a := ⟨_, rfl⟩
    obtain ⟨c, hc'⟩ : ∃ c, v - a = c := ⟨_, rfl⟩
    have HAC := Lib.hid (show a ≤ 6 ∧ c ≤ 6 ∧ a + c = v from by omega)
    rw [ha'] at T2
    rw [ha', hc'] at T3
    clear ha' hc'
    have t0 : w3.cell? ⟨q16, 0, none⟩ = some (.pointer (some ⟨ks, 0, none⟩)) := HT.out
    have t2 : w3.cell? ⟨ks, 2, none⟩ = some (.int .i64 a) := T2.out
    have t3 : w3.cell? ⟨ks, 3, none⟩ = some (.int .i64 c) := T3.out
    have k0 : w3.cell? ⟨q, 0, none⟩ = some (.slice aa al ac) := HK3.out
    go_quiet (fail)
    have BO := Lib.hid (HO3.out.ext (Ext.drewN w3 nq))
    have HXE := Lib.hid (HX3.out.trans (Ext.drewN w3 nq))
    clear HO3 HX3
    generalize w3.drewN nq = w4 at *
    have y0 : w4.cell? ⟨q + 1, 0, none⟩ = some (.slice none 0 0) := BO.out.cell 0
    have y1 : w4.cell? ⟨q + 1, 1, none⟩ = some (.slice none 0 0) := BO.out.cell 1
    have y2 : w4.cell? ⟨q + 1, 2, none⟩ = some (.slice none 0 0) := BO.out.cell 2
    have y3 : w4.cell? ⟨q + 1, 3, none⟩ = some (.slice none 0 0) := BO.out.cell 3
    have y4 : w4.cell? ⟨q + 1, 4, none⟩ = some (.slice none 0 0) := BO.out.cell 4
    have y5 : w4.cell? ⟨q + 1, 5, none⟩ = some (.slice none 0 0) := BO.out.cell 5
    have x0 := BO.out.free 0
    have x1 := BO.out.free 1
    have x2 := BO.out.free 2
    have x3 := BO.out.free 3
    have x4 := BO.out.free 4
    have x5 := BO.out.free 5
    go_wp2_with fail
    have gz := grown_one (grown_one (grown_one (grown_one (grown_one (setCell_grown w4 (q + 1) 0 (.slice none 0 0)) (setCell_grown _ (q + 1) 1 (.slice none 0 0))) (setCell_grown _ (q + 1) 2 (.slice none 0 0))) (setCell_grown _ (q + 1) 3 (.slice none 0 0))) (setCell_grown _ (q + 1) 4 (.slice none 0 0))) (setCell_grown _ (q + 1) 5 (.slice none 0 0))
    have bz := (((((BO.out.set 0 (.slice none 0 0)).set 1 (.slice none 0 0)).set 2 (.slice none 0 0)).set 3 (.slice none 0 0)).set 4 (.slice none 0 0)).set 5 (.slice none 0 0)
    have d0 : _ = some (Value.slice none 0 0) := bz.cell 0
    have d1 : _ = some (Value.slice none 0 0) := bz.cell 1
    have d2 : _ = some (Value.slice none 0 0) := bz.cell 2
    have d3 : _ = some (Value.slice none 0 0) := bz.cell 3
    have d4 : _ = some (Value.slice none 0 0) := bz.cell 4
    have d5 : _ = some (Value.slice none 0 0) := bz.cell 5
    exact bodyPost_ret (v := .tuple #[.agg #[.slice none 0 0, .slice none 0 0, .slice none 0 0, .slice none 0 0, .slice none 0 0, .slice none 0 0], .int .i64 0, errv 2]) (by simp [results, Tryz.results6, go_sem, d0, d1, d2, d3, d4, d5]; rfl) rfl ⟨rfl, Below.grown HXE.out.below gz HXE.out.size (fun k e => by cases e; have := HQW.out; omega)⟩
  | true =>
    have hne : ((al : Int) != (v : Int)) = true := by rw [bne_iff_ne]; intro e; exact hno ⟨rfl, by omega⟩
    clear hno hrb
    go_enter Tryz.func6, Tryz.ntmps6
    go_upto_region 1 with (fail)
    generalize (w.alloc (Obj.cells #[.slice aa al ac] 22)).alloc (Obj.cells #[.slice none 0 0, .slice none 0 0, .slice none 0 0, .slice none 0 0, .slice none 0 0, .slice none 0 0] 33) = W1 at *
    go_upto_region 2 with (go_at_call 23; refine (CO.out _ HX.out).mono ?_; rintro e w2 ⟨u, rfl, hx2, s, rfl, ks, rfl, s0, s1, s2, s3⟩; have HX2 := Lib.hid hx2; have HS2 := Lib.hid s2; have HS3 := Lib.hid s3; clear hx2 s0 s1 s2 s3)
    have hx3 := Ext.alloc w2 (Obj.cells #[.pointer (some ⟨ks, 0, none⟩)] 68)
    have hk16 := cell_new w2 #[.pointer (some ⟨ks, 0, none⟩)] 68 0
    have HXB := Lib.hid (HX2.out.trans hx3)
    have HX3 := Lib.hid (HX.out.trans HXB.out)
    have HK3 := Lib.hid (HXB.out.cell HK.out)
    have HO3 := Lib.hid (HK2.out.ext HXB.out)
    have HT := Lib.hid hk16
    have T2 := Lib.hid (hx3.cell HS2.out)
    have T3 := Lib.hid (hx3.cell HS3.out)
    clear hx3 hk16 HX2 HXB HX HK HK2 HS2 HS3
    generalize w2.alloc (Obj.cells #[.pointer (some ⟨ks, 0, none⟩)] 68) = w3 at *
    generalize w2.heap.size = q16 at *
    generalize hqw : w.heap.size = q at *
    have HQW := Lib.hid hqw
    clear hqw
    obtain ⟨a, ha'⟩ : ∃ a, v / 2 = a := ⟨_, rfl⟩
    obtain ⟨c, hc'⟩ : ∃ c, v - a = c := ⟨_, rfl⟩
    have HAC := Lib.hid (show a ≤ 6 ∧ c ≤ 6 ∧ a + c = v from by omega)
    rw [ha'] at T2
    rw [ha', hc'] at T3
    clear ha' hc'
    have t0 : w3.cell? ⟨q16, 0, none⟩ = some (.pointer (some ⟨ks, 0, none⟩)) := HT.out
    have t2 : w3.cell? ⟨ks, 2, none⟩ = some (.int .i64 a) := T2.out
    have t3 : w3.cell? ⟨ks, 3, none⟩ = some (.int .i64 c) := T3.out
    have k0 : w3.cell? ⟨q, 0, none⟩ = some (.slice aa al ac) := HK3.out
    have hwac : IntKind.i64.wrap ((a : Int) + c) = (v : Int) := by have := HAC.out; rw [IntWalk.i64_in _ (by omega)]; omega
    go_quiet (fail)
    have BO := Lib.hid (HO3.out.ext (Ext.drewN w3 nq))
    have HXE := Lib.hid (HX3.out.trans (Ext.drewN w3 nq))
    clear HO3 HX3
    generalize w3.drewN nq = w4 at *
    have y0 : w4.cell? ⟨q + 1, 0, none⟩ = some (.slice none 0 0) := BO.out.cell 0
    have y1 : w4.cell? ⟨q + 1, 1, none⟩ = some (.slice none 0 0) := BO.out.cell 1
    have y2 : w4.cell? ⟨q + 1, 2, none⟩ = some (.slice none 0 0) := BO.out.cell 2
    have y3 : w4.cell? ⟨q + 1, 3, none⟩ = some (.slice none 0 0) := BO.out.cell 3
    have y4 : w4.cell? ⟨q + 1, 4, none⟩ = some (.slice none 0 0) := BO.out.cell 4
    have y5 : w4.cell? ⟨q + 1, 5, none⟩ = some (.slice none 0 0) := BO.out.cell 5
    have x0 := BO.out.free 0
    have x1 := BO.out.free 1
    have x2 := BO.out.free 2
    have x3 := BO.out.free 3
    have x4 := BO.out.free 4
    have x5 := BO.out.free 5
    go_wp2_with fail
    have gz := grown_one (grown_one (grown_one (grown_one (grown_one (setCell_grown w4 (q + 1) 0 (.slice none 0 0)) (setCell_grown _ (q + 1) 1 (.slice none 0 0))) (setCell_grown _ (q + 1) 2 (.slice none 0 0))) (setCell_grown _ (q + 1) 3 (.slice none 0 0))) (setCell_grown _ (q + 1) 4 (.slice none 0 0))) (setCell_grown _ (q + 1) 5 (.slice none 0 0))
    have bz := (((((BO.out.set 0 (.slice none 0 0)).set 1 (.slice none 0 0)).set 2 (.slice none 0 0)).set 3 (.slice none 0 0)).set 4 (.slice none 0 0)).set 5 (.slice none 0 0)
    have d0 : _ = some (Value.slice none 0 0) := bz.cell 0
    have d1 : _ = some (Value.slice none 0 0) := bz.cell 1
    have d2 : _ = some (Value.slice none 0 0) := bz.cell 2
    have d3 : _ = some (Value.slice none 0 0) := bz.cell 3
    have d4 : _ = some (Value.slice none 0 0) := bz.cell 4
    have d5 : _ = some (Value.slice none 0 0) := bz.cell 5
    exact bodyPost_ret (v := .tuple #[.agg #[.slice none 0 0, .slice none 0 0, .slice none 0 0, .slice none 0 0, .slice none 0 0, .slice none 0 0], .int .i64 0, errv 2]) (by simp [results, Tryz.results6, go_sem, d0, d1, d2, d3, d4, d5]; rfl) rfl ⟨rfl, Below.grown HXE.out.below gz HXE.out.size (fun k e => by cases e; have := HQW.out; omega)⟩
set_option maxRecDepth 100000 in
set_option maxHeartbeats 8000000 in
theorem popen_ask {n : Int} (hd : DomOf w dv (.pointer (some ⟨bf, 0, none⟩)) n sh rt) (h1 : 1 ≤ n) (h2 : n ≤ 65536) (v : Nat) (hv : v ≤ 12) (hvt : Ints w vt t) (ht : t.length = 2 ^ v) (ha : Ints w va at_) (hroom : roomB n v = true) (hav : at_.length = v) (asked : Int) (hno : ¬ (1 ≤ asked ∧ asked ≤ 64)) :
    Calls Tryz.prog 6 #[.pointer (some ⟨bs, 0, none⟩), .pointer (some ⟨cb, 0, none⟩), dv, vt, va, .int .i64 asked] w (PoBad w 3) := by
  have hla := ha.run_len (P := Tryz.prog) slInts
  have hal := ha.len
  obtain ⟨aa, ac, hshp⟩ := ha.shape
  rw [hav] at hla hal hshp
  subst hshp
  clear ha hav
  have hX := (Ext.alloc w (Obj.cells #[.slice aa v ac] 22)).trans (Ext.alloc _ (Obj.cells #[.slice none 0 0, .slice none 0 0, .slice none 0 0, .slice none 0 0, .slice none 0 0, .slice none 0 0] 33))
  have hK1x := (Ext.alloc _ (Obj.cells #[.slice none 0 0, .slice none 0 0, .slice none 0 0, .slice none 0 0, .slice none 0 0, .slice none 0 0] 33)).cell (cell_new w #[.slice aa v ac] 22 0)
  have hK2 := BlkOf.new (w.alloc (Obj.cells #[.slice aa v ac] 22)) [.slice none 0 0, .slice none 0 0, .slice none 0 0, .slice none 0 0, .slice none 0 0, .slice none 0 0] 33
  rw [World.size_alloc] at hK2
  have HX := Lib.hid hX; have HK := Lib.hid hK1x; have HK2 := Lib.hid hK2
  have CO := Lib.hid (fun W (hx : Ext w W) => of_ok (hd.ext hx) h1 h2 (hvt.ext hx) v hv ht)
  have CA := Lib.hid (fun W => pasks_any W asked)
  rw [decide_eq_false hno] at CA
  unfold ShpGot at CO
  rw [hroom] at CO
  clear hX hK1x hK2 hvt hd ht h1 h2 hroom hno
  go_enter Tryz.func6, Tryz.ntmps6
  go_upto_region 1 with (fail)
  generalize (w.alloc (Obj.cells #[.slice aa v ac] 22)).alloc (Obj.cells #[.slice none 0 0, .slice none 0 0, .slice none 0 0, .slice none 0 0, .slice none 0 0, .slice none 0 0] 33) = W1 at *
  go_upto_region 2 with (go_at_call 23; refine (CO.out _ HX.out).mono ?_; rintro e w2 ⟨u, rfl, hx2, s, rfl, ks, rfl, s0, s1, s2, s3⟩; have HX2 := Lib.hid hx2; have HS2 := Lib.hid s2; have HS3 := Lib.hid s3; clear hx2 s0 s1 s2 s3)
  have hx3 := Ext.alloc w2 (Obj.cells #[.pointer (some ⟨ks, 0, none⟩)] 68)
  have hk16 := cell_new w2 #[.pointer (some ⟨ks, 0, none⟩)] 68 0
  have HXB := Lib.hid (HX2.out.trans hx3)
  have HX3 := Lib.hid (HX.out.trans HXB.out)
  have HK3 := Lib.hid (HXB.out.cell HK.out)
  have HO3 := Lib.hid (HK2.out.ext HXB.out)
  have HT := Lib.hid hk16
  have T2 := Lib.hid (hx3.cell HS2.out)
  have T3 := Lib.hid (hx3.cell HS3.out)
  clear hx3 hk16 HX2 HXB HX HK HK2 HS2 HS3
  generalize w2.alloc (Obj.cells #[.pointer (some ⟨ks, 0, none⟩)] 68) = w3 at *
  generalize w2.heap.size = q16 at *
  generalize hqw : w.heap.size = q at *
  have HQW := Lib.hid hqw
  clear hqw
  obtain ⟨a, ha'⟩ : ∃ a, v / 2 = a := ⟨_, rfl⟩
  obtain ⟨c, hc'⟩ : ∃ c, v - a = c := ⟨_, rfl⟩
  have HAC := Lib.hid (show a ≤ 6 ∧ c ≤ 6 ∧ a + c = v from by omega)
  rw [ha'] at T2
  rw [ha', hc'] at T3
  clear ha' hc'
  have t0 : w3.cell? ⟨q16, 0, none⟩ = some (.pointer (some ⟨ks, 0, none⟩)) := HT.out
  have t2 : w3.cell? ⟨ks, 2, none⟩ = some (.int .i64 a) := T2.out
  have t3 : w3.cell? ⟨ks, 3, none⟩ = some (.int .i64 c) := T3.out
  have k0 : w3.cell? ⟨q, 0, none⟩ = some (.slice aa v ac) := HK3.out
  have hwac : IntKind.i64.wrap ((a : Int) + c) = (v : Int) := by have := HAC.out; rw [IntWalk.i64_in _ (by omega)]; omega
  have hvv : ((v : Int) != (v : Int)) = false := by simp
  go_quiet (fail)
  have BO := Lib.hid (HO3.out.ext (Ext.drewN w3 nq))
  have HXE := Lib.hid (HX3.out.trans (Ext.drewN w3 nq))
  clear HO3 HX3
  generalize w3.drewN nq = w4 at *
  have y0 : w4.cell? ⟨q + 1, 0, none⟩ = some (.slice none 0 0) := BO.out.cell 0
  have y1 : w4.cell? ⟨q + 1, 1, none⟩ = some (.slice none 0 0) := BO.out.cell 1
  have y2 : w4.cell? ⟨q + 1, 2, none⟩ = some (.slice none 0 0) := BO.out.cell 2
  have y3 : w4.cell? ⟨q + 1, 3, none⟩ = some (.slice none 0 0) := BO.out.cell 3
  have y4 : w4.cell? ⟨q + 1, 4, none⟩ = some (.slice none 0 0) := BO.out.cell 4
  have y5 : w4.cell? ⟨q + 1, 5, none⟩ = some (.slice none 0 0) := BO.out.cell 5
  have x0 := BO.out.free 0
  have x1 := BO.out.free 1
  have x2 := BO.out.free 2
  have x3 := BO.out.free 3
  have x4 := BO.out.free 4
  have x5 := BO.out.free 5
  go_wp2_with (go_at_call 24; refine (CA.out _).mono ?_; rintro e w' ⟨rfl, rfl⟩)
  have gz := grown_one (grown_one (grown_one (grown_one (grown_one (setCell_grown w4 (q + 1) 0 (.slice none 0 0)) (setCell_grown _ (q + 1) 1 (.slice none 0 0))) (setCell_grown _ (q + 1) 2 (.slice none 0 0))) (setCell_grown _ (q + 1) 3 (.slice none 0 0))) (setCell_grown _ (q + 1) 4 (.slice none 0 0))) (setCell_grown _ (q + 1) 5 (.slice none 0 0))
  have bz := (((((BO.out.set 0 (.slice none 0 0)).set 1 (.slice none 0 0)).set 2 (.slice none 0 0)).set 3 (.slice none 0 0)).set 4 (.slice none 0 0)).set 5 (.slice none 0 0)
  have d0 : _ = some (Value.slice none 0 0) := bz.cell 0
  have d1 : _ = some (Value.slice none 0 0) := bz.cell 1
  have d2 : _ = some (Value.slice none 0 0) := bz.cell 2
  have d3 : _ = some (Value.slice none 0 0) := bz.cell 3
  have d4 : _ = some (Value.slice none 0 0) := bz.cell 4
  have d5 : _ = some (Value.slice none 0 0) := bz.cell 5
  exact bodyPost_ret (v := .tuple #[.agg #[.slice none 0 0, .slice none 0 0, .slice none 0 0, .slice none 0 0, .slice none 0 0, .slice none 0 0], .int .i64 0, errv 3]) (by simp [results, Tryz.results6, go_sem, d0, d1, d2, d3, d4, d5]; rfl) rfl ⟨rfl, Below.grown HXE.out.below gz HXE.out.size (fun k e => by cases e; have := HQW.out; omega)⟩
end
end Go.Proofs.YtfepefbehgbjpaaGreatDoor
end
section
namespace Go.Proofs.YtfepefbehgbjpaaGreatDoor
open Go.RowKit Go.Att
section
variable {w : World}
set_option maxRecDepth 100000 in
set_option maxHeartbeats 4000000 in
theorem sopen_same {a0 a1 a2 b0 b1 b2 : Value} {A : List Int} {B C : List (List Int)} (ha0 : Ints w a0 A) (ha1 : Rws w a1 B) (ha2 : Rws w a2 C) (hb0 : Ints w b0 A) (hb1 : Rws w b1 B) (hb2 : Rws w b2 C) :
    Calls Tryz.prog 43 #[.agg #[a0, a1, a2], .agg #[b0, b1, b2]] w fun e w' => e = .returned (.bool true) ∧ Ext w w' := by
  have hx1 := Ext.alloc w (Obj.cells #[a0, a1, a2] 31)
  have hx2 := Ext.alloc (w.alloc (Obj.cells #[a0, a1, a2] 31)) (Obj.cells #[b0, b1, b2] 31)
  have HX := Lib.hid (hx1.trans hx2)
  have HA := Lib.hid ((BlkOf.new w [a0, a1, a2] 31).ext hx2)
  have hB := BlkOf.new (w.alloc (Obj.cells #[a0, a1, a2] 31)) [b0, b1, b2] 31
  rw [World.size_alloc] at hB
  have HB := Lib.hid hB
  have C0 := Lib.hid (fun W (hx : Ext w W) => by have := sints_any _ _ _ _ _ (ha0.ext hx) (hb0.ext hx); rw [decide_eq_true rfl] at this; exact this)
  have C1 := Lib.hid (fun W (hx : Ext w W) => by have := srows_any _ _ _ _ _ (ha1.ext hx) (hb1.ext hx); rw [decide_eq_true rfl] at this; exact this)
  have C2 := Lib.hid (fun W (hx : Ext w W) => by have := srows_any _ _ _ _ _ (ha2.ext hx) (hb2.ext hx); rw [decide_eq_true rfl] at this; exact this)
  clear hx1 hx2 hB ha0 ha1 ha2 hb0 hb1 hb2
  go_enter Tryz.func43, Tryz.ntmps43
  go_upto_region 1 with (fail)
  generalize (w.alloc (Obj.cells #[a0, a1, a2] 31)).alloc (Obj.cells #[b0, b1, b2] 31) = W1 at *
  generalize w.heap.size = q at *
  have k0 : W1.cell? ⟨q, 0, none⟩ = some a0 := HA.out.cell 0
  have k1 : W1.cell? ⟨q + 1, 0, none⟩ = some b0 := HB.out.cell 0
  go_upto_region 2 with (go_at_call 15; refine (C0.out _ HX.out).mono ?_; rintro e w2 hrd; obtain ⟨rfl, hx⟩ := hrd.ext; have HXw2 := Lib.hid hx; clear hrd hx k0 k1)
  have k0 : w2.cell? ⟨q, 1, none⟩ = some a1 := (HA.out.ext HXw2.out).cell 1
  have k1 : w2.cell? ⟨q + 1, 1, none⟩ = some b1 := (HB.out.ext HXw2.out).cell 1
  go_upto_region 3 with (go_at_call 96; refine (C1.out _ (HX.out.trans HXw2.out)).mono ?_; rintro e w3 hrd; obtain ⟨rfl, hx⟩ := hrd.ext; have HXw3 := Lib.hid (HXw2.out.trans hx); clear hrd hx k0 k1)
  have k0 : w3.cell? ⟨q, 2, none⟩ = some a2 := (HA.out.ext HXw3.out).cell 2
  have k1 : w3.cell? ⟨q + 1, 2, none⟩ = some b2 := (HB.out.ext HXw3.out).cell 2
  go_upto_region 4 with (go_at_call 96; refine (C2.out _ (HX.out.trans HXw3.out)).mono ?_; rintro e w4 hrd; obtain ⟨rfl, hx⟩ := hrd.ext; have HXw4 := Lib.hid (HXw3.out.trans hx); clear hrd hx k0 k1)
  go_wp2_with fail
  go_ret
  exact ⟨rfl, HX.out.trans HXw4.out⟩
set_option maxRecDepth 100000 in
set_option maxHeartbeats 4000000 in
theorem spled_of {a0 a1 a2 a3 a4 a5 b0 b1 b2 b3 b4 b5 : Value} {R M P A : List Int} {B C : List (List Int)} (ha0 : Ints w a0 R) (ha1 : Ints w a1 M) (ha2 : Ints w a2 P) (ha3 : Ints w a3 A) (ha4 : Rws w a4 B) (ha5 : Rws w a5 C) (hb0 : Ints w b0 R) (hb1 : Ints w b1 M) (hb2 : Ints w b2 P) (hb3 : Ints w b3 A) (hb4 : Rws w b4 B) (hb5 : Rws w b5 C) :
    Calls Tryz.prog 11 #[.agg #[a0, a1, a2, a3, a4, a5], .agg #[b0, b1, b2, b3, b4, b5]] w fun e w' => e = .returned (.bool true) ∧ Ext w w' := by
  have hx1 := Ext.alloc w (Obj.cells #[a0, a1, a2, a3, a4, a5] 33)
  have hx2 := Ext.alloc (w.alloc (Obj.cells #[a0, a1, a2, a3, a4, a5] 33)) (Obj.cells #[b0, b1, b2, b3, b4, b5] 33)
  have HX := Lib.hid (hx1.trans hx2)
  have HA := Lib.hid ((BlkOf.new w [a0, a1, a2, a3, a4, a5] 33).ext hx2)
  have hB := BlkOf.new (w.alloc (Obj.cells #[a0, a1, a2, a3, a4, a5] 33)) [b0, b1, b2, b3, b4, b5] 33
  rw [World.size_alloc] at hB
  have HB := Lib.hid hB
  have C0 := Lib.hid (fun W (hx : Ext w W) => by have := sints_any _ _ _ _ _ (ha0.ext hx) (hb0.ext hx); rw [decide_eq_true rfl] at this; exact this)
  have C1 := Lib.hid (fun W (hx : Ext w W) => by have := sints_any _ _ _ _ _ (ha1.ext hx) (hb1.ext hx); rw [decide_eq_true rfl] at this; exact this)
  have C2 := Lib.hid (fun W (hx : Ext w W) => by have := sints_any _ _ _ _ _ (ha2.ext hx) (hb2.ext hx); rw [decide_eq_true rfl] at this; exact this)
  have C3 := Lib.hid (fun W (hx : Ext w W) => sopen_same (ha3.ext hx) (ha4.ext hx) (ha5.ext hx) (hb3.ext hx) (hb4.ext hx) (hb5.ext hx))
  clear hx1 hx2 hB ha0 ha1 ha2 ha3 ha4 ha5 hb0 hb1 hb2 hb3 hb4 hb5
  go_enter Tryz.func11, Tryz.ntmps11
  go_upto_region 1 with (fail)
  generalize (w.alloc (Obj.cells #[a0, a1, a2, a3, a4, a5] 33)).alloc (Obj.cells #[b0, b1, b2, b3, b4, b5] 33) = W1 at *
  generalize w.heap.size = q at *
  have k0 : W1.cell? ⟨q, 0, none⟩ = some a0 := HA.out.cell 0
  have k1 : W1.cell? ⟨q + 1, 0, none⟩ = some b0 := HB.out.cell 0
  go_upto_region 2 with (go_at_call 15; refine (C0.out _ HX.out).mono ?_; rintro e w2 hrd; obtain ⟨rfl, hx⟩ := hrd.ext; have HXw2 := Lib.hid hx; clear hrd hx k0 k1)
  have k0 : w2.cell? ⟨q, 1, none⟩ = some a1 := (HA.out.ext HXw2.out).cell 1
  have k1 : w2.cell? ⟨q + 1, 1, none⟩ = some b1 := (HB.out.ext HXw2.out).cell 1
  go_upto_region 3 with (go_at_call 15; refine (C1.out _ (HX.out.trans HXw2.out)).mono ?_; rintro e w3 hrd; obtain ⟨rfl, hx⟩ := hrd.ext; have HXw3 := Lib.hid (HXw2.out.trans hx); clear hrd hx k0 k1)
  have k0 : w3.cell? ⟨q, 2, none⟩ = some a2 := (HA.out.ext HXw3.out).cell 2
  have k1 : w3.cell? ⟨q + 1, 2, none⟩ = some b2 := (HB.out.ext HXw3.out).cell 2
  go_upto_region 4 with (go_at_call 15; refine (C2.out _ (HX.out.trans HXw3.out)).mono ?_; rintro e w4 hrd; obtain ⟨rfl, hx⟩ := hrd.ext; have HXw4 := Lib.hid (HXw3.out.trans hx); clear hrd hx k0 k1)
  have k3 : w4.cell? ⟨q, 3, none⟩ = some a3 := (HA.out.ext HXw4.out).cell 3
  have l3 : w4.cell? ⟨q + 1, 3, none⟩ = some b3 := (HB.out.ext HXw4.out).cell 3
  have k4 : w4.cell? ⟨q, 4, none⟩ = some a4 := (HA.out.ext HXw4.out).cell 4
  have l4 : w4.cell? ⟨q + 1, 4, none⟩ = some b4 := (HB.out.ext HXw4.out).cell 4
  have k5 : w4.cell? ⟨q, 5, none⟩ = some a5 := (HA.out.ext HXw4.out).cell 5
  have l5 : w4.cell? ⟨q + 1, 5, none⟩ = some b5 := (HB.out.ext HXw4.out).cell 5
  go_upto_region 5 with (go_at_call 43; refine (C3.out _ (HX.out.trans HXw4.out)).mono ?_; rintro e w5 ⟨rfl, hx⟩; have HXw5 := Lib.hid (HXw4.out.trans hx); clear hx k3 k4 k5 l3 l4 l5)
  go_wp2_with fail
  go_ret
  exact ⟨rfl, HX.out.trans HXw5.out⟩
theorem spled_same {a0 a1 a2 a3 a4 a5 b0 b1 b2 b3 b4 b5 : Value} {o : Pld} (ha : PldAt w a0 a1 a2 a3 a4 a5 o) (hb : PldAt w b0 b1 b2 b3 b4 b5 o) :
    Calls Tryz.prog 11 #[.agg #[a0, a1, a2, a3, a4, a5], .agg #[b0, b1, b2, b3, b4, b5]] w fun e w' => e = .returned (.bool true) ∧ Ext w w' := spled_of ha.root ha.mixed ha.point ha.places ha.rows ha.nodes hb.root hb.mixed hb.point hb.places hb.rows hb.nodes
set_option maxRecDepth 100000 in
set_option maxHeartbeats 1000000 in
theorem cdig_any {_p : Int} {cb : Nat} {s : Value} {D : List Int} (hc : ChP w cb s D) (hD : D.length ≤ 4294967296) :
    Calls Tryz.prog 14 #[.pointer (some ⟨cb, 0, none⟩)] w (Gives w fun u w' => Ints w' u D) := by
  obtain ⟨v, c1, hv⟩ := hc.c1
  have CK := Lib.hid (clone_any hv hD)
  clear hv hc
  go_enter Tryz.func14, Tryz.ntmps14
  go_wp2_with (go_at_call 55; refine CK.out.mono ?_; rintro e w2 ⟨u, rfl, hx, ho⟩)
  go_ret
  exact ⟨_, rfl, hx, Ints.of_own ho⟩
end
end Go.Proofs.YtfepefbehgbjpaaGreatDoor
end
