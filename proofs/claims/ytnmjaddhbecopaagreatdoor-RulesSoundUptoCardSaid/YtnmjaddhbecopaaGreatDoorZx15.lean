/- Are two lists the same? Contract. The closed fact of the tables' laws: contract. What both runs come to, in one form. RulesSound: WHAT BREAKS NO RULE IS A RUN: the law's walk: for every input it returns true and leaves all that was there as it was. (begun from the seat's starting text UptoLemmas) What the bound on the arguments' bulk gives. -/
import Derived.Test.YtnmjaddhbecopaaGreatDoorFa
import Derived.Test.YtnmjaddhbecopaaGreatDoorVc
import Derived.Test.YtnmjaddhbecopaaGreatDoorTf
import Derived.Test.YtnmjaddhbecopaaGreatDoorFc
import Derived.Test.YtnmjaddhbecopaaGreatDoorMl
import Derived.Test.YtnmjaddhbecopaaGreatDoorZx3
import Derived.Test.YtnmjaddhbecopaaGreatDoorZx16
import Derived.Test.YtnmjaddhbecopaaGreatDoorRc
import Derived.Test.YtnmjaddhbecopaaGreatDoorKt
import Derived.Test.YtnmjaddhbecopaaGreatDoorA4
import Derived.Test.YtnmjaddhbecopaaGreatDoorMg
import Derived.ProofKit
import Derived.Test.YtnmjaddhbecopaaGreatDoorRows
section
/-! Are two lists the same? Contract. -/
namespace Go.Att
theorem list_eq_of {a b : List Int} (h : a.length = b.length) (h2 : ∀ i, i < a.length → nth a i = nth b i) : a = b := by
  refine List.ext_getElem h fun i h3 h4 => ?_
  have := h2 i h3
  rwa [nth_eq h3, nth_eq h4] at this
end Go.Att
namespace Go.Proofs.YtnmjaddhbecopaaGreatDoor
open Go.RowKit Go.Att
set_option maxRecDepth 100000 in
set_option maxHeartbeats 1000000 in
theorem sints_any (va vb : Value) (a b : List Int) (w : World) (ha : Ints w va a) (hb : Ints w vb b) :
    Calls Tryz.prog 15 #[va, vb] w (Rd w (.bool (decide (a = b)))) := by
  have hla := ha.run_len (P := Tryz.prog) slInts
  have hlb := hb.run_len (P := Tryz.prog) slInts
  have hlen := ha.len
  have HA := Lib.hid ha; have HB := Lib.hid hb; clear ha hb
  by_cases hl : a.length = b.length
  · have hbb : ((a.length : Int) != (b.length : Int)) = false := by rw [bne_eq_false_iff_eq]; omega
    have HL := Lib.hid hl; clear hl
    go_enter Tryz.func15, Tryz.ntmps15
    go_wp2_with fail
    go_loopw [5] (fun x5 wr => ∃ i m : Nat, i ≤ a.length ∧ x5 = .int .i64 i ∧ Hid (∀ j, j < i → nth a j = nth b j) ∧ wr = w.drewN m) (fun x5 _ => a.length - (intOf x5).toNat)
    case atStart => exact ⟨0, 0, Nat.zero_le _, rfl, Lib.hid (fun j hj => by omega), rfl⟩
    case round =>
      obtain ⟨i, m, hi, rfl, H, rfl⟩ := hrel
      by_cases hil : i < a.length
      · have hix := HA.out.run_index (P := Tryz.prog) slInts i hil
        have hc := HA.out.cell i hil
        have hix2 := HB.out.run_index (P := Tryz.prog) slInts i (by have := HL.out; omega)
        have hc2 := HB.out.cell i (by have := HL.out; omega)
        by_cases he : nth a i = nth b i
        · have hb2 : (nth a i != nth b i) = false := by rw [bne_eq_false_iff_eq]; exact he
          have HE := Lib.hid he; clear he
          go_wp2_with fail
          go_quiet (fail)
          go_wp2_with fail
          go_roundw
          case rel => exact ⟨i + 1, _, by omega, by go_num, Lib.hid (fun j hj => by
            rcases Nat.lt_or_eq_of_le (show j ≤ i by omega) with h | rfl
            · exact H.out j h
            · exact HE.out), rfl⟩
          case measure => simp [intOf]; omega
        · have hb2 : (nth a i != nth b i) = true := by rw [bne_iff_ne]; exact he
          have HD := Lib.hid (decide_eq_false (p := a = b) (fun e => he (by rw [e]))); clear he
          go_wp2_with fail
          go_quiet (fail)
          go_wp2_with fail
          go_ret
          exact ⟨ret_bool HD.out.symm, _, World.drewN_drewN _ _ _⟩
      · obtain rfl : i = a.length := by omega
        have HD := Lib.hid (decide_eq_true (p := a = b) (list_eq_of HL.out H.out))
        go_wp2_with fail
        go_ret
        exact .more _ (ret_bool HD.out.symm)
  · have hbb : ((a.length : Int) != (b.length : Int)) = true := by rw [bne_iff_ne]; omega
    have HD := Lib.hid (decide_eq_false (p := a = b) (fun e => hl (by rw [e]))); clear hl
    go_enter Tryz.func15, Tryz.ntmps15
    go_wp2_with fail
    go_ret
    exact .same (ret_bool HD.out.symm)
theorem sints_q {va vb : Value} {a b : List Int} {w : World} {c : Bool} (ha : Ints w va a) (hb : Ints w vb b) (hc : decide (a = b) = c) (n : Nat) :
    Calls Tryz.prog 15 #[va, vb] (w.drewN n) fun e w'' => e = .returned (.bool c) ∧ ∃ m, w'' = w.drewN m := by
  subst hc
  exact Calls.quiet_of (sints_any _ _ _ _ _ (ha.drewN n) (hb.drewN n))
end Go.Proofs.YtnmjaddhbecopaaGreatDoor
/-! Are two lists of lists the same? Contract. -/
namespace Go.Att
theorem lists_eq_of {a b : List (List Int)} (h : a.length = b.length) (h2 : ∀ i, i < a.length → nthL a i = nthL b i) : a = b := by
  refine List.ext_getElem h fun i h3 h4 => ?_
  have := h2 i h3
  rwa [nthL_eq h3, nthL_eq h4] at this
end Go.Att
namespace Go.Proofs.YtnmjaddhbecopaaGreatDoor
open Go.RowKit Go.Att
theorem slRows2 : SlT Tryz.prog 22 23 1 24 (.slice none 0 0) := .mk' Tryz.underlying22 (by kernel_rfl) (by decide)
set_option maxRecDepth 100000 in
set_option maxHeartbeats 1000000 in
theorem srows_any (va vb : Value) (a b : List (List Int)) (w : World) (ha : Rws w va a) (hb : Rws w vb b) :
    Calls Tryz.prog 30 #[va, vb] w (Rd w (.bool (decide (a = b)))) := by
  obtain ⟨RA, ha⟩ := ha
  obtain ⟨RB, hb⟩ := hb
  have hla := ha.run_len (P := Tryz.prog) slRows2
  have hlb := hb.run_len (P := Tryz.prog) slRows2
  have hlen := ha.len
  have HA := Lib.hid ha; have HB := Lib.hid hb; clear ha hb
  by_cases hl : a.length = b.length
  · have hbb : ((a.length : Int) != (b.length : Int)) = false := by rw [bne_eq_false_iff_eq]; omega
    have HL := Lib.hid hl; clear hl
    go_enter Tryz.func30, Tryz.ntmps30
    go_wp2_with fail
    go_loopw [5, 6] (fun x5 _ wr => ∃ i m : Nat, i ≤ a.length ∧ x5 = .int .i64 i ∧ Hid (∀ j, j < i → nthL a j = nthL b j) ∧ wr = w.drewN m) (fun x5 _ _ => a.length - (intOf x5).toNat)
    case atStart => exact ⟨0, 0, Nat.zero_le _, rfl, Lib.hid (fun j hj => by omega), rfl⟩
    case round =>
      obtain ⟨i, m, hi, rfl, H, hwr⟩ := hrel
      have hx : Ext w wr := hwr ▸ Ext.drewN _ _
      have HW := Lib.hid hwr; clear hwr
      by_cases hil : i < a.length
      · have hil2 : i < b.length := by have := HL.out; omega
        have hix := HA.out.run_index (P := Tryz.prog) slRows2 i hil
        have hc := (HA.out.ext hx).cell i hil
        have hix2 := HB.out.run_index (P := Tryz.prog) slRows2 i hil2
        have hc2 := (HB.out.ext hx).cell i hil2
        by_cases he : nthL a i = nthL b i
        · have HE := Lib.hid he
          have hd := decide_eq_true he
          clear he
          go_wp2_with fail
          go_quiet ((go_at_call 15; exact sints_q ((HA.out.row i hil).ext hx) ((HB.out.row i hil2).ext hx) hd _))
          go_wp2_with fail
          go_roundw
          case rel => exact ⟨i + 1, _, by omega, by go_num, Lib.hid (fun j hj => by
            rcases Nat.lt_or_eq_of_le (show j ≤ i by omega) with h | rfl
            · exact H.out j h
            · exact HE.out), by rw [HW.out, World.drewN_drewN]⟩
          case measure => simp [intOf]; omega
        · have hd := decide_eq_false he
          have HD := Lib.hid (decide_eq_false (p := a = b) (fun e => he (by rw [e]))); clear he
          go_wp2_with fail
          go_quiet ((go_at_call 15; exact sints_q ((HA.out.row i hil).ext hx) ((HB.out.row i hil2).ext hx) hd _))
          go_wp2_with fail
          go_ret
          exact ⟨ret_bool HD.out.symm, _, by rw [HW.out, World.drewN_drewN]⟩
      · obtain rfl : i = a.length := by omega
        have HD := Lib.hid (decide_eq_true (p := a = b) (lists_eq_of HL.out H.out))
        go_wp2_with fail
        go_ret
        exact ⟨ret_bool HD.out.symm, m, HW.out⟩
  · have hbb : ((a.length : Int) != (b.length : Int)) = true := by rw [bne_iff_ne]; omega
    have HD := Lib.hid (decide_eq_false (p := a = b) (fun e => hl (by rw [e]))); clear hl
    go_enter Tryz.func30, Tryz.ntmps30
    go_wp2_with fail
    go_ret
    exact .same (ret_bool HD.out.symm)
end Go.Proofs.YtnmjaddhbecopaaGreatDoor
end
section
namespace Go.Att
open Go.RowKit
def lcode7 : List In4 := [⟨5, 0, 5, 0⟩, ⟨0, 0, 0, 0⟩]
def toT (t : Stp) : Int × Int × Int × Int × List (Int × Int) := (t.pc, t.fp, t.ap, t.rv, t.acc)
def ofT (x : Int × Int × Int × Int × List (Int × Int)) : Stp := ⟨x.1, x.2.1, x.2.2.1, x.2.2.2.1, x.2.2.2.2⟩
def rd7 : Rw → Option (List (Int × Int × Int × Int × List (Int × Int)) × Int)
  | .done l o _ => some (l.map toT, o)
  | .no _ => none
def l7 : List Stp := [⟨0, 1, 2, 0, [(1, 5)]⟩, ⟨1, 1, 2, 0, [(1, 5)]⟩]
theorem run7_eq : rd7 (walkM 97 1 lcode7 1) = some ([(0, 1, 2, 0, [(1, 5)]), (1, 1, 2, 0, [(1, 5)])], 5) := by kernel_rfl
theorem run7 : ∃ mem, walkM 97 1 lcode7 1 = .done l7 5 mem := by
  have h := run7_eq
  generalize walkM 97 1 lcode7 1 = r at h
  cases r with
  | no k => cases h
  | done l o m =>
    simp only [rd7, Option.some.injEq, Prod.mk.injEq] at h
    obtain ⟨h1, rfl⟩ := h
    refine ⟨m, ?_⟩
    have e : l = l7 := by
      have : (l.map toT).map ofT = l := by
        rw [List.map_map]
        have : ofT ∘ toT = id := by funext t; rfl
        rw [this, List.map_id]
      rw [← this, h1]; rfl
    rw [e]
def S7 : List (Int × Int) := [(0, 0), (0, 0), (0, 0), (0, 0), (0, 0), (0, 0), (1, 5), (1, 5)]
theorem miss7 : missL l7 = [] := by decide +kernel
theorem sort7 : sortP (prsT l7 [] 2) = S7 := by
  refine ord_perm_eq ((sortP_perm _).trans (by decide)) (sortP_ord _) ?_
  have h : ∀ b, b < 8 → ∀ a, a < b → ¬ ((nthP S7 b).1 < (nthP S7 a).1 ∨ (nthP S7 b).1 = (nthP S7 a).1 ∧ (nthP S7 b).2 < (nthP S7 a).2) := by decide
  intro a b hab hb
  exact h b hb a hab
def T7a : List Int := [1, 2, 0, 1, 0, 0, 0, 5, 0, 0, 0, 0, 0, 0, 0, 0, 0, 0, 0, 0, 1, 0]
def T7b : List Int := [1, 2, 0, 1, 0, 0, 0, 5, 0, 0, 0, 0, 0, 0, 1, 1, 0, 0, 5, 5, 0, 1]
theorem tab7 : tableM 97 1 lcode7 2 = .ok [T7a, T7b] 5 := by
  obtain ⟨mem, h⟩ := run7
  unfold tableM
  rw [if_neg (by decide), show (2 : Int) - 1 = 1 by decide, h]
  dsimp only
  rw [miss7, if_neg (by decide)]
  have e : tabL 97 lcode7 l7 (Int.toNat 2) = [T7a, T7b] := by
    unfold tabL
    rw [miss7, show Int.toNat 2 = 2 by rfl, sort7]
    decide +kernel
  rw [e]
end Go.Att
namespace Go.Proofs.YtnmjaddhbecopaaGreatDoor
open Go.RowKit Go.Att
theorem okP97t : okP 97 := by
  refine ⟨prime_end (k := 10) (by decide) (by decide) (by decide) (fun d h1 h2 hd => ?_), by decide, by decide⟩
  have h : d = 2 ∨ d = 3 ∨ d = 4 ∨ d = 5 ∨ d = 6 ∨ d = 7 ∨ d = 8 ∨ d = 9 := by omega
  rcases h with rfl | rfl | rfl | rfl | rfl | rfl | rfl | rfl <;> exact absurd hd (by decide)
theorem plain_bad7 (p : Int) (w : World) (h : ¬ okP p) : Calls Tryz.prog 42 #[.int .i64 p] w fun e w' => e = .returned (.pointer none) ∧ w = w' := by
  have H := Lib.hid h; clear h
  go_enter Tryz.func42, Tryz.ntmps42
  go_wp2_with (go_at_call 68; refine (new_bad _ _ H.out).mono ?_; rintro e w' ⟨rfl, rfl⟩; rw [errv_pos (by decide)])
  go_ret
  exact ⟨rfl, rfl⟩
theorem plain_ok7 (p : Int) (w : World) (h : okP p) : Calls Tryz.prog 42 #[.int .i64 p] w (Gives w fun v w' => ∃ g, FieldOf w' v p g) := by
  have H := Lib.hid h; clear h
  go_enter Tryz.func42, Tryz.ntmps42
  go_wp2_with (go_at_call 68; refine (new_ok _ _ H.out).mono ?_; rintro e w1 ⟨v, rfl, hx, f, g, rfl, hf⟩; obtain ⟨b, rfl⟩ := hf.ptr)
  go_ret
  exact ⟨_, rfl, hx, g, hf⟩
theorem lit_inqs7 (w : World) (t : TypeId) : Inqs (w.alloc (Obj.cells (flatQ lcode7).toArray t)) (.slice (some ⟨w.heap.size, 0, none⟩) 2 2) lcode7 := by
  refine ⟨_, _, rfl, rfl, Nat.le_refl _, by unfold maxLen; omega, fun i hi => ⟨_, _, rfl, ?_⟩⟩
  have := (BlkOf.new w (flatQ lcode7) t).cell i
  rw [Nat.zero_add, this, List.getElem?_eq_getElem hi]
theorem lit_ints (w : World) (l : List Int) (n : Nat) (h : l.length = n) (hn : n ≤ maxLen) (t : TypeId) : Ints (w.alloc (Obj.cells (l.map (Value.int .i64)).toArray t)) (.slice (some ⟨w.heap.size, 0, none⟩) n n) l := by
  subst h
  exact (BlkOf.new w (l.map (Value.int .i64)) t).sl (by simp) hn
set_option maxRecDepth 100000 in
set_option maxHeartbeats 4000000 in
theorem lives7_any (w : World) : Calls Tryz.prog 41 #[] w fun e w' => e = .returned (.bool true) ∧ Ext w w' := by
  go_enter Tryz.func41, Tryz.ntmps41
  go_wp2_with (go_at_call 42; refine (plain_ok7 _ _ okP97t).mono ?_; rintro e w1 ⟨v, rfl, hx, g, hf⟩; obtain ⟨b, rfl⟩ := hf.ptr)
  obtain ⟨fs, hfl⟩ := hf.fld
  have hxa := Ext.alloc w1 (Obj.cells (flatQ lcode7).toArray 169)
  have hxb := Ext.alloc (w1.alloc (Obj.cells (flatQ lcode7).toArray 169)) (Obj.cells #[.int .i64 1, .slice (some ⟨w1.heap.size, 0, none⟩) 2 2] 48)
  have C := table_any (sz := 1) (n := 2) (cd := lcode7) (hfl.ext (hxa.trans hxb)) ((lit_inqs7 w1 169).ext hxb)
  rw [tab7] at C
  have HX := Lib.hid (hx.trans (hxa.trans hxb))
  clear hf hfl hx hxa hxb
  refine C.mono ?_
  rintro e w2 ⟨v, rfl, hv, hx2⟩
  obtain ⟨R, hR⟩ := hv
  have HX2 := Lib.hid (HX.out.trans hx2)
  have hl2 : ∀ w', (Builtin.len_ #[22] 3 #[v]).run Tryz.prog w' = .ok (.int .i64 2) w' := fun w' => hR.run_len (P := Tryz.prog) slRowsT 3 w'
  have hi0 : ∀ w', (Instr.indexAt 22 v (.int .i64 0)).run Tryz.prog w' = .ok (.pointer (some (elt v 0 1))) w' := fun w' => hR.run_index (P := Tryz.prog) slRowsT 0 (by decide) w'
  have hi1 : ∀ w', (Instr.indexAt 22 v (.int .i64 1)).run Tryz.prog w' = .ok (.pointer (some (elt v 1 1))) w' := fun w' => hR.run_index (P := Tryz.prog) slRowsT 1 (by decide) w'
  have r0 := hR.row 0 (by decide)
  have r1 := hR.row 1 (by decide)
  have c0 := hR.cell 0 (by decide)
  have c1 := hR.cell 1 (by decide)
  have HR0 : Hid (Ints w2 (R 0) T7a) := Lib.hid r0
  have HR1 : Hid (Ints w2 (R 1) T7b) := Lib.hid r1
  have HC1 := Lib.hid c1
  clear C r0 r1 hx2 HX hR c1
  go_wp2_with fail
  have hxc := Ext.alloc w2 (Obj.cells (T7a.map (Value.int .i64)).toArray 3)
  have C0 := sints_any (R 0) (.slice (some ⟨w2.heap.size, 0, none⟩) 22 22) T7a T7a _ (HR0.out.ext hxc) (lit_ints w2 T7a 22 rfl (by decide) 3)
  rw [show decide (T7a = T7a) = true by simp] at C0
  refine C0.mono ?_
  rintro e w3 hrd
  obtain ⟨rfl, hx3⟩ := hrd.ext
  have HX3 := Lib.hid (hxc.trans hx3)
  have c1 := HX3.out.cell HC1.out
  clear hrd hx3 hxc C0 c0
  go_wp2_with fail
  have hxd := Ext.alloc w3 (Obj.cells (T7b.map (Value.int .i64)).toArray 3)
  have C1 := sints_any (R 1) (.slice (some ⟨w3.heap.size, 0, none⟩) 22 22) T7b T7b _ (HR1.out.ext (HX3.out.trans hxd)) (lit_ints w3 T7b 22 rfl (by decide) 3)
  rw [show decide (T7b = T7b) = true by simp] at C1
  refine C1.mono ?_
  rintro e w4 hrd
  obtain ⟨rfl, hx4⟩ := hrd.ext
  have HX4 := Lib.hid ((HX2.out.trans HX3.out).trans (hxd.trans hx4))
  clear hrd hx4 hxd C1 c1
  go_wp2_with fail
  go_ret
  exact ⟨rfl, HX4.out⟩
end Go.Proofs.YtnmjaddhbecopaaGreatDoor
end
section
namespace Go.Att
open Go.RowKit
/-- A run as three numbers, a list and what is wrong. -/
def RanIs (r : Rw) (o n : Int) (L : List (Int × Int)) (k : Int) : Prop :=
  match r with
  | .done l out mem => o = out ∧ n = (l.length : Int) - 1 ∧ CellsOf mem L ∧ k = 0
  | .no j => o = 0 ∧ n = 0 ∧ L = [] ∧ k = j
theorem RanIs.one {r : Rw} {o n o' n' k k' : Int} {L L' : List (Int × Int)} (h : RanIs r o n L k) (h' : RanIs r o' n' L' k') : o = o' ∧ n = n' ∧ L = L' ∧ k = k' := by
  unfold RanIs at h h'
  cases r with
  | done l out mem =>
    obtain ⟨rfl, rfl, h3, rfl⟩ := h
    obtain ⟨rfl, rfl, h4, rfl⟩ := h'
    exact ⟨rfl, rfl, h3.one h4, rfl⟩
  | no j =>
    obtain ⟨rfl, rfl, rfl, rfl⟩ := h
    obtain ⟨rfl, rfl, rfl, rfl⟩ := h'
    exact ⟨rfl, rfl, rfl, rfl⟩
theorem prs_nil (w : World) : Prs w (.slice none 0 0) [] := ⟨none, 0, rfl, rfl, Nat.le_refl _, by unfold maxLen; omega, fun i hi => by simp [flatP] at hi⟩
end Go.Att
namespace Go.Proofs.YtnmjaddhbecopaaGreatDoor
open Go.RowKit Go.Att
/-- What the program's Run comes to. -/
def RGot (w : World) (r : Rw) (e : Ending) (w' : World) : Prop := ∃ o n v L k, e = .returned (.tuple #[.agg #[.int .i64 o, .int .i64 n, v], errv k]) ∧ RanIs r o n L k ∧ Prs w' v L ∧ Ext w w'
section
variable {w : World} {p g : Int} {fs : List Int} {sz : Int} {lv : Value} {cd : List In4} {lim : Int}
theorem run_got {f : Value} (hf : Fld w f p g fs) (hc : Inqs w lv cd) : Calls Tryz.prog 46 #[f, .agg #[.int .i64 sz, lv], .int .i64 lim] w (RGot w (walkM p sz cd lim)) := by
  refine (prun_any hf hc).mono ?_
  intro e w' h
  cases hR : walkM p sz cd lim with
  | no k =>
    rw [hR] at h
    obtain ⟨rfl, hx⟩ := h
    exact ⟨0, 0, _, [], k, by rw [errv_pos (walkM_nz hR)], ⟨rfl, rfl, rfl, rfl⟩, prs_nil _, hx⟩
  | done l out mem =>
    rw [hR] at h
    obtain ⟨v, L, rfl, hc, hv, hx⟩ := h
    exact ⟨_, _, v, L, 0, rfl, ⟨rfl, rfl, hc, rfl⟩, hv, hx⟩
end
end Go.Proofs.YtnmjaddhbecopaaGreatDoor
end
section
namespace Go.Att
open Go.RowKit
theorem brk_found {p sz out : Int} {cd : List In4} {L : List (List Int)} {e : Ending} (h : BrkGot p sz out cd L e) : ∃ a b : Int, e = .returned (.agg #[.int .i64 a, .int .i64 b]) ∧ (a = -1 → ∀ k i, k < cd.length + 26 → i < L.length → badB p sz out cd L k i = false) := by
  rcases h with ⟨_, rfl⟩ | ⟨_, o, ho, rfl⟩
  · exact ⟨_, _, rfl, fun e => by cases e⟩
  · refine ⟨_, _, rfl, fun e => ?_⟩
    cases o with
    | none => exact fun k i hk hi => ho k i ⟨hk, hi⟩
    | some q =>
      obtain ⟨k, i⟩ := q
      exfalso
      simp only [toldB] at e
      omega
end Go.Att
namespace Go.Proofs.YtnmjaddhbecopaaGreatDoor
open Go.RowKit Go.Att
set_option maxRecDepth 100000 in
set_option maxHeartbeats 4000000 in
theorem rulesSound_bad (p : Int) (cv : Value) (out : Int) (v : Value) (w : World) (h : ¬ okP p) (sz : Int) (lv : Value) (hcv : cv = .agg #[.int .i64 sz, lv]) :
    Calls Tryz.prog 8 #[.int .i64 p, cv, .int .i64 out, v] w fun e w' => e = .returned (.bool true) ∧ Ext w w' := by
  subst hcv
  have H := Lib.hid h; clear h
  have HX0 := Lib.hid (Ext.alloc w (Obj.cells #[.int .i64 sz, lv] 48))
  go_enter Tryz.func8, Tryz.ntmps8
  go_wp2_with (first | (go_at_call 41; refine (lives7_any _).mono ?_; rintro e w1 ⟨rfl, hx1⟩) | (go_at_call 42; refine (plain_bad7 _ _ H.out).mono ?_; rintro e w2 ⟨rfl, rfl⟩))
  go_ret
  exact ⟨rfl, HX0.out.trans hx1⟩
set_option maxRecDepth 100000 in
set_option maxHeartbeats 8000000 in
theorem rulesSound_ok (p sz : Int) (lv : Value) (cd : List In4) (out : Int) (v : Value) (L : List (List Int)) (w : World) (h : okP p) (hg : Hnd w) (hc : Inqs w lv cd) (hv : Rws w v L) :
    Calls Tryz.prog 8 #[.int .i64 p, .agg #[.int .i64 sz, lv], .int .i64 out, v] w fun e w' => e = .returned (.bool true) ∧ Ext w w' := by
  have H := Lib.hid h; have HG := Lib.hid hg
  have HC := Lib.hid hc
  have HV := Lib.hid hv
  obtain ⟨hp, hp3, hpm⟩ := h
  obtain ⟨al, cl, rfl⟩ := hc.shape
  have HB := Lib.hid (BlkOf.new w [.int .i64 sz, .slice al cd.length cl] 48)
  have HX0 := Lib.hid (Ext.alloc w (Obj.cells #[.int .i64 sz, .slice al cd.length cl] 48))
  have hlv : ∀ w', (Builtin.len_ #[22] 3 #[v]).run Tryz.prog w' = .ok (.int .i64 (L.length : Int)) w' := fun w' => by
    obtain ⟨R, hR⟩ := hv
    exact hR.run_len (P := Tryz.prog) slRowsT 3 w'
  clear hg hp hc hv
  go_enter Tryz.func8, Tryz.ntmps8
  go_wp2_with fail
  generalize hqb : w.heap.size = qb at *
  clear hqb
  generalize w.alloc (Obj.cells #[.int .i64 sz, .slice al cd.length cl] 48) = W at *
  refine (lives7_any _).mono ?_
  rintro e w0 ⟨rfl, hx0⟩
  replace HX0 := Lib.hid (HX0.out.trans hx0)
  have HB0 := Lib.hid (HB.out.ext hx0)
  clear hx0 HB
  go_wp2_with fail
  refine (plain_ok7 _ _ H.out).mono ?_
  rintro e w1 ⟨v1, rfl, hx, g, hf⟩
  obtain ⟨bf, rfl⟩ := hf.ptr
  obtain ⟨fs, hfl⟩ := hf.fld
  have HF := Lib.hid hfl
  have HX := Lib.hid (HX0.out.trans hx)
  have HB1 := Lib.hid (HB0.out.ext hx)
  have e0 : w1.cell? ⟨qb, 0, none⟩ = some (.int .i64 sz) := HB1.out.cell 0
  have e1 : w1.cell? ⟨qb, 1, none⟩ = some (.slice al cd.length cl) := HB1.out.cell 1
  clear hf hfl hx HB0 HX0
  obtain ⟨N, hN⟩ : ∃ N, L.length = N := ⟨_, rfl⟩
  rw [hN] at hlv
  have HN := Lib.hid hN
  clear hN
  by_cases h1 : N < 1
  · obtain rfl : N = 0 := by omega
    clear h1
    go_wp2_with fail
    go_ret
    exact ⟨rfl, HX.out⟩
  by_cases h2 : 512 < N
  · go_wp2_with fail
    go_ret
    exact ⟨rfl, HX.out⟩
  have hN1 : 1 ≤ (N : Int) := by omega
  have hN2 : (N : Int) ≤ 512 := by omega
  by_cases h3 : p < 4 * (N : Int)
  · clear h1 h2
    go_wp2_with fail
    go_ret
    exact ⟨rfl, HX.out⟩
  clear h1 h2
  go_wp2_with fail
  refine (dfault_any (p := p) (sz := sz) (lim := (N : Int) - 1) (HC.out.ext HX.out)).mono ?_
  rintro e w2 ⟨rfl, hx2⟩
  clear e0 e1
  have HX2 := Lib.hid (HX.out.trans hx2); have HB2 := Lib.hid (HB1.out.ext hx2); have HF2 := Lib.hid (HF.out.ext hx2)
  clear hx2 HX HB1 HF
  have e0 : w2.cell? ⟨qb, 0, none⟩ = some (.int .i64 sz) := HB2.out.cell 0
  have e1 : w2.cell? ⟨qb, 1, none⟩ = some (.slice al cd.length cl) := HB2.out.cell 1
  obtain ⟨fl, hfl⟩ : ∃ fl, faultM p sz cd.length ((N : Int) - 1) = fl := ⟨_, rfl⟩
  rw [hfl]
  have HFL := Lib.hid hfl
  clear hfl
  by_cases hz : fl = 0
  case neg =>
    go_wp2_with fail
    go_ret
    exact ⟨rfl, HX2.out⟩
  subst hz
  have hcl : 0 < cd.length ∧ cd.length ≤ 4096 := by
    have := HFL.out
    unfold faultM at this
    split at this
    · omega
    · omega
  have HC0 := Lib.hid hcl
  clear hcl
  go_wp2_with fail
  refine (pbroken_full _ sz out _ v cd L w2 HF2.out (HC.out.ext HX2.out) (HV.out.ext HX2.out) (by have := HC0.out; omega) (by have := HN.out; omega) (by have := HN.out; omega) HC0.out.1).mono ?_
  rintro e w3 ⟨hbg, hx3⟩
  obtain ⟨ra, rb, rfl, hrb⟩ := brk_found hbg
  have HRB := Lib.hid hrb
  have hx4 := Ext.alloc w3 (Obj.cells #[.int .i64 ra, .int .i64 rb] 93)
  have HBR := Lib.hid (BlkOf.new w3 [.int .i64 ra, .int .i64 rb] 93)
  have HX4 := Lib.hid (HX2.out.trans (hx3.trans hx4)); have HB4 := Lib.hid (HB2.out.ext (hx3.trans hx4)); have HF4 := Lib.hid (HF2.out.ext (hx3.trans hx4))
  clear e0 e1 hbg hrb hx3 hx4 HX2 HB2 HF2
  go_wp2_with fail
  generalize w3.alloc (Obj.cells #[.int .i64 ra, .int .i64 rb] 93) = W4 at *
  generalize w3.heap.size = kb at *
  refine (alike_any HF4.out v L (HV.out.ext HX4.out) (by have := HN.out; omega)).mono ?_
  rintro e w5 ⟨rfl, hx5⟩
  have HX5 := Lib.hid (HX4.out.trans hx5); have HB5 := Lib.hid (HB4.out.ext hx5); have HF5 := Lib.hid (HF4.out.ext hx5); have HBR5 := Lib.hid (HBR.out.ext hx5)
  clear hx5 HX4 HB4 HF4 HBR
  have e0 : w5.cell? ⟨qb, 0, none⟩ = some (.int .i64 sz) := HB5.out.cell 0
  have e1 : w5.cell? ⟨qb, 1, none⟩ = some (.slice al cd.length cl) := HB5.out.cell 1
  have b0 : w5.cell? ⟨kb, 0, none⟩ = some (.int .i64 ra) := HBR5.out.cell 0
  by_cases hra : ra = -1
  case neg =>
    go_wp2_with fail
    go_ret
    exact ⟨rfl, HX5.out⟩
  subst hra
  cases hal : alikeB p L with
  | false =>
    go_wp2_with fail
    go_ret
    exact ⟨rfl, HX5.out⟩
  | true =>
    have hrun := rows_run (sz := sz) (out := out) H.out.1 (by rw [HN.out]; exact HFL.out) (HRB.out rfl) (by have := HN.out; omega) (by have := HN.out; omega) hal
    rw [HN.out] at hrun
    have HRUN := Lib.hid hrun
    clear hrun hal
    go_wp2_with fail
    refine (run_got (sz := sz) (lim := (N : Int) - 1) HF5.out (HC.out.ext HX5.out)).mono ?_
    rintro e w6 ⟨o, n', v', L', k', rfl, hr, hv', hx6⟩
    obtain ⟨av, cv, rfl⟩ := prs_shape hv'
    have hx7 := Ext.alloc w6 (Obj.cells #[.int .i64 o, .int .i64 n', .slice av L'.length cv] 98)
    have HD := Lib.hid (BlkOf.new w6 [.int .i64 o, .int .i64 n', .slice av L'.length cv] 98)
    have HX7 := Lib.hid (HX5.out.trans (hx6.trans hx7))
    clear e0 e1 b0 hv' hx6 hx7 HX5 HB5 HF5 HBR5
    go_wp2_with fail
    generalize w6.alloc (Obj.cells #[.int .i64 o, .int .i64 n', .slice av L'.length cv] 98) = W7 at *
    generalize w6.heap.size = db at *
    have d0 : W7.cell? ⟨db, 0, none⟩ = some (.int .i64 o) := HD.out.cell 0
    refine (rof_any p out W7 (by omega) (by omega)).mono ?_
    rintro e w8 ⟨rfl, rfl⟩
    rcases HRUN.out with hR | ⟨l, mem, hR⟩
    · rw [hR] at hr
      obtain ⟨rfl, rfl, -, rfl⟩ := hr
      have HE1 := Lib.hid (error_any 10 7 W7 (HG.out.ext HX7.out))
      rw [errv_pos (by omega)]
      rw [errv_pos (by omega)] at HE1
      clear hR
      go_wp2_with fail
      refine HE1.out.mono ?_
      rintro e w9 ⟨rfl, hx9⟩
      have HX9 := Lib.hid (HX7.out.trans hx9)
      clear hx9
      have HE2 := Lib.hid (error_any 10 8 w9 (HG.out.ext HX9.out))
      rw [errv_pos (by omega)] at HE2
      go_wp2_with fail
      refine HE2.out.mono ?_
      rintro e wa ⟨rfl, hxa⟩
      have HXA := Lib.hid (HX9.out.trans hxa)
      clear hxa
      go_wp2_with fail
      go_ret
      exact ⟨rfl, HXA.out⟩
    · rw [hR] at hr
      obtain ⟨rfl, -, -, rfl⟩ := hr
      rw [errv_zero]
      clear hR
      go_wp2_with fail
      go_ret
      exact ⟨rfl, HX7.out⟩
end Go.Proofs.YtnmjaddhbecopaaGreatDoor
end
section
namespace Go.Proofs.YtnmjaddhbecopaaGreatDoor.bulks

theorem one_le {H : Type} (d : DataW H) : 1 ≤ Rows.uptoBulk d := by
  cases d with
  | lit l => cases l <;> simp [Rows.uptoBulk]
  | nil => simp [Rows.uptoBulk]
  | ptr d => simp [Rows.uptoBulk]
  | slice elems spare => simp [Rows.uptoBulk]
  | agg parts => simp [Rows.uptoBulk]
  | iface t d => simp [Rows.uptoBulk]
  | map entries => simp [Rows.uptoBulk]
  | held h => simp [Rows.uptoBulk]

/-- a part's bulk is at most the whole's -/
theorem part_le {H : Type} {d : DataW H} {l : List (DataW H)} (h : d ∈ l) : Rows.uptoBulk d ≤ Rows.uptoBulkAll l := by
  induction l with
  | nil => cases h
  | cons x r ih =>
    simp only [Rows.uptoBulkAll]
    cases List.mem_cons.1 h with
    | inl e => subst e; omega
    | inr e => have := ih e; omega

theorem append {H : Type} (l r : List (DataW H)) : Rows.uptoBulkAll (l ++ r) = Rows.uptoBulkAll l + Rows.uptoBulkAll r := by
  induction l with
  | nil => simp [Rows.uptoBulkAll]
  | cons x l ih => simp only [List.cons_append, Rows.uptoBulkAll, ih]; omega

/-- so many values at the most -/
theorem length_le {H : Type} (l : List (DataW H)) : l.length ≤ Rows.uptoBulkAll l := by
  induction l with
  | nil => simp [Rows.uptoBulkAll]
  | cons x r ih => have := one_le x; simp only [Rows.uptoBulkAll, List.length_cons]; omega

/-- a slice's places, and what they hold -/
theorem slice_le {H : Type} (elems spare : List (DataW H)) : elems.length + spare.length + 1 ≤ Rows.uptoBulk (.slice elems spare) := by
  have h1 := length_le elems
  have h2 := length_le spare
  simp only [Rows.uptoBulk]
  omega
theorem slice_elems {H : Type} (elems spare : List (DataW H)) : Rows.uptoBulkAll elems + 1 ≤ Rows.uptoBulk (.slice elems spare) := by
  simp only [Rows.uptoBulk]
  omega

/-- a string's letters -/
theorem string_eq {H : Type} (bytes : List UInt8) : Rows.uptoBulk (DataW.lit (H := H) (.string bytes)) = bytes.length + 1 := by
  simp [Rows.uptoBulk]

/-- THE BOUND, as the builder hands it over ('hk') -/
theorem bound {H : Type} {l : List (DataW H)} (hk : Rows.uptoSmall H l = true) : Rows.uptoBulkAll l ≤ 1048576 := by
  simpa [Rows.uptoSmall] using hk

/-- ROOM: a slice of n elements of b bytes, grown by append: below the 2^48 bytes that append, make and a Builder bear. Here n up to 2^21, b up to 4,096: put your own numbers. -/
theorem room {n b : Nat} (hn : n ≤ 2097152) (hb : b ≤ 4096) : (n + n / 4 + 192) * b ≤ 281474976710656 := by
  have h : (n + n / 4 + 192) * b ≤ 2621632 * 4096 := Nat.mul_le_mul (by omega) hb
  omega

end Go.Proofs.YtnmjaddhbecopaaGreatDoor.bulks
end
