/- Are two lists the same? Contract. PledgeMixes: sums of any rows; the root of any table: the law's walk: for every input it returns true and leaves all that was there as it was. A circuit is shown: plain: layer by layer. No program in sight. Two that show a circuit are the same: contract. -/
import Derived.Test.YtfepefbehgbjpaaGreatDoorZx19
import Derived.Test.YtfepefbehgbjpaaGreatDoorZx1
import Derived.Test.YtfepefbehgbjpaaGreatDoorZx18
import Derived.Test.YtfepefbehgbjpaaGreatDoorJm
import Derived.Test.YtfepefbehgbjpaaGreatDoorZx7
import Derived.Test.YtfepefbehgbjpaaGreatDoorZx6
import Derived.Test.YtfepefbehgbjpaaGreatDoorGd
section
/-! Are two lists the same? Contract. -/
namespace Go.Att
theorem list_eq_of {a b : List Int} (h : a.length = b.length) (h2 : ∀ i, i < a.length → nth a i = nth b i) : a = b := by
  refine List.ext_getElem h fun i h3 h4 => ?_
  have := h2 i h3
  rwa [nth_eq h3, nth_eq h4] at this
end Go.Att
namespace Go.Proofs.YtfepefbehgbjpaaGreatDoor
open Go.RowKit Go.Att
set_option maxRecDepth 100000 in
set_option maxHeartbeats 1000000 in
theorem sints_any (va vb : Value) (a b : List Int) (w : World) (ha : Ints w va a) (hb : Ints w vb b) :
    Calls Tryz.prog 15 #[va, vb] w (Rd w (.bool (decide (a = b)))) := by
  have hla := ha.run_len (P := Tryz.prog) slInts
  have hlb := hb.run_len (P := Tryz.prog) slInts
  have hlen := ha.len
  have HA := Lib.hid ha; have HB := Lib.hid hb; clear ha hb
  by_cases hl : a.length = b.length
  · have hbb : ((a.length : Int) != (b.length : Int)) = false := by rw [bne_eq_false_iff_eq]; omega
    have HL := Lib.hid hl; clear hl
    go_enter Tryz.func15, Tryz.ntmps15
    go_wp2_with fail
    go_loopw [5] (fun x5 wr => ∃ i m : Nat, i ≤ a.length ∧ x5 = .int .i64 i ∧ Hid (∀ j, j < i → nth a j = nth b j) ∧ wr = w.drewN m) (fun x5 _ => a.length - (intOf x5).toNat)
    case atStart => exact ⟨0, 0, Nat.zero_le _, rfl, Lib.hid (fun j hj => by omega), rfl⟩
    case round =>
      obtain ⟨i, m, hi, rfl, H, rfl⟩ := hrel
      by_cases hil : i < a.length
      · have hix := HA.out.run_index (P := Tryz.prog) slInts i hil
        have hc := HA.out.cell i hil
        have hix2 := HB.out.run_index (P := Tryz.prog) slInts i (by have := HL.out; omega)
        have hc2 := HB.out.cell i (by have := HL.out; omega)
        by_cases he : nth a i = nth b i
        · have hb2 : (nth a i != nth b i) = false := by rw [bne_eq_false_iff_eq]; exact he
          have HE := Lib.hid he; clear he
          go_wp2_with fail
          go_quiet (fail)
          go_wp2_with fail
          go_roundw
          case rel => exact ⟨i + 1, _, by omega, by go_num, Lib.hid (fun j hj => by
            rcases Nat.lt_or_eq_of_le (show j ≤ i by omega) with h | rfl
            · exact H.out j h
            · exact HE.out), rfl⟩
          case measure => simp [intOf]; omega
        · have hb2 : (nth a i != nth b i) = true := by rw [bne_iff_ne]; exact he
          have HD := Lib.hid (decide_eq_false (p := a = b) (fun e => he (by rw [e]))); clear he
          go_wp2_with fail
          go_quiet (fail)
          go_wp2_with fail
          go_ret
          exact ⟨ret_bool HD.out.symm, _, World.drewN_drewN _ _ _⟩
      · obtain rfl : i = a.length := by omega
        have HD := Lib.hid (decide_eq_true (p := a = b) (list_eq_of HL.out H.out))
        go_wp2_with fail
        go_ret
        exact .more _ (ret_bool HD.out.symm)
  · have hbb : ((a.length : Int) != (b.length : Int)) = true := by rw [bne_iff_ne]; omega
    have HD := Lib.hid (decide_eq_false (p := a = b) (fun e => hl (by rw [e]))); clear hl
    go_enter Tryz.func15, Tryz.ntmps15
    go_wp2_with fail
    go_ret
    exact .same (ret_bool HD.out.symm)
theorem sints_q {va vb : Value} {a b : List Int} {w : World} {c : Bool} (ha : Ints w va a) (hb : Ints w vb b) (hc : decide (a = b) = c) (n : Nat) :
    Calls Tryz.prog 15 #[va, vb] (w.drewN n) fun e w'' => e = .returned (.bool c) ∧ ∃ m, w'' = w.drewN m := by
  subst hc
  exact Calls.quiet_of (sints_any _ _ _ _ _ (ha.drewN n) (hb.drewN n))
end Go.Proofs.YtfepefbehgbjpaaGreatDoor
/-! Are two lists of lists the same? Contract. -/
namespace Go.Att
theorem lists_eq_of {a b : List (List Int)} (h : a.length = b.length) (h2 : ∀ i, i < a.length → nthL a i = nthL b i) : a = b := by
  refine List.ext_getElem h fun i h3 h4 => ?_
  have := h2 i h3
  rwa [nthL_eq h3, nthL_eq h4] at this
end Go.Att
namespace Go.Proofs.YtfepefbehgbjpaaGreatDoor
open Go.RowKit Go.Att
theorem slRows2 : SlT Tryz.prog 29 22 1 24 (.slice none 0 0) := .mk' Tryz.underlying29 (by kernel_rfl) (by decide)
set_option maxRecDepth 100000 in
set_option maxHeartbeats 1000000 in
theorem srows_any (va vb : Value) (a b : List (List Int)) (w : World) (ha : Rws w va a) (hb : Rws w vb b) :
    Calls Tryz.prog 96 #[va, vb] w (Rd w (.bool (decide (a = b)))) := by
  obtain ⟨RA, ha⟩ := ha
  obtain ⟨RB, hb⟩ := hb
  have hla := ha.run_len (P := Tryz.prog) slRows2
  have hlb := hb.run_len (P := Tryz.prog) slRows2
  have hlen := ha.len
  have HA := Lib.hid ha; have HB := Lib.hid hb; clear ha hb
  by_cases hl : a.length = b.length
  · have hbb : ((a.length : Int) != (b.length : Int)) = false := by rw [bne_eq_false_iff_eq]; omega
    have HL := Lib.hid hl; clear hl
    go_enter Tryz.func96, Tryz.ntmps96
    go_wp2_with fail
    go_loopw [5, 6] (fun x5 _ wr => ∃ i m : Nat, i ≤ a.length ∧ x5 = .int .i64 i ∧ Hid (∀ j, j < i → nthL a j = nthL b j) ∧ wr = w.drewN m) (fun x5 _ _ => a.length - (intOf x5).toNat)
    case atStart => exact ⟨0, 0, Nat.zero_le _, rfl, Lib.hid (fun j hj => by omega), rfl⟩
    case round =>
      obtain ⟨i, m, hi, rfl, H, hwr⟩ := hrel
      have hx : Ext w wr := hwr ▸ Ext.drewN _ _
      have HW := Lib.hid hwr; clear hwr
      by_cases hil : i < a.length
      · have hil2 : i < b.length := by have := HL.out; omega
        have hix := HA.out.run_index (P := Tryz.prog) slRows2 i hil
        have hc := (HA.out.ext hx).cell i hil
        have hix2 := HB.out.run_index (P := Tryz.prog) slRows2 i hil2
        have hc2 := (HB.out.ext hx).cell i hil2
        by_cases he : nthL a i = nthL b i
        · have HE := Lib.hid he
          have hd := decide_eq_true he
          clear he
          go_wp2_with fail
          go_quiet ((go_at_call 15; exact sints_q ((HA.out.row i hil).ext hx) ((HB.out.row i hil2).ext hx) hd _))
          go_wp2_with fail
          go_roundw
          case rel => exact ⟨i + 1, _, by omega, by go_num, Lib.hid (fun j hj => by
            rcases Nat.lt_or_eq_of_le (show j ≤ i by omega) with h | rfl
            · exact H.out j h
            · exact HE.out), by rw [HW.out, World.drewN_drewN]⟩
          case measure => simp [intOf]; omega
        · have hd := decide_eq_false he
          have HD := Lib.hid (decide_eq_false (p := a = b) (fun e => he (by rw [e]))); clear he
          go_wp2_with fail
          go_quiet ((go_at_call 15; exact sints_q ((HA.out.row i hil).ext hx) ((HB.out.row i hil2).ext hx) hd _))
          go_wp2_with fail
          go_ret
          exact ⟨ret_bool HD.out.symm, _, by rw [HW.out, World.drewN_drewN]⟩
      · obtain rfl : i = a.length := by omega
        have HD := Lib.hid (decide_eq_true (p := a = b) (lists_eq_of HL.out H.out))
        go_wp2_with fail
        go_ret
        exact ⟨ret_bool HD.out.symm, m, HW.out⟩
  · have hbb : ((a.length : Int) != (b.length : Int)) = true := by rw [bne_iff_ne]; omega
    have HD := Lib.hid (decide_eq_false (p := a = b) (fun e => hl (by rw [e]))); clear hl
    go_enter Tryz.func96, Tryz.ntmps96
    go_wp2_with fail
    go_ret
    exact .same (ret_bool HD.out.symm)
end Go.Proofs.YtfepefbehgbjpaaGreatDoor
end
section
namespace Go.Att
open Go.RowKit
theorem twoB_pow {n : Int} (h : twoB n = true) : ∃ K : Nat, K ≤ 16 ∧ n = (2 : Int) ^ K := by
  simp only [twoB, twoUp, List.any_eq_true, List.mem_range, beq_iff_eq] at h
  obtain ⟨k, h1, h2⟩ := h
  exact ⟨k, by omega, h2.symm⟩
end Go.Att
namespace Go.Proofs.YtfepefbehgbjpaaGreatDoor
open Go.RowKit Go.Att
theorem pw_le {p : Int} {k : Nat} (h : IsPw p k) (h23 : 23 ≤ p) (hp2 : p ≤ 2147483647) : (k : Int) ≤ 9223372036854775807 := by
  apply Classical.byContradiction
  intro hc
  exact h.2.2 (p - 2).toNat (by omega) (by omega) (gcd_last h23)
end Go.Proofs.YtfepefbehgbjpaaGreatDoor
end
section
namespace Go.Att
open Go.RowKit
def nthC (L : List (List (List Int))) (i : Nat) : List (List Int) := L.getD i []
def Cub (w : World) (v : Value) (L : List (List (List Int))) : Prop := ∃ Q : Nat → Value, Sl w 1 v L.length ((List.range L.length).map Q) ∧ ∀ i, i < L.length → Rws w (Q i) (nthC L i)
theorem Cub.ext {w w' : World} {v : Value} {L : List (List (List Int))} (h : Cub w v L) (hx : Ext w w') : Cub w' v L := by
  obtain ⟨Q, h1, h2⟩ := h
  exact ⟨Q, h1.ext hx, fun i hi => (h2 i hi).ext hx⟩
end Go.Att
end
section
namespace Go.Att
open Go.RowKit
structure CubAt (w : World) (v : Value) (L : List (List (List Int))) (Q : Nat → Value) : Prop where
  sl : Sl w 1 v L.length ((List.range L.length).map Q)
  row : ∀ i, i < L.length → Rws w (Q i) (nthC L i)
section
variable {P : Program} {w : World} {v : Value} {l : List (List (List Int))} {Q : Nat → Value}
theorem CubAt.ext {w' : World} (h : CubAt w v l Q) (hx : Ext w w') : CubAt w' v l Q := ⟨h.sl.ext hx, fun i hi => (h.row i hi).ext hx⟩
theorem CubAt.cell (h : CubAt w v l Q) (i : Nat) (hi : i < l.length) : w.cell? (elt v i 1) = some (Q i) := by
  have := Sl.cell h.sl i 0 hi (by omega)
  simp [Addr.add] at this
  rw [this]; simp [hi]
theorem CubAt.run_index (h : CubAt w v l Q) {t e bytes : Nat} {z : Value} (ht : SlT P t e 1 bytes z) (i : Nat) (hi : i < l.length) (w' : World) :
    (Instr.indexAt t v (.int .i64 i)).run P w' = .ok (.pointer (some (elt v i 1))) w' := Sl.run_index h.sl ht i (by omega) (by omega) w'
end
theorem Rws.drewN {w : World} {v : Value} {l : List (List Int)} (h : Rws w v l) (n : Nat) : Rws (w.drewN n) v l := h.ext (Ext.drewN _ _)
theorem Cub.nil (w : World) : Cub w (.slice none 0 0) [] := ⟨fun _ => undef, Ints.nil w, fun i hi => by simp at hi⟩
end Go.Att
namespace Go.Proofs.YtfepefbehgbjpaaGreatDoor
open Go.RowKit Go.Att
end Go.Proofs.YtfepefbehgbjpaaGreatDoor
end
