/- A circuit is shown: plain: layer by layer. No program in sight. Are two lists the same? Contract. Two that show a circuit are the same: contract. -/
import Derived.Test.YtnhbabiccfdhmaaGreatDoorZx14
import Derived.Test.YtnhbabiccfdhmaaGreatDoorZx1
import Derived.Test.YtnhbabiccfdhmaaGreatDoorVc
section
namespace Go.Att
open Go.RowKit
/-- A layer's sum with some variables fixed; its rounds, its line, what is drawn. -/
noncomputable def layF (p wd : Int) (Ls : List (List Tri)) (inp : List Int) (i : Nat) (z : List Int) (xs : List Int) : Int := partS (nthY Ls i) (beneath wd Ls i).toNat (vrow p Ls inp i) z xs (nthY Ls i).length % p
noncomputable def layS (p : Int) (k : Nat) (wd : Int) (Ls : List (List Tri)) (inp : List Int) (i : Nat) (z D : List Int) : List Int × List Int := dwn p k (layF p wd Ls inp i z) D (2 * (beneath wd Ls i).toNat)
noncomputable def layR (p : Int) (k : Nat) (wd : Int) (Ls : List (List Tri)) (inp : List Int) (i : Nat) (z D : List Int) : List (List Int) := dwnT p k (layF p wd Ls inp i z) D (2 * (beneath wd Ls i).toNat)
noncomputable def layN (p : Int) (k : Nat) (wd : Int) (Ls : List (List Tri)) (inp : List Int) (i : Nat) (z D : List Int) : List Int := lineN p (vrow p Ls inp i) ((layS p k wd Ls inp i z D).1.take (beneath wd Ls i).toNat) ((layS p k wd Ls inp i z D).1.drop (beneath wd Ls i).toNat) ((beneath wd Ls i).toNat + 1)
noncomputable def layD (p : Int) (k : Nat) (wd : Int) (Ls : List (List Tri)) (inp : List Int) (i : Nat) (z D : List Int) : List Int := stepP p k 4 (stepP p k 3 (layS p k wd Ls inp i z D).2 (layN p k wd Ls inp i z D)) []
noncomputable def layZ (p : Int) (k : Nat) (wd : Int) (Ls : List (List Tri)) (inp : List Int) (i : Nat) (z D : List Int) : List Int := onL p ((layS p k wd Ls inp i z D).1.take (beneath wd Ls i).toNat) ((layS p k wd Ls inp i z D).1.drop (beneath wd Ls i).toNat) (nth (layD p k wd Ls inp i z D) 0)
/-- The point and the chain behind so many layers; all rounds, all lines. -/
noncomputable def mkS (p : Int) (k : Nat) (wd : Int) (Ls : List (List Tri)) (inp z D : List Int) : Nat → List Int × List Int
  | 0 => (z, D)
  | j + 1 => (layZ p k wd Ls inp (Ls.length - 1 - j) (mkS p k wd Ls inp z D j).1 (mkS p k wd Ls inp z D j).2, layD p k wd Ls inp (Ls.length - 1 - j) (mkS p k wd Ls inp z D j).1 (mkS p k wd Ls inp z D j).2)
noncomputable def mkR (p : Int) (k : Nat) (wd : Int) (Ls : List (List Tri)) (inp z D : List Int) (j : Nat) : List (List (List Int)) := (List.range j).map fun t => layR p k wd Ls inp (Ls.length - 1 - t) (mkS p k wd Ls inp z D t).1 (mkS p k wd Ls inp z D t).2
noncomputable def mkL (p : Int) (k : Nat) (wd : Int) (Ls : List (List Tri)) (inp z D : List Int) (j : Nat) : List (List Int) := (List.range j).map fun t => layN p k wd Ls inp (Ls.length - 1 - t) (mkS p k wd Ls inp z D t).1 (mkS p k wd Ls inp z D t).2
theorem mkR_snoc (p : Int) (k : Nat) (wd : Int) (Ls : List (List Tri)) (inp z D : List Int) (j : Nat) : mkR p k wd Ls inp z D (j + 1) = mkR p k wd Ls inp z D j ++ [layR p k wd Ls inp (Ls.length - 1 - j) (mkS p k wd Ls inp z D j).1 (mkS p k wd Ls inp z D j).2] := by simp [mkR, List.range_succ]
theorem mkL_snoc (p : Int) (k : Nat) (wd : Int) (Ls : List (List Tri)) (inp z D : List Int) (j : Nat) : mkL p k wd Ls inp z D (j + 1) = mkL p k wd Ls inp z D j ++ [layN p k wd Ls inp (Ls.length - 1 - j) (mkS p k wd Ls inp z D j).1 (mkS p k wd Ls inp z D j).2] := by simp [mkL, List.range_succ]
theorem mkR_len (p : Int) (k : Nat) (wd : Int) (Ls : List (List Tri)) (inp z D : List Int) (j : Nat) : (mkR p k wd Ls inp z D j).length = j := by simp [mkR]
theorem mkL_len (p : Int) (k : Nat) (wd : Int) (Ls : List (List Tri)) (inp z D : List Int) (j : Nat) : (mkL p k wd Ls inp z D j).length = j := by simp [mkL]
theorem layD_len (p : Int) (k : Nat) (wd : Int) (Ls : List (List Tri)) (inp : List Int) (i : Nat) (z D : List Int) : (layD p k wd Ls inp i z D).length = 4 := stepP_length _ _ _ _ _
theorem layZ_len (p : Int) (k : Nat) (wd : Int) (Ls : List (List Tri)) (inp : List Int) (i : Nat) (z D : List Int) : (layZ p k wd Ls inp i z D).length = (beneath wd Ls i).toNat := by
  unfold layZ
  rw [onL_length, List.length_take]
  unfold layS
  rw [dwn_len]; omega
theorem mkS_dig (p : Int) (k : Nat) (wd : Int) (Ls : List (List Tri)) (inp z : List Int) {D : List Int} (h : D.length = 4) : ∀ j, (mkS p k wd Ls inp z D j).2.length = 4
  | 0 => h
  | _j + 1 => layD_len _ _ _ _ _ _ _ _
theorem mkS_len (p : Int) (k : Nat) (wd : Int) (Ls : List (List Tri)) (inp D : List Int) {z : List Int} (hz : (z.length : Int) = wideOf (nthY Ls (Ls.length - 1)).length) (hE : cirErr wd Ls = 0) : ∀ j, j < Ls.length → ((mkS p k wd Ls inp z D j).1.length : Int) = wideOf (nthY Ls (Ls.length - 1 - j)).length
  | 0, _ => by simpa [mkS] using hz
  | j + 1, hj => by
    have hb := (beneath_bd (cirErr_ok hE).1 (i := Ls.length - 1 - j) (by omega)).1
    simp only [mkS]
    rw [layZ_len]
    have : beneath wd Ls (Ls.length - 1 - j) = wideOf (nthY Ls (Ls.length - 1 - (j + 1))).length := by
      unfold beneath
      rw [if_neg (by omega)]
      congr 3
    rw [← this]; omega
/-- A list of lists of lists. -/
def nthC (L : List (List (List Int))) (i : Nat) : List (List Int) := L.getD i []
theorem nthC_snoc (L : List (List (List Int))) (l : List (List Int)) (i : Nat) (h : i < L.length + 1) : nthC (L ++ [l]) i = if i < L.length then nthC L i else l := by
  unfold nthC
  simp only [List.getD_eq_getElem?_getD]
  by_cases h1 : i < L.length
  · rw [List.getElem?_append_left h1, if_pos h1]
  · rw [List.getElem?_append_right (by omega), if_neg h1, show i - L.length = 0 by omega]; rfl
def Cub (w : World) (v : Value) (L : List (List (List Int))) : Prop := ∃ Q : Nat → Value, Sl w 1 v L.length ((List.range L.length).map Q) ∧ ∀ i, i < L.length → Rws w (Q i) (nthC L i)
theorem Cub.ext {w w' : World} {v : Value} {L : List (List (List Int))} (h : Cub w v L) (hx : Ext w w') : Cub w' v L := by
  obtain ⟨Q, h1, h2⟩ := h
  exact ⟨Q, h1.ext hx, fun i hi => (h2 i hi).ext hx⟩
end Go.Att
end
section
/-! Are two lists the same? Contract. -/
namespace Go.Att
theorem list_eq_of {a b : List Int} (h : a.length = b.length) (h2 : ∀ i, i < a.length → nth a i = nth b i) : a = b := by
  refine List.ext_getElem h fun i h3 h4 => ?_
  have := h2 i h3
  rwa [nth_eq h3, nth_eq h4] at this
end Go.Att
namespace Go.Proofs.YtnhbabiccfdhmaaGreatDoor
open Go.RowKit Go.Att
set_option maxRecDepth 100000 in
set_option maxHeartbeats 1000000 in
theorem sints_any (va vb : Value) (a b : List Int) (w : World) (ha : Ints w va a) (hb : Ints w vb b) :
    Calls Tryz.prog 16 #[va, vb] w (Rd w (.bool (decide (a = b)))) := by
  have hla := ha.run_len (P := Tryz.prog) slInts
  have hlb := hb.run_len (P := Tryz.prog) slInts
  have hlen := ha.len
  have HA := Lib.hid ha; have HB := Lib.hid hb; clear ha hb
  by_cases hl : a.length = b.length
  · have hbb : ((a.length : Int) != (b.length : Int)) = false := by rw [bne_eq_false_iff_eq]; omega
    have HL := Lib.hid hl; clear hl
    go_enter Tryz.func16, Tryz.ntmps16
    go_wp2_with fail
    go_loopw [5] (fun x5 wr => ∃ i m : Nat, i ≤ a.length ∧ x5 = .int .i64 i ∧ Hid (∀ j, j < i → nth a j = nth b j) ∧ wr = w.drewN m) (fun x5 _ => a.length - (intOf x5).toNat)
    case atStart => exact ⟨0, 0, Nat.zero_le _, rfl, Lib.hid (fun j hj => by omega), rfl⟩
    case round =>
      obtain ⟨i, m, hi, rfl, H, rfl⟩ := hrel
      by_cases hil : i < a.length
      · have hix := HA.out.run_index (P := Tryz.prog) slInts i hil
        have hc := HA.out.cell i hil
        have hix2 := HB.out.run_index (P := Tryz.prog) slInts i (by have := HL.out; omega)
        have hc2 := HB.out.cell i (by have := HL.out; omega)
        by_cases he : nth a i = nth b i
        · have hb2 : (nth a i != nth b i) = false := by rw [bne_eq_false_iff_eq]; exact he
          have HE := Lib.hid he; clear he
          go_wp2_with fail
          go_quiet (fail)
          go_wp2_with fail
          go_roundw
          case rel => exact ⟨i + 1, _, by omega, by go_num, Lib.hid (fun j hj => by
            rcases Nat.lt_or_eq_of_le (show j ≤ i by omega) with h | rfl
            · exact H.out j h
            · exact HE.out), rfl⟩
          case measure => simp [intOf]; omega
        · have hb2 : (nth a i != nth b i) = true := by rw [bne_iff_ne]; exact he
          have HD := Lib.hid (decide_eq_false (p := a = b) (fun e => he (by rw [e]))); clear he
          go_wp2_with fail
          go_quiet (fail)
          go_wp2_with fail
          go_ret
          exact ⟨ret_bool HD.out.symm, _, World.drewN_drewN _ _ _⟩
      · obtain rfl : i = a.length := by omega
        have HD := Lib.hid (decide_eq_true (p := a = b) (list_eq_of HL.out H.out))
        go_wp2_with fail
        go_ret
        exact .more _ (ret_bool HD.out.symm)
  · have hbb : ((a.length : Int) != (b.length : Int)) = true := by rw [bne_iff_ne]; omega
    have HD := Lib.hid (decide_eq_false (p := a = b) (fun e => hl (by rw [e]))); clear hl
    go_enter Tryz.func16, Tryz.ntmps16
    go_wp2_with fail
    go_ret
    exact .same (ret_bool HD.out.symm)
theorem sints_q {va vb : Value} {a b : List Int} {w : World} {c : Bool} (ha : Ints w va a) (hb : Ints w vb b) (hc : decide (a = b) = c) (n : Nat) :
    Calls Tryz.prog 16 #[va, vb] (w.drewN n) fun e w'' => e = .returned (.bool c) ∧ ∃ m, w'' = w.drewN m := by
  subst hc
  exact Calls.quiet_of (sints_any _ _ _ _ _ (ha.drewN n) (hb.drewN n))
end Go.Proofs.YtnhbabiccfdhmaaGreatDoor
/-! Are two lists of lists the same? Contract. -/
namespace Go.Att
theorem lists_eq_of {a b : List (List Int)} (h : a.length = b.length) (h2 : ∀ i, i < a.length → nthL a i = nthL b i) : a = b := by
  refine List.ext_getElem h fun i h3 h4 => ?_
  have := h2 i h3
  rwa [nthL_eq h3, nthL_eq h4] at this
end Go.Att
namespace Go.Proofs.YtnhbabiccfdhmaaGreatDoor
open Go.RowKit Go.Att
theorem slRows2 : SlT Tryz.prog 22 23 1 24 (.slice none 0 0) := .mk' Tryz.underlying22 (by kernel_rfl) (by decide)
set_option maxRecDepth 100000 in
set_option maxHeartbeats 1000000 in
theorem srows_any (va vb : Value) (a b : List (List Int)) (w : World) (ha : Rws w va a) (hb : Rws w vb b) :
    Calls Tryz.prog 72 #[va, vb] w (Rd w (.bool (decide (a = b)))) := by
  obtain ⟨RA, ha⟩ := ha
  obtain ⟨RB, hb⟩ := hb
  have hla := ha.run_len (P := Tryz.prog) slRows2
  have hlb := hb.run_len (P := Tryz.prog) slRows2
  have hlen := ha.len
  have HA := Lib.hid ha; have HB := Lib.hid hb; clear ha hb
  by_cases hl : a.length = b.length
  · have hbb : ((a.length : Int) != (b.length : Int)) = false := by rw [bne_eq_false_iff_eq]; omega
    have HL := Lib.hid hl; clear hl
    go_enter Tryz.func72, Tryz.ntmps72
    go_wp2_with fail
    go_loopw [5, 6] (fun x5 _ wr => ∃ i m : Nat, i ≤ a.length ∧ x5 = .int .i64 i ∧ Hid (∀ j, j < i → nthL a j = nthL b j) ∧ wr = w.drewN m) (fun x5 _ _ => a.length - (intOf x5).toNat)
    case atStart => exact ⟨0, 0, Nat.zero_le _, rfl, Lib.hid (fun j hj => by omega), rfl⟩
    case round =>
      obtain ⟨i, m, hi, rfl, H, hwr⟩ := hrel
      have hx : Ext w wr := hwr ▸ Ext.drewN _ _
      have HW := Lib.hid hwr; clear hwr
      by_cases hil : i < a.length
      · have hil2 : i < b.length := by have := HL.out; omega
        have hix := HA.out.run_index (P := Tryz.prog) slRows2 i hil
        have hc := (HA.out.ext hx).cell i hil
        have hix2 := HB.out.run_index (P := Tryz.prog) slRows2 i hil2
        have hc2 := (HB.out.ext hx).cell i hil2
        by_cases he : nthL a i = nthL b i
        · have HE := Lib.hid he
          have hd := decide_eq_true he
          clear he
          go_wp2_with fail
          go_quiet ((go_at_call 16; exact sints_q ((HA.out.row i hil).ext hx) ((HB.out.row i hil2).ext hx) hd _))
          go_wp2_with fail
          go_roundw
          case rel => exact ⟨i + 1, _, by omega, by go_num, Lib.hid (fun j hj => by
            rcases Nat.lt_or_eq_of_le (show j ≤ i by omega) with h | rfl
            · exact H.out j h
            · exact HE.out), by rw [HW.out, World.drewN_drewN]⟩
          case measure => simp [intOf]; omega
        · have hd := decide_eq_false he
          have HD := Lib.hid (decide_eq_false (p := a = b) (fun e => he (by rw [e]))); clear he
          go_wp2_with fail
          go_quiet ((go_at_call 16; exact sints_q ((HA.out.row i hil).ext hx) ((HB.out.row i hil2).ext hx) hd _))
          go_wp2_with fail
          go_ret
          exact ⟨ret_bool HD.out.symm, _, by rw [HW.out, World.drewN_drewN]⟩
      · obtain rfl : i = a.length := by omega
        have HD := Lib.hid (decide_eq_true (p := a = b) (lists_eq_of HL.out H.out))
        go_wp2_with fail
        go_ret
        exact ⟨ret_bool HD.out.symm, m, HW.out⟩
  · have hbb : ((a.length : Int) != (b.length : Int)) = true := by rw [bne_iff_ne]; omega
    have HD := Lib.hid (decide_eq_false (p := a = b) (fun e => hl (by rw [e]))); clear hl
    go_enter Tryz.func72, Tryz.ntmps72
    go_wp2_with fail
    go_ret
    exact .same (ret_bool HD.out.symm)
end Go.Proofs.YtnhbabiccfdhmaaGreatDoor
end
section
namespace Go.Att
open Go.RowKit
structure CubAt (w : World) (v : Value) (L : List (List (List Int))) (Q : Nat → Value) : Prop where
  sl : Sl w 1 v L.length ((List.range L.length).map Q)
  row : ∀ i, i < L.length → Rws w (Q i) (nthC L i)
theorem Cub.at' {w : World} {v : Value} {L : List (List (List Int))} (h : Cub w v L) : ∃ Q, CubAt w v L Q := let ⟨Q, h1, h2⟩ := h; ⟨Q, h1, h2⟩
section
variable {P : Program} {w : World} {v : Value} {l : List (List (List Int))} {Q : Nat → Value}
theorem CubAt.ext {w' : World} (h : CubAt w v l Q) (hx : Ext w w') : CubAt w' v l Q := ⟨h.sl.ext hx, fun i hi => (h.row i hi).ext hx⟩
theorem CubAt.cell (h : CubAt w v l Q) (i : Nat) (hi : i < l.length) : w.cell? (elt v i 1) = some (Q i) := by
  have := Sl.cell h.sl i 0 hi (by omega)
  simp [Addr.add] at this
  rw [this]; simp [hi]
theorem CubAt.run_index (h : CubAt w v l Q) {t e bytes : Nat} {z : Value} (ht : SlT P t e 1 bytes z) (i : Nat) (hi : i < l.length) (w' : World) :
    (Instr.indexAt t v (.int .i64 i)).run P w' = .ok (.pointer (some (elt v i 1))) w' := Sl.run_index h.sl ht i (by omega) (by omega) w'
end
theorem Rws.drewN {w : World} {v : Value} {l : List (List Int)} (h : Rws w v l) (n : Nat) : Rws (w.drewN n) v l := h.ext (Ext.drewN _ _)
theorem Cub.nil (w : World) : Cub w (.slice none 0 0) [] := ⟨fun _ => undef, Ints.nil w, fun i hi => by simp at hi⟩
end Go.Att
namespace Go.Proofs.YtnhbabiccfdhmaaGreatDoor
open Go.RowKit Go.Att
theorem srows_q {va vb : Value} {a b : List (List Int)} {w : World} {c : Bool} (ha : Rws w va a) (hb : Rws w vb b) (hc : decide (a = b) = c) (n : Nat) :
    Calls Tryz.prog 72 #[va, vb] (w.drewN n) fun e w'' => e = .returned (.bool c) ∧ ∃ m, w'' = w.drewN m := by
  subst hc
  exact Calls.quiet_of (srows_any _ _ _ _ _ (ha.drewN n) (hb.drewN n))
theorem slCubB : SlT Tryz.prog 51 22 1 24 (.slice none 0 0) := .mk' Tryz.underlying51 (by kernel_rfl) (by decide)
set_option maxRecDepth 100000 in
set_option maxHeartbeats 4000000 in
theorem layered_same (va la vb lb : Value) (A : List (List (List Int))) (B : List (List Int)) (w : World) (ha : Cub w va A) (hb : Cub w vb A) (h1 : Rws w la B) (h2 : Rws w lb B) :
    Calls Tryz.prog 26 #[.agg #[va, la], .agg #[vb, lb]] w fun e w' => e = .returned (.bool true) ∧ Ext w w' := by
  obtain ⟨QA, ha⟩ := ha.at'; obtain ⟨QB, hb⟩ := hb.at'
  have hla := Sl.run_len (P := Tryz.prog) ha.sl slCubB
  have hlb := Sl.run_len (P := Tryz.prog) hb.sl slCubB
  have hlen : (A.length : Int) ≤ 9223372036854775807 := by have := Sl.len ha.sl; unfold maxLen at this; omega
  have HA := Lib.hid ha; have HB := Lib.hid hb; have H1 := Lib.hid h1; have H2 := Lib.hid h2
  clear ha hb h1 h2
  have HX0 := Lib.hid ((Ext.alloc w (Obj.cells #[va, la] 53)).trans (Ext.alloc _ (Obj.cells #[vb, lb] 53)))
  have k0 := (Ext.alloc (w.alloc (Obj.cells #[va, la] 53)) (Obj.cells #[vb, lb] 53)).cell (cell_new w #[va, la] 53 0)
  have k1 := (Ext.alloc (w.alloc (Obj.cells #[va, la] 53)) (Obj.cells #[vb, lb] 53)).cell (cell_new w #[va, la] 53 1)
  have k2 := cell_new (w.alloc (Obj.cells #[va, la] 53)) #[vb, lb] 53 0
  have k3 := cell_new (w.alloc (Obj.cells #[va, la] 53)) #[vb, lb] 53 1
  rw [World.size_alloc] at k2 k3
  have HK0 := Lib.hid k0; have HK1 := Lib.hid k1; have HK2 := Lib.hid k2; have HK3 := Lib.hid k3
  clear k0 k1 k2 k3
  go_enter Tryz.func26, Tryz.ntmps26
  go_upto_region 1 with (fail)
  generalize ((w.alloc (Obj.cells #[va, la] 53)).alloc (Obj.cells #[vb, lb] 53)) = w1 at *
  have k0 : w1.cell? ⟨w.heap.size, 0, none⟩ = some va := HK0.out
  have k1 : w1.cell? ⟨w.heap.size, 1, none⟩ = some la := HK1.out
  have k2 : w1.cell? ⟨w.heap.size + 1, 0, none⟩ = some vb := HK2.out
  have k3 : w1.cell? ⟨w.heap.size + 1, 1, none⟩ = some lb := HK3.out
  go_wp2_with fail
  go_loopw [5, 6] (fun x5 _ wr => ∃ i m : Nat, i ≤ A.length ∧ x5 = .int .i64 i ∧ wr = w1.drewN m) (fun x5 _ _ => A.length - (intOf x5).toNat)
  case atStart => exact ⟨0, 0, Nat.zero_le _, rfl, rfl⟩
  case round =>
    clear k0 k1 k2 k3
    obtain ⟨i, m, hi, rfl, hwr⟩ := hrel
    have hx : Ext w1 wr := hwr ▸ Ext.drewN _ _
    have HW := Lib.hid hwr; clear hwr
    have k0 : wr.cell? ⟨w.heap.size, 0, none⟩ = some va := hx.cell HK0.out
    have k1 : wr.cell? ⟨w.heap.size, 1, none⟩ = some la := hx.cell HK1.out
    have k2 : wr.cell? ⟨w.heap.size + 1, 0, none⟩ = some vb := hx.cell HK2.out
    have k3 : wr.cell? ⟨w.heap.size + 1, 1, none⟩ = some lb := hx.cell HK3.out
    have HXX := Lib.hid (HX0.out.trans hx)
    clear hx
    by_cases hil : i < A.length
    · have hix := HA.out.run_index (P := Tryz.prog) slCubB i hil
      have hc := (HA.out.ext HXX.out).cell i hil
      have hix2 := HB.out.run_index (P := Tryz.prog) slCubB i hil
      have hc2 := (HB.out.ext HXX.out).cell i hil
      have HRA := Lib.hid ((HA.out.ext HXX.out).row i hil); have HRB := Lib.hid ((HB.out.ext HXX.out).row i hil)
      go_wp2_with fail
      go_quiet ((go_at_call 72; exact srows_q HRA.out HRB.out (decide_eq_true rfl) _))
      go_wp2_with fail
      go_roundw
      case rel => exact ⟨i + 1, _, by omega, by go_num, by rw [HW.out, World.drewN_drewN]⟩
      case measure => simp [intOf]; omega
    · obtain rfl : i = A.length := by omega
      go_wp2_with (go_at_call 72; refine (srows_any _ _ _ _ _ (H1.out.ext HXX.out) (H2.out.ext HXX.out)).mono ?_; rw [show decide (B = B) = true from decide_eq_true rfl]; rintro e w7 hrd; obtain ⟨rfl, hx7⟩ := hrd.ext; clear hrd)
      go_ret
      exact ⟨rfl, HXX.out.trans hx7⟩
end Go.Proofs.YtnhbabiccfdhmaaGreatDoor
end
