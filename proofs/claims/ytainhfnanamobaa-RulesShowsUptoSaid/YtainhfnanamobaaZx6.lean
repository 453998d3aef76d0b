/- Are two lists the same? Contract. The closed fact of the tables' laws: contract. -/
import Derived.Test.YtainhfnanamobaaFa
import Derived.Test.YtainhfnanamobaaVc
import Derived.Test.YtainhfnanamobaaTf
import Derived.Test.YtainhfnanamobaaFc
section
/-! Are two lists the same? Contract. -/
namespace Go.Att
theorem list_eq_of {a b : List Int} (h : a.length = b.length) (h2 : ∀ i, i < a.length → nth a i = nth b i) : a = b := by
  refine List.ext_getElem h fun i h3 h4 => ?_
  have := h2 i h3
  rwa [nth_eq h3, nth_eq h4] at this
end Go.Att
namespace Go.Proofs.Ytainhfnanamobaa
open Go.RowKit Go.Att
set_option maxRecDepth 100000 in
set_option maxHeartbeats 1000000 in
theorem sints_any (va vb : Value) (a b : List Int) (w : World) (ha : Ints w va a) (hb : Ints w vb b) :
    Calls Try.prog 10 #[va, vb] w (Rd w (.bool (decide (a = b)))) := by
  have hla := ha.run_len (P := Try.prog) slInts
  have hlb := hb.run_len (P := Try.prog) slInts
  have hlen := ha.len
  have HA := Lib.hid ha; have HB := Lib.hid hb; clear ha hb
  by_cases hl : a.length = b.length
  · have hbb : ((a.length : Int) != (b.length : Int)) = false := by rw [bne_eq_false_iff_eq]; omega
    have HL := Lib.hid hl; clear hl
    go_enter Try.func10, Try.ntmps10
    go_wp2_with fail
    go_loopw [5] (fun x5 wr => ∃ i m : Nat, i ≤ a.length ∧ x5 = .int .i64 i ∧ Hid (∀ j, j < i → nth a j = nth b j) ∧ wr = w.drewN m) (fun x5 _ => a.length - (intOf x5).toNat)
    case atStart => exact ⟨0, 0, Nat.zero_le _, rfl, Lib.hid (fun j hj => by omega), rfl⟩
    case round =>
      obtain ⟨i, m, hi, rfl, H, rfl⟩ := hrel
      by_cases hil : i < a.length
      · have hix := HA.out.run_index (P := Try.prog) slInts i hil
        have hc := HA.out.cell i hil
        have hix2 := HB.out.run_index (P := Try.prog) slInts i (by have := HL.out; omega)
        have hc2 := HB.out.cell i (by have := HL.out; omega)
        by_cases he : nth a i = nth b i
        · have hb2 : (nth a i != nth b i) = false := by rw [bne_eq_false_iff_eq]; exact he
          have HE := Lib.hid he; clear he
          go_wp2_with fail
          go_quiet (fail)
          go_wp2_with fail
          go_roundw
          case rel => exact ⟨i + 1, _, by omega, by go_num, Lib.hid (fun j hj => by
            rcases Nat.lt_or_eq_of_le (show j ≤ i by omega) with h | rfl
            · exact H.out j h
            · exact HE.out), rfl⟩
          case measure => simp [intOf]; omega
        · have hb2 : (nth a i != nth b i) = true := by rw [bne_iff_ne]; exact he
          have HD := Lib.hid (decide_eq_false (p := a = b) (fun e => he (by rw [e]))); clear he
          go_wp2_with fail
          go_quiet (fail)
          go_wp2_with fail
          go_ret
          exact ⟨ret_bool HD.out.symm, _, World.drewN_drewN _ _ _⟩
      · obtain rfl : i = a.length := by omega
        have HD := Lib.hid (decide_eq_true (p := a = b) (list_eq_of HL.out H.out))
        go_wp2_with fail
        go_ret
        exact .more _ (ret_bool HD.out.symm)
  · have hbb : ((a.length : Int) != (b.length : Int)) = true := by rw [bne_iff_ne]; omega
    have HD := Lib.hid (decide_eq_false (p := a = b) (fun e => hl (by rw [e]))); clear hl
    go_enter Try.func10, Try.ntmps10
    go_wp2_with fail
    go_ret
    exact .same (ret_bool HD.out.symm)
theorem sints_q {va vb : Value} {a b : List Int} {w : World} {c : Bool} (ha : Ints w va a) (hb : Ints w vb b) (hc : decide (a = b) = c) (n : Nat) :
    Calls Try.prog 10 #[va, vb] (w.drewN n) fun e w'' => e = .returned (.bool c) ∧ ∃ m, w'' = w.drewN m := by
  subst hc
  exact Calls.quiet_of (sints_any _ _ _ _ _ (ha.drewN n) (hb.drewN n))
end Go.Proofs.Ytainhfnanamobaa
/-! Are two lists of lists the same? Contract. -/
namespace Go.Att
theorem lists_eq_of {a b : List (List Int)} (h : a.length = b.length) (h2 : ∀ i, i < a.length → nthL a i = nthL b i) : a = b := by
  refine List.ext_getElem h fun i h3 h4 => ?_
  have := h2 i h3
  rwa [nthL_eq h3, nthL_eq h4] at this
end Go.Att
namespace Go.Proofs.Ytainhfnanamobaa
open Go.RowKit Go.Att
theorem slRows2 : SlT Try.prog 28 46 1 24 (.slice none 0 0) := .mk' Try.underlying28 (by kernel_rfl) (by decide)
end Go.Proofs.Ytainhfnanamobaa
end
section
namespace Go.Att
open Go.RowKit
def lcode7 : List In4 := [⟨5, 0, 5, 0⟩, ⟨0, 0, 0, 0⟩]
def toT (t : Stp) : Int × Int × Int × Int × List (Int × Int) := (t.pc, t.fp, t.ap, t.rv, t.acc)
def ofT (x : Int × Int × Int × Int × List (Int × Int)) : Stp := ⟨x.1, x.2.1, x.2.2.1, x.2.2.2.1, x.2.2.2.2⟩
def rd7 : Rw → Option (List (Int × Int × Int × Int × List (Int × Int)) × Int)
  | .done l o _ => some (l.map toT, o)
  | .no _ => none
def l7 : List Stp := [⟨0, 1, 2, 0, [(1, 5)]⟩, ⟨1, 1, 2, 0, [(1, 5)]⟩]
theorem run7_eq : rd7 (walkM 97 1 lcode7 1) = some ([(0, 1, 2, 0, [(1, 5)]), (1, 1, 2, 0, [(1, 5)])], 5) := by kernel_rfl
theorem run7 : ∃ mem, walkM 97 1 lcode7 1 = .done l7 5 mem := by
  have h := run7_eq
  generalize walkM 97 1 lcode7 1 = r at h
  cases r with
  | no k => cases h
  | done l o m =>
    simp only [rd7, Option.some.injEq, Prod.mk.injEq] at h
    obtain ⟨h1, rfl⟩ := h
    refine ⟨m, ?_⟩
    have e : l = l7 := by
      have : (l.map toT).map ofT = l := by
        rw [List.map_map]
        have : ofT ∘ toT = id := by funext t; rfl
        rw [this, List.map_id]
      rw [← this, h1]; rfl
    rw [e]
def S7 : List (Int × Int) := [(0, 0), (0, 0), (0, 0), (0, 0), (0, 0), (0, 0), (1, 5), (1, 5)]
theorem miss7 : missL l7 = [] := by decide +kernel
theorem sort7 : sortP (prsT l7 [] 2) = S7 := by
  refine ord_perm_eq ((sortP_perm _).trans (by decide)) (sortP_ord _) ?_
  have h : ∀ b, b < 8 → ∀ a, a < b → ¬ ((nthP S7 b).1 < (nthP S7 a).1 ∨ (nthP S7 b).1 = (nthP S7 a).1 ∧ (nthP S7 b).2 < (nthP S7 a).2) := by decide
  intro a b hab hb
  exact h b hb a hab
def T7a : List Int := [1, 2, 0, 1, 0, 0, 0, 5, 0, 0, 0, 0, 0, 0, 0, 0, 0, 0, 0, 0, 1, 0]
def T7b : List Int := [1, 2, 0, 1, 0, 0, 0, 5, 0, 0, 0, 0, 0, 0, 1, 1, 0, 0, 5, 5, 0, 1]
theorem tab7 : tableM 97 1 lcode7 2 = .ok [T7a, T7b] 5 := by
  obtain ⟨mem, h⟩ := run7
  unfold tableM
  rw [if_neg (by decide), show (2 : Int) - 1 = 1 by decide, h]
  dsimp only
  rw [miss7, if_neg (by decide)]
  have e : tabL 97 lcode7 l7 (Int.toNat 2) = [T7a, T7b] := by
    unfold tabL
    rw [miss7, show Int.toNat 2 = 2 by rfl, sort7]
    decide +kernel
  rw [e]
end Go.Att
namespace Go.Proofs.Ytainhfnanamobaa
open Go.RowKit Go.Att
theorem okP97t : okP 97 := by
  refine ⟨prime_end (k := 10) (by decide) (by decide) (by decide) (fun d h1 h2 hd => ?_), by decide, by decide⟩
  have h : d = 2 ∨ d = 3 ∨ d = 4 ∨ d = 5 ∨ d = 6 ∨ d = 7 ∨ d = 8 ∨ d = 9 := by omega
  rcases h with rfl | rfl | rfl | rfl | rfl | rfl | rfl | rfl <;> exact absurd hd (by decide)
theorem plain_bad7 (p : Int) (w : World) (h : ¬ okP p) : Calls Try.prog 5 #[.int .i64 p] w fun e w' => e = .returned (.pointer none) ∧ w = w' := by
  have H := Lib.hid h; clear h
  go_enter Try.func5, Try.ntmps5
  go_wp2_with (go_at_call 11; refine (new_bad _ _ H.out).mono ?_; rintro e w' ⟨rfl, rfl⟩; rw [errv_pos (by decide)])
  go_ret
  exact ⟨rfl, rfl⟩
theorem plain_ok7 (p : Int) (w : World) (h : okP p) : Calls Try.prog 5 #[.int .i64 p] w (Gives w fun v w' => ∃ g, FieldOf w' v p g) := by
  have H := Lib.hid h; clear h
  go_enter Try.func5, Try.ntmps5
  go_wp2_with (go_at_call 11; refine (new_ok _ _ H.out).mono ?_; rintro e w1 ⟨v, rfl, hx, f, g, rfl, hf⟩; obtain ⟨b, rfl⟩ := hf.ptr)
  go_ret
  exact ⟨_, rfl, hx, g, hf⟩
theorem lit_inqs7 (w : World) (t : TypeId) : Inqs (w.alloc (Obj.cells (flatQ lcode7).toArray t)) (.slice (some ⟨w.heap.size, 0, none⟩) 2 2) lcode7 := by
  refine ⟨_, _, rfl, rfl, Nat.le_refl _, by unfold maxLen; omega, fun i hi => ⟨_, _, rfl, ?_⟩⟩
  have := (BlkOf.new w (flatQ lcode7) t).cell i
  rw [Nat.zero_add, this, List.getElem?_eq_getElem hi]
theorem lit_ints (w : World) (l : List Int) (n : Nat) (h : l.length = n) (hn : n ≤ maxLen) (t : TypeId) : Ints (w.alloc (Obj.cells (l.map (Value.int .i64)).toArray t)) (.slice (some ⟨w.heap.size, 0, none⟩) n n) l := by
  subst h
  exact (BlkOf.new w (l.map (Value.int .i64)) t).sl (by simp) hn
set_option maxRecDepth 100000 in
set_option maxHeartbeats 4000000 in
theorem lives7_any (w : World) : Calls Try.prog 4 #[] w fun e w' => e = .returned (.bool true) ∧ Ext w w' := by
  go_enter Try.func4, Try.ntmps4
  go_wp2_with (go_at_call 5; refine (plain_ok7 _ _ okP97t).mono ?_; rintro e w1 ⟨v, rfl, hx, g, hf⟩; obtain ⟨b, rfl⟩ := hf.ptr)
  obtain ⟨fs, hfl⟩ := hf.fld
  have hxa := Ext.alloc w1 (Obj.cells (flatQ lcode7).toArray 44)
  have hxb := Ext.alloc (w1.alloc (Obj.cells (flatQ lcode7).toArray 44)) (Obj.cells #[.int .i64 1, .slice (some ⟨w1.heap.size, 0, none⟩) 2 2] 24)
  have C := table_any (sz := 1) (n := 2) (cd := lcode7) (hfl.ext (hxa.trans hxb)) ((lit_inqs7 w1 44).ext hxb)
  rw [tab7] at C
  have HX := Lib.hid (hx.trans (hxa.trans hxb))
  clear hf hfl hx hxa hxb
  refine C.mono ?_
  rintro e w2 ⟨v, rfl, hv, hx2⟩
  obtain ⟨R, hR⟩ := hv
  have HX2 := Lib.hid (HX.out.trans hx2)
  have hl2 : ∀ w', (Builtin.len_ #[28] 3 #[v]).run Try.prog w' = .ok (.int .i64 2) w' := fun w' => hR.run_len (P := Try.prog) slRowsT 3 w'
  have hi0 : ∀ w', (Instr.indexAt 28 v (.int .i64 0)).run Try.prog w' = .ok (.pointer (some (elt v 0 1))) w' := fun w' => hR.run_index (P := Try.prog) slRowsT 0 (by decide) w'
  have hi1 : ∀ w', (Instr.indexAt 28 v (.int .i64 1)).run Try.prog w' = .ok (.pointer (some (elt v 1 1))) w' := fun w' => hR.run_index (P := Try.prog) slRowsT 1 (by decide) w'
  have r0 := hR.row 0 (by decide)
  have r1 := hR.row 1 (by decide)
  have c0 := hR.cell 0 (by decide)
  have c1 := hR.cell 1 (by decide)
  have HR0 : Hid (Ints w2 (R 0) T7a) := Lib.hid r0
  have HR1 : Hid (Ints w2 (R 1) T7b) := Lib.hid r1
  have HC1 := Lib.hid c1
  clear C r0 r1 hx2 HX hR c1
  go_wp2_with fail
  have hxc := Ext.alloc w2 (Obj.cells (T7a.map (Value.int .i64)).toArray 3)
  have C0 := sints_any (R 0) (.slice (some ⟨w2.heap.size, 0, none⟩) 22 22) T7a T7a _ (HR0.out.ext hxc) (lit_ints w2 T7a 22 rfl (by decide) 3)
  rw [show decide (T7a = T7a) = true by simp] at C0
  refine C0.mono ?_
  rintro e w3 hrd
  obtain ⟨rfl, hx3⟩ := hrd.ext
  have HX3 := Lib.hid (hxc.trans hx3)
  have c1 := HX3.out.cell HC1.out
  clear hrd hx3 hxc C0 c0
  go_wp2_with fail
  have hxd := Ext.alloc w3 (Obj.cells (T7b.map (Value.int .i64)).toArray 3)
  have C1 := sints_any (R 1) (.slice (some ⟨w3.heap.size, 0, none⟩) 22 22) T7b T7b _ (HR1.out.ext (HX3.out.trans hxd)) (lit_ints w3 T7b 22 rfl (by decide) 3)
  rw [show decide (T7b = T7b) = true by simp] at C1
  refine C1.mono ?_
  rintro e w4 hrd
  obtain ⟨rfl, hx4⟩ := hrd.ext
  have HX4 := Lib.hid ((HX2.out.trans HX3.out).trans (hxd.trans hx4))
  clear hrd hx4 hxd C1 c1
  go_wp2_with fail
  go_ret
  exact ⟨rfl, HX4.out⟩
end Go.Proofs.Ytainhfnanamobaa
end
