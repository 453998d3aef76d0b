/- The closed fact of the tables' laws: contract. -/
import Derived.Test.YtaodmkngakikjaaTf
import Derived.Test.YtaodmkngakikjaaSa
import Derived.Test.YtaodmkngakikjaaFc
namespace Go.Att
open Go.RowKit
def lcode7 : List In4 := [⟨5, 0, 5, 0⟩, ⟨0, 0, 0, 0⟩]
def toT (t : Stp) : Int × Int × Int × Int × List (Int × Int) := (t.pc, t.fp, t.ap, t.rv, t.acc)
def ofT (x : Int × Int × Int × Int × List (Int × Int)) : Stp := ⟨x.1, x.2.1, x.2.2.1, x.2.2.2.1, x.2.2.2.2⟩
def rd7 : Rw → Option (List (Int × Int × Int × Int × List (Int × Int)) × Int)
  | .done l o _ => some (l.map toT, o)
  | .no _ => none
def l7 : List Stp := [⟨0, 1, 2, 0, [(1, 5)]⟩, ⟨1, 1, 2, 0, [(1, 5)]⟩]
theorem run7_eq : rd7 (walkM 97 1 lcode7 1) = some ([(0, 1, 2, 0, [(1, 5)]), (1, 1, 2, 0, [(1, 5)])], 5) := by kernel_rfl
theorem run7 : ∃ mem, walkM 97 1 lcode7 1 = .done l7 5 mem := by
  have h := run7_eq
  generalize walkM 97 1 lcode7 1 = r at h
  cases r with
  | no k => cases h
  | done l o m =>
    simp only [rd7, Option.some.injEq, Prod.mk.injEq] at h
    obtain ⟨h1, rfl⟩ := h
    refine ⟨m, ?_⟩
    have e : l = l7 := by
      have : (l.map toT).map ofT = l := by
        rw [List.map_map]
        have : ofT ∘ toT = id := by funext t; rfl
        rw [this, List.map_id]
      rw [← this, h1]; rfl
    rw [e]
def S7 : List (Int × Int) := [(0, 0), (0, 0), (0, 0), (0, 0), (0, 0), (0, 0), (1, 5), (1, 5)]
theorem miss7 : missL l7 = [] := by decide +kernel
theorem sort7 : sortP (prsT l7 [] 2) = S7 := by
  refine ord_perm_eq ((sortP_perm _).trans (by decide)) (sortP_ord _) ?_
  have h : ∀ b, b < 8 → ∀ a, a < b → ¬ ((nthP S7 b).1 < (nthP S7 a).1 ∨ (nthP S7 b).1 = (nthP S7 a).1 ∧ (nthP S7 b).2 < (nthP S7 a).2) := by decide
  intro a b hab hb
  exact h b hb a hab
def T7a : List Int := [1, 2, 0, 1, 0, 0, 0, 5, 0, 0, 0, 0, 0, 0, 0, 0, 0, 0, 0, 0, 1, 0]
def T7b : List Int := [1, 2, 0, 1, 0, 0, 0, 5, 0, 0, 0, 0, 0, 0, 1, 1, 0, 0, 5, 5, 0, 1]
theorem tab7 : tableM 97 1 lcode7 2 = .ok [T7a, T7b] 5 := by
  obtain ⟨mem, h⟩ := run7
  unfold tableM
  rw [if_neg (by decide), show (2 : Int) - 1 = 1 by decide, h]
  dsimp only
  rw [miss7, if_neg (by decide)]
  have e : tabL 97 lcode7 l7 (Int.toNat 2) = [T7a, T7b] := by
    unfold tabL
    rw [miss7, show Int.toNat 2 = 2 by rfl, sort7]
    decide +kernel
  rw [e]
end Go.Att
namespace Go.Proofs.Ytaodmkngakikjaa
open Go.RowKit Go.Att
theorem okP97t : okP 97 := by
  refine ⟨prime_end (k := 10) (by decide) (by decide) (by decide) (fun d h1 h2 hd => ?_), by decide, by decide⟩
  have h : d = 2 ∨ d = 3 ∨ d = 4 ∨ d = 5 ∨ d = 6 ∨ d = 7 ∨ d = 8 ∨ d = 9 := by omega
  rcases h with rfl | rfl | rfl | rfl | rfl | rfl | rfl | rfl <;> exact absurd hd (by decide)
theorem plain_bad7 (p : Int) (w : World) (h : ¬ okP p) : Calls Try.prog 11 #[.int .i64 p] w fun e w' => e = .returned (.pointer none) ∧ w = w' := by
  have H := Lib.hid h; clear h
  go_enter Try.func11, Try.ntmps11
  go_wp2_with (go_at_call 15; refine (new_bad _ _ H.out).mono ?_; rintro e w' ⟨rfl, rfl⟩; rw [errv_pos (by decide)])
  go_ret
  exact ⟨rfl, rfl⟩
theorem plain_ok7 (p : Int) (w : World) (h : okP p) : Calls Try.prog 11 #[.int .i64 p] w (Gives w fun v w' => ∃ g, FieldOf w' v p g) := by
  have H := Lib.hid h; clear h
  go_enter Try.func11, Try.ntmps11
  go_wp2_with (go_at_call 15; refine (new_ok _ _ H.out).mono ?_; rintro e w1 ⟨v, rfl, hx, f, g, rfl, hf⟩; obtain ⟨b, rfl⟩ := hf.ptr)
  go_ret
  exact ⟨_, rfl, hx, g, hf⟩
theorem lit_inqs7 (w : World) (t : TypeId) : Inqs (w.alloc (Obj.cells (flatQ lcode7).toArray t)) (.slice (some ⟨w.heap.size, 0, none⟩) 2 2) lcode7 := by
  refine ⟨_, _, rfl, rfl, Nat.le_refl _, by unfold maxLen; omega, fun i hi => ⟨_, _, rfl, ?_⟩⟩
  have := (BlkOf.new w (flatQ lcode7) t).cell i
  rw [Nat.zero_add, this, List.getElem?_eq_getElem hi]
theorem lit_ints (w : World) (l : List Int) (n : Nat) (h : l.length = n) (hn : n ≤ maxLen) (t : TypeId) : Ints (w.alloc (Obj.cells (l.map (Value.int .i64)).toArray t)) (.slice (some ⟨w.heap.size, 0, none⟩) n n) l := by
  subst h
  exact (BlkOf.new w (l.map (Value.int .i64)) t).sl (by simp) hn
set_option maxRecDepth 100000 in
set_option maxHeartbeats 4000000 in
theorem lives7_any (w : World) : Calls Try.prog 10 #[] w fun e w' => e = .returned (.bool true) ∧ Ext w w' := by
  go_enter Try.func10, Try.ntmps10
  go_wp2_with (go_at_call 11; refine (plain_ok7 _ _ okP97t).mono ?_; rintro e w1 ⟨v, rfl, hx, g, hf⟩; obtain ⟨b, rfl⟩ := hf.ptr)
  obtain ⟨fs, hfl⟩ := hf.fld
  have hxa := Ext.alloc w1 (Obj.cells (flatQ lcode7).toArray 50)
  have hxb := Ext.alloc (w1.alloc (Obj.cells (flatQ lcode7).toArray 50)) (Obj.cells #[.int .i64 1, .slice (some ⟨w1.heap.size, 0, none⟩) 2 2] 24)
  have C := table_any (sz := 1) (n := 2) (cd := lcode7) (hfl.ext (hxa.trans hxb)) ((lit_inqs7 w1 50).ext hxb)
  rw [tab7] at C
  have HX := Lib.hid (hx.trans (hxa.trans hxb))
  clear hf hfl hx hxa hxb
  refine C.mono ?_
  rintro e w2 ⟨v, rfl, hv, hx2⟩
  obtain ⟨R, hR⟩ := hv
  have HX2 := Lib.hid (HX.out.trans hx2)
  have hl2 : ∀ w', (Builtin.len_ #[63] 3 #[v]).run Try.prog w' = .ok (.int .i64 2) w' := fun w' => hR.run_len (P := Try.prog) slRowsT 3 w'
  have hi0 : ∀ w', (Instr.indexAt 63 v (.int .i64 0)).run Try.prog w' = .ok (.pointer (some (elt v 0 1))) w' := fun w' => hR.run_index (P := Try.prog) slRowsT 0 (by decide) w'
  have hi1 : ∀ w', (Instr.indexAt 63 v (.int .i64 1)).run Try.prog w' = .ok (.pointer (some (elt v 1 1))) w' := fun w' => hR.run_index (P := Try.prog) slRowsT 1 (by decide) w'
  have r0 := hR.row 0 (by decide)
  have r1 := hR.row 1 (by decide)
  have c0 := hR.cell 0 (by decide)
  have c1 := hR.cell 1 (by decide)
  have HR0 : Hid (Ints w2 (R 0) T7a) := Lib.hid r0
  have HR1 : Hid (Ints w2 (R 1) T7b) := Lib.hid r1
  have HC1 := Lib.hid c1
  clear C r0 r1 hx2 HX hR c1
  go_wp2_with fail
  have hxc := Ext.alloc w2 (Obj.cells (T7a.map (Value.int .i64)).toArray 3)
  have C0 := sints_any (R 0) (.slice (some ⟨w2.heap.size, 0, none⟩) 22 22) T7a T7a _ (HR0.out.ext hxc) (lit_ints w2 T7a 22 rfl (by decide) 3)
  rw [show decide (T7a = T7a) = true by simp] at C0
  refine C0.mono ?_
  rintro e w3 hrd
  obtain ⟨rfl, hx3⟩ := hrd.ext
  have HX3 := Lib.hid (hxc.trans hx3)
  have c1 := HX3.out.cell HC1.out
  clear hrd hx3 hxc C0 c0
  go_wp2_with fail
  have hxd := Ext.alloc w3 (Obj.cells (T7b.map (Value.int .i64)).toArray 3)
  have C1 := sints_any (R 1) (.slice (some ⟨w3.heap.size, 0, none⟩) 22 22) T7b T7b _ (HR1.out.ext (HX3.out.trans hxd)) (lit_ints w3 T7b 22 rfl (by decide) 3)
  rw [show decide (T7b = T7b) = true by simp] at C1
  refine C1.mono ?_
  rintro e w4 hrd
  obtain ⟨rfl, hx4⟩ := hrd.ext
  have HX4 := Lib.hid ((HX2.out.trans HX3.out).trans (hxd.trans hx4))
  clear hrd hx4 hxd C1 c1
  go_wp2_with fail
  go_ret
  exact ⟨rfl, HX4.out⟩
end Go.Proofs.Ytaodmkngakikjaa
