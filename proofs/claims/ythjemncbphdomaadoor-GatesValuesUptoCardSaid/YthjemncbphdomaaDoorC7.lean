/- What the gates of a circuit are, the program's side: the walker. -/
import Derived.Test.YthjemncbphdomaaDoorC5
import Derived.Test.YthjemncbphdomaaDoorC6
import Derived.Test.YthjemncbphdomaaDoorQt
namespace Go.Att
open Go.RowKit
/-- The program's walker: its field, its circuit, its values. -/
structure Wlk (w : World) (b : Nat) (f : Value) (wd : Int) (lv vv : Value) : Prop where
  c0 : w.cell? ⟨b, 0, none⟩ = some f
  c1 : w.cell? ⟨b, 1, none⟩ = some (.int .i64 wd)
  c2 : w.cell? ⟨b, 2, none⟩ = some lv
  c3 : w.cell? ⟨b, 3, none⟩ = some vv
  fz : w.frozen? ⟨b, 3, none⟩ = false
theorem Wlk.ext {w w' : World} {b : Nat} {f : Value} {wd : Int} {lv vv : Value} (h : Wlk w b f wd lv vv) (hx : Ext w w') : Wlk w' b f wd lv vv :=
  ⟨hx.cell h.c0, hx.cell h.c1, hx.cell h.c2, hx.cell h.c3, by rw [World.frozen?_of_block (hx.below.block b (World.block_lt_of_cell? w ⟨b, 3, none⟩ h.c3))]; exact h.fz⟩
theorem Wlk.grown {w w' : World} {b : Nat} {f : Value} {wd : Int} {lv vv : Value} {r : Option Nat} (h : Wlk w b f wd lv vv) (hg : w.grownBy w' r) (hne : some b ≠ r) : Wlk w' b f wd lv vv :=
  ⟨hg.cell h.c0 hne, hg.cell h.c1 hne, hg.cell h.c2 hne, hg.cell h.c3 hne, by rw [World.frozen?_of_block (hg.block b (World.block_lt_of_cell? w ⟨b, 3, none⟩ h.c3) hne)]; exact h.fz⟩
/-- New values are laid in. -/
theorem Wlk.set {w : World} {b : Nat} {f : Value} {wd : Int} {lv vv : Value} (h : Wlk w b f wd lv vv) (v' : Value) : Wlk (w.setCell ⟨b, 3, none⟩ v') b f wd lv v' := by
  refine ⟨?_, ?_, ?_, World.cell?_setCell_same _ _ _ h.c3, by rw [World.frozen?_setCell]; exact h.fz⟩
  · rw [World.cell?_setCell_other _ _ _ _ (by simp)]; exact h.c0
  · rw [World.cell?_setCell_other _ _ _ _ (by simp)]; exact h.c1
  · rw [World.cell?_setCell_other _ _ _ _ (by simp)]; exact h.c2
/-- What a gate makes of two elements. -/
def fapp (p k x y : Int) : Int := if k = 1 then fmul p x y else fadd p x y
theorem gval_app (p : Int) (row : List Int) (k : Int) (a b : Nat) : gval p row (k, a, b) = fapp p k (nth row a) (nth row b) := by simp [gval, fapp]
/-- What is wrong with a circuit and so many inputs. -/
noncomputable def walkErr (wd : Int) (Ls : List (List Tri)) (n : Nat) : Int := if cirErr wd Ls = 0 then (if (n : Int) = 2 ^ wd.toNat then 0 else 2) else cirErr wd Ls
theorem walkErr_ok {wd : Int} {Ls : List (List Tri)} {n : Nat} (h : walkErr wd Ls n = 0) : cirErr wd Ls = 0 ∧ (n : Int) = 2 ^ wd.toNat := by
  unfold walkErr at h
  split at h
  · split at h
    · exact ⟨by assumption, by assumption⟩
    · omega
  · exact absurd h (by assumption)
end Go.Att
namespace Go.Proofs.YthjemncbphdomaaDoor
open Go.RowKit Go.Att

set_option maxRecDepth 100000 in
set_option maxHeartbeats 1000000 in
theorem apply_any {w : World} {b : Nat} {f : Value} {p g : Int} {fs : List Int} {wd : Int} {lv vv : Value} (hf : Fld w f p g fs) (hw : Wlk w b f wd lv vv) (k x y : Int) (hk : k = 0 ∨ k = 1) :
    Calls Tryd.prog 154 #[.pointer (some ⟨b, 0, none⟩), .int .i64 k, .int .i64 x, .int .i64 y] w (Rd w (.int .i64 (fapp p k x y))) := by
  obtain ⟨bf, rfl⟩ := hf.ptr
  have C := Lib.hid hf; clear hf
  obtain ⟨c0, c1, c2, c3, fz⟩ := hw
  rcases hk with rfl | rfl
  · go_enter Tryd.func154, Tryd.ntmps154
    go_wp2_with (go_at_call 62; refine (add_any C.out _ _).mono ?_; rintro e w' ⟨rfl, m, rfl⟩)
    go_ret
    exact .more _ rfl
  · go_enter Tryd.func154, Tryd.ntmps154
    go_wp2_with (go_at_call 60; refine (mul_any C.out _ _).mono ?_; rintro e w' ⟨rfl, m, rfl⟩)
    go_ret
    exact .more _ rfl

set_option maxRecDepth 100000 in
set_option maxHeartbeats 1000000 in
theorem walker_bad (f : Value) (wd : Int) (lv vi : Value) (Ls : List (List Tri)) (R : Nat → Value) (inp : List Int) (w : World) (hv : LysAt w lv Ls R) (hi : Ints w vi inp) (hE : walkErr wd Ls inp.length ≠ 0) :
    Calls Tryd.prog 107 #[f, .agg #[.int .i64 wd, lv], vi] w fun e w' => e = .returned (.tuple #[.pointer none, errv (walkErr wd Ls inp.length)]) ∧ Ext w w' := by
  have hli := hi.run_len (P := Tryd.prog) slInts
  have HV := Lib.hid hv
  obtain ⟨ao, cap, rfl⟩ := hv.shape
  clear hv hi
  by_cases h0 : cirErr wd Ls = 0
  · obtain ⟨hS, -⟩ := cirErr_ok h0
    obtain ⟨wn, rfl⟩ := Int.eq_ofNat_of_zero_le hS.1
    have hw6 : wn ≤ 6 := by have := hS.2.1; omega
    have hp2 := pow2_small hw6
    clear hS
    have h2 : ¬ (inp.length : Int) = 2 ^ wn := by
      intro e
      unfold walkErr at hE
      rw [if_pos h0, Int.toNat_natCast, if_pos e] at hE
      exact hE rfl
    have hW : walkErr wn Ls inp.length = 2 := by unfold walkErr; rw [if_pos h0, Int.toNat_natCast, if_neg h2]
    have hb : ((inp.length : Int) != 2 ^ wn) = true := by rw [bne_iff_ne]; exact h2
    rw [hW, errv_pos (by decide)]
    have E0 := Lib.hid (show errv (cirErr wn Ls) = .nilIface by rw [h0, errv_zero])
    clear hE h0 h2 hW
    go_enter Tryd.func107, Tryd.ntmps107
    have c0 := cell_new w #[.int .i64 wn, .slice ao Ls.length cap] 80 0
    have c1 := cell_new w #[.int .i64 wn, .slice ao Ls.length cap] 80 1
    go_wp2_with (go_at_call 109; refine (checked_any _ _ Ls R _ (HV.out.ext (Ext.alloc _ _))).mono ?_; rw [E0.out]; rintro e w2 ⟨rfl, hx2⟩; replace c0 : w2.cell? ⟨w.heap.size, 0, none⟩ = some (.int .i64 wn) := hx2.cell c0; replace c1 : w2.cell? ⟨w.heap.size, 1, none⟩ = some (.slice ao Ls.length cap) := hx2.cell c1; replace hx2 := (Ext.alloc _ _).trans hx2)
    go_ret2
    exact ⟨rfl, hx2⟩
  · have hW : walkErr wd Ls inp.length = cirErr wd Ls := by unfold walkErr; rw [if_neg h0]
    rw [hW, errv_pos h0]
    have E0 := Lib.hid (errv_pos h0)
    clear hE h0 hW
    go_enter Tryd.func107, Tryd.ntmps107
    go_wp2_with (go_at_call 109; refine (checked_any _ _ Ls R _ (HV.out.ext (Ext.alloc _ _))).mono ?_; rw [E0.out]; rintro e w2 ⟨rfl, hx2⟩)
    go_ret2
    exact ⟨rfl, (Ext.alloc _ _).trans hx2⟩
end Go.Proofs.YthjemncbphdomaaDoor
