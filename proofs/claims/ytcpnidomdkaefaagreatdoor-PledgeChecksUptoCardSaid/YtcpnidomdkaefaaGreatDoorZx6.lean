/- What the gates of a circuit are, the program's side: the walker. How much of the gates there is anywhere, the program's side: contracts. How much of the gates there is anywhere, the program's side: Wire with its faults. -/
import Derived.Test.YtcpnidomdkaefaaGreatDoorZx4
import Derived.Test.YtcpnidomdkaefaaGreatDoorZx1
import Derived.Test.YtcpnidomdkaefaaGreatDoorZx5
section
/-! What the gates of a circuit are, the program's side: the walker. -/
namespace Go.Att
open Go.RowKit
/-- The program's walker: its field, its circuit, its values. -/
structure Wlk (w : World) (b : Nat) (f : Value) (wd : Int) (lv vv : Value) : Prop where
  c0 : w.cell? ⟨b, 0, none⟩ = some f
  c1 : w.cell? ⟨b, 1, none⟩ = some (.int .i64 wd)
  c2 : w.cell? ⟨b, 2, none⟩ = some lv
  c3 : w.cell? ⟨b, 3, none⟩ = some vv
  fz : w.frozen? ⟨b, 3, none⟩ = false
theorem Wlk.ext {w w' : World} {b : Nat} {f : Value} {wd : Int} {lv vv : Value} (h : Wlk w b f wd lv vv) (hx : Ext w w') : Wlk w' b f wd lv vv :=
  ⟨hx.cell h.c0, hx.cell h.c1, hx.cell h.c2, hx.cell h.c3, by rw [World.frozen?_of_block (hx.below.block b (World.block_lt_of_cell? w ⟨b, 3, none⟩ h.c3))]; exact h.fz⟩
theorem Wlk.grown {w w' : World} {b : Nat} {f : Value} {wd : Int} {lv vv : Value} {r : Option Nat} (h : Wlk w b f wd lv vv) (hg : w.grownBy w' r) (hne : some b ≠ r) : Wlk w' b f wd lv vv :=
  ⟨hg.cell h.c0 hne, hg.cell h.c1 hne, hg.cell h.c2 hne, hg.cell h.c3 hne, by rw [World.frozen?_of_block (hg.block b (World.block_lt_of_cell? w ⟨b, 3, none⟩ h.c3) hne)]; exact h.fz⟩
/-- New values are laid in. -/
theorem Wlk.set {w : World} {b : Nat} {f : Value} {wd : Int} {lv vv : Value} (h : Wlk w b f wd lv vv) (v' : Value) : Wlk (w.setCell ⟨b, 3, none⟩ v') b f wd lv v' := by
  refine ⟨?_, ?_, ?_, World.cell?_setCell_same _ _ _ h.c3, by rw [World.frozen?_setCell]; exact h.fz⟩
  · rw [World.cell?_setCell_other _ _ _ _ (by simp)]; exact h.c0
  · rw [World.cell?_setCell_other _ _ _ _ (by simp)]; exact h.c1
  · rw [World.cell?_setCell_other _ _ _ _ (by simp)]; exact h.c2
/-- What a gate makes of two elements. -/
def fapp (p k x y : Int) : Int := if k = 1 then fmul p x y else fadd p x y
theorem gval_app (p : Int) (row : List Int) (k : Int) (a b : Nat) : gval p row (k, a, b) = fapp p k (nth row a) (nth row b) := by simp [gval, fapp]
/-- What is wrong with a circuit and so many inputs. -/
noncomputable def walkErr (wd : Int) (Ls : List (List Tri)) (n : Nat) : Int := if cirErr wd Ls = 0 then (if (n : Int) = 2 ^ wd.toNat then 0 else 2) else cirErr wd Ls
theorem walkErr_ok {wd : Int} {Ls : List (List Tri)} {n : Nat} (h : walkErr wd Ls n = 0) : cirErr wd Ls = 0 ∧ (n : Int) = 2 ^ wd.toNat := by
  unfold walkErr at h
  split at h
  · split at h
    · exact ⟨by assumption, by assumption⟩
    · omega
  · exact absurd h (by assumption)
end Go.Att
namespace Go.Proofs.YtcpnidomdkaefaaGreatDoor
open Go.RowKit Go.Att

end Go.Proofs.YtcpnidomdkaefaaGreatDoor
/-! What the gates of a circuit are, the program's side: the walker of a circuit that is right. -/
namespace Go.Att
theorem map_take_step (g : Int → Int) {l : List Int} {i : Nat} (h : i < l.length) : (((l.take (i + 1)).map g).map (Value.int .i64)) = ((l.take i).map g).map (Value.int .i64) ++ [.int .i64 (g (nth l i))] := by
  rw [List.take_succ_eq_append_getElem h, ← nth_eq h]; simp
theorem vals_zero (p : Int) (Ls : List (List Tri)) (inp : List Int) : vals p Ls inp 0 = [inp.map (fof p)] := by simp [vals, vrow]
end Go.Att
namespace Go.Proofs.YtcpnidomdkaefaaGreatDoor
open Go.RowKit Go.Att

end Go.Proofs.YtcpnidomdkaefaaGreatDoor
/-! What the gates of a circuit are, the program's side: Values. -/
namespace Go.Att
open Go.RowKit
theorem Ints.based {w : World} {v : Value} {l : List Int} (h : Ints w v l) (h0 : 0 < l.length) : ∃ b off cap, v = .slice (some ⟨b, off, none⟩) l.length cap ∧ l.length ≤ cap ∧ cap ≤ maxLen := by
  obtain ⟨ao, cap, rfl, h2, h3, h4, h5⟩ := h
  obtain ⟨b, off, rfl, _⟩ := h5 0 (by simpa using h0)
  exact ⟨b, off, cap, rfl, h3, h4⟩
theorem Ints.clip {w : World} {b off cap : Nat} {l : List Int} (h : Ints w (.slice (some ⟨b, off, none⟩) l.length cap) l) : Ints w (.slice (some ⟨b, off, none⟩) l.length l.length) l := by
  obtain ⟨ao, cap', hv, h2, h3, h4, h5⟩ := h
  simp at hv
  obtain ⟨rfl, rfl⟩ := hv
  exact ⟨_, _, rfl, h2, Nat.le_refl _, by omega, h5⟩
end Go.Att
namespace Go.Proofs.YtcpnidomdkaefaaGreatDoor
open Go.RowKit Go.Att

set_option maxRecDepth 100000 in
theorem clip_any (b off n cap : Nat) (w : World) (h : n ≤ cap) (_h2 : cap ≤ maxLen) :
    Calls Tryz.prog 118 #[.slice (some ⟨b, off, none⟩) n cap] w fun e w' => e = .returned (.slice (some ⟨b, off, none⟩) n n) ∧ w = w' := by
  go_enter Tryz.func118, Tryz.ntmps118
  go_wp2_with fail
  go_ret
  exact ⟨rfl, rfl⟩

theorem vrow_pos {p wd : Int} {Ls : List (List Tri)} {inp : List Int} (hS : cirSizes wd Ls) (hin : (inp.length : Int) = 2 ^ wd.toNat) {i : Nat} (hi : i ≤ Ls.length) : 0 < (vrow p Ls inp i).length := by
  have h1 := vrow_length (p := p) (Ls := Ls) hin i
  have h2 : 1 ≤ below wd Ls i := by
    unfold below
    split
    · have h6 : wd.toNat ≤ 6 := by have := hS.2.1; omega
      exact (pow2_small h6).1
    · exact (wideOf_le (hS.2.2.2.2 (i - 1) (by omega))).1
  omega

end Go.Proofs.YtcpnidomdkaefaaGreatDoor
end
section
/-! How much of the gates there is anywhere, the program's side: contracts. -/
namespace Go.Att
open Go.RowKit
/-- Is it a layer? -/
def layB (i : Int) (n : Nat) : Bool := decide (0 ≤ i ∧ i < (n : Int))
/-- The gates of a kind up to one, each times its place's weights. -/
def wireU (l : List Tri) (kind : Int) (z x y : List Int) : Nat → Int
  | 0 => 0
  | n + 1 => if (nthT l n).1 = kind then wireU l kind z x y n + wgt z n * (wgt x (nthT l n).2.1.toNat * wgt y (nthT l n).2.2.toNat) else wireU l kind z x y n
theorem wire_no {l : List Tri} {kind : Int} (z x y : List Int) {n : Nat} (h : (nthT l n).1 ≠ kind) : wireU l kind z x y (n + 1) = wireU l kind z x y n := by simp [wireU, h]
theorem wire_yes (p : Int) {l : List Tri} {kind : Int} (z x y : List Int) {n a b : Nat} (h : nthT l n = (kind, (a : Int), (b : Int))) :
    fadd p (wireU l kind z x y n % p) (fmul p (wgt z n % p) (fmul p (wgt x a % p) (wgt y b % p))) = wireU l kind z x y (n + 1) % p := by
  simp only [wireU, h, if_true, Int.toNat_natCast, fadd, fmul, ea_l, ea_r, em_l, em_r]
theorem wire_yes' (p : Int) {l : List Tri} {kind : Int} (z x y : List Int) {n a b : Nat} (h : nthT l n = (kind, (a : Int), (b : Int))) :
    fadd p (wireU l kind z x y n % p) (fmul p (fmul p (wgt z n % p) (wgt x a % p)) (wgt y b % p)) = wireU l kind z x y (n + 1) % p := by
  simp only [wireU, h, if_true, Int.toNat_natCast, fadd, fmul, ea_l, ea_r, em_l, em_r, Int.mul_assoc]
end Go.Att
namespace Go.Proofs.YtcpnidomdkaefaaGreatDoor
open Go.RowKit Go.Att

theorem unit_q {w : World} {f : Value} {p g : Int} {fs : List Int} (hf : Fld w f p g fs) {v : Value} {l : List Int} {i : Nat} (hv : Ints w v l) (hl : l.length ≤ 30) (hi : i ≤ 9223372036854775807) (n : Nat) :
    Calls Tryz.prog 44 #[f, .int .i64 i, v] (w.drewN n) fun e w'' => e = .returned (.int .i64 (wgt l i % p)) ∧ ∃ m, w'' = w.drewN m := Calls.quiet_of (unit_any (hf.drewN n) v l i (hv.drewN n) hl hi)

end Go.Proofs.YtcpnidomdkaefaaGreatDoor
/-! How much of the gates there is anywhere, the document's side: contract. -/
namespace Go.Att
theorem lt_pow2 {a n : Nat} (h : (a : Int) < (2 : Int) ^ n) : a < 2 ^ n := by
  have h2 : ((2 ^ n : Nat) : Int) = (2 : Int) ^ n := by simp
  omega
end Go.Att
namespace Go.Proofs.YtcpnidomdkaefaaGreatDoor
open Go.RowKit Go.Att

end Go.Proofs.YtcpnidomdkaefaaGreatDoor
end
section
/-! How much of the gates there is anywhere, the program's side: Wire with its faults. -/
namespace Go.Att
open Go.RowKit
def kindB (k : Int) : Bool := decide (k = 0 ∨ k = 1)
/-- Do the points fit the layer? -/
def fitsB (wd : Int) (Ls : List (List Tri)) (i : Nat) (z x y : List Int) : Bool := decide ((z.length : Int) = wideOf (nthY Ls i).length ∧ (x.length : Int) = beneath wd Ls i ∧ (y.length : Int) = beneath wd Ls i)
end Go.Att
namespace Go.Proofs.YtcpnidomdkaefaaGreatDoor
open Go.RowKit Go.Att

end Go.Proofs.YtcpnidomdkaefaaGreatDoor
/-! How much of the gates there is anywhere, the program's side: Wire, the points' sizes. -/
namespace Go.Att
open Go.RowKit
theorem fitsB_true {wd : Int} {Ls : List (List Tri)} {i : Nat} {z x y : List Int} (h : fitsB wd Ls i z x y = true) : (z.length : Int) = wideOf (nthY Ls i).length ∧ (x.length : Int) = beneath wd Ls i ∧ (y.length : Int) = beneath wd Ls i := of_decide_eq_true h
theorem fitsB_false {wd : Int} {Ls : List (List Tri)} {i : Nat} {z x y : List Int} (h : fitsB wd Ls i z x y = false) : ¬ ((z.length : Int) = wideOf (nthY Ls i).length ∧ (x.length : Int) = beneath wd Ls i ∧ (y.length : Int) = beneath wd Ls i) := of_decide_eq_false h
end Go.Att
namespace Go.Proofs.YtcpnidomdkaefaaGreatDoor
open Go.RowKit Go.Att

end Go.Proofs.YtcpnidomdkaefaaGreatDoor
/-! How much of the gates there is anywhere, the program's side: Wire where all fits. -/
namespace Go.Proofs.YtcpnidomdkaefaaGreatDoor
open Go.RowKit Go.Att

end Go.Proofs.YtcpnidomdkaefaaGreatDoor
end
