/- A layer is told, round by round: plain; a point of a line; how many variables a layer has beneath it: contracts. -/
import Derived.Test.YtaajjaadlpgbiaaGreatDoorGb
import Derived.Test.YtaajjaadlpgbiaaGreatDoorZx2
import Derived.Test.YtaajjaadlpgbiaaGreatDoorP3
import Derived.Test.YtaajjaadlpgbiaaGreatDoorZx10
namespace Go.Att
open Go.RowKit
/-- The three numbers of a round. -/
def told3 (f : List Int → Int) (xs : List Int) : List Int := [f (xs ++ [0]), f (xs ++ [1]), f (xs ++ [2])]
/-- What was drawn in so many rounds, and the chain behind them. -/
def dwn (p : Int) (k : Nat) (f : List Int → Int) (D : List Int) : Nat → List Int × List Int
  | 0 => ([], D)
  | m + 1 => ((dwn p k f D m).1 ++ [nth (stepP p k 4 (stepP p k 3 (dwn p k f D m).2 (told3 f (dwn p k f D m).1)) []) 0], stepP p k 4 (stepP p k 3 (dwn p k f D m).2 (told3 f (dwn p k f D m).1)) [])
def dwnT (p : Int) (k : Nat) (f : List Int → Int) (D : List Int) (m : Nat) : List (List Int) := (List.range m).map fun j => told3 f (dwn p k f D j).1
theorem dwn_len (p : Int) (k : Nat) (f : List Int → Int) (D : List Int) : ∀ m, (dwn p k f D m).1.length = m
  | 0 => rfl
  | m + 1 => by simp [dwn, dwn_len p k f D m]
theorem dwn_dig (p : Int) (k : Nat) (f : List Int → Int) {D : List Int} (h : D.length = 4) : ∀ m, (dwn p k f D m).2.length = 4
  | 0 => h
  | _m + 1 => stepP_length _ _ _ _ _
theorem dwnT_snoc (p : Int) (k : Nat) (f : List Int → Int) (D : List Int) (m : Nat) : dwnT p k f D (m + 1) = dwnT p k f D m ++ [told3 f (dwn p k f D m).1] := by simp [dwnT, List.range_succ]
theorem dwnT_len (p : Int) (k : Nat) (f : List Int → Int) (D : List Int) (m : Nat) : (dwnT p k f D m).length = m := by simp [dwnT]
theorem told3_take (f : List Int → Int) (xs : List Int) (t : Nat) (h : t < 3) : (told3 f xs).take (t + 1) = (told3 f xs).take t ++ [f (xs ++ [(t : Int)])] := by
  have : t = 0 ∨ t = 1 ∨ t = 2 := by omega
  rcases this with rfl | rfl | rfl <;> rfl
/-- The numbers of a line. -/
def lineN (p : Int) (t x y : List Int) (m : Nat) : List Int := (List.range m).map fun (i : Nat) => ext t (onL p x y i) % p
theorem lineN_snoc (p : Int) (t x y : List Int) (m : Nat) : lineN p t x y (m + 1) = lineN p t x y m ++ [ext t (onL p x y m) % p] := by simp [lineN, List.range_succ]
theorem lineN_len (p : Int) (t x y : List Int) (m : Nat) : (lineN p t x y m).length = m := by simp [lineN]
theorem onL_snocB (p : Int) (x y : List Int) (t : Int) {i : Nat} (h : i < x.length) : (onL p x y t).take (i + 1) = (onL p x y t).take i ++ [fadd p (nth x i) (fmul p t (fsub p (nth y i) (nth x i)))] := by
  rw [List.take_succ_eq_append_getElem (by rw [onL_length]; exact h)]; simp [onL]
end Go.Att
namespace Go.Proofs.YtaajjaadlpgbiaaGreatDoor
open Go.RowKit Go.Att
set_option maxRecDepth 100000 in
set_option maxHeartbeats 4000000 in
theorem between_any {w : World} {bf : Nat} {p g : Int} {fs : List Int} (hf : Fld w (.pointer (some ⟨bf, 0, none⟩)) p g fs) (vx vy : Value) (x y : List Int) (t : Int) (hx : Ints w vx x) (hy : Ints w vy y) (hl : x.length ≤ y.length) (hs : x.length ≤ 1000000) :
    Calls Tryz.prog 104 #[.pointer (some ⟨bf, 0, none⟩), vx, vy, .int .i64 t] w (Gives w fun u w' => w'.ownsRow w.heap.size 3 1 u x.length ((onL p x y t).map (Value.int .i64))) := by
  have HF := Lib.hid hf; have HX := Lib.hid hx; have HY := Lib.hid hy
  have hlx := hx.run_len (P := Tryz.prog) slInts
  have HLL := Lib.hid hl
  clear hf hx hy hl
  go_enter Tryz.func104, Tryz.ntmps104
  go_wp2_with (refine wpList_mk0 rfl _ _ 23 rfl slInts (Ext.refl w) rfl rfl (by omega) (by omega) (by omega) ?_; intro v1 w1 HO1 HX1 _)
  have HO1' := Lib.hid HO1; have HX1' := Lib.hid HX1
  clear HO1 HX1
  go_loopw [9, 10, 16] (fun x9 _ x16 wr => ∃ i : Nat, i ≤ x.length ∧ x16 = .int .i64 i ∧ Hid (wr.ownsRow w.heap.size 3 1 x9 i (((onL p x y t).take i).map (Value.int .i64))) ∧ Hid (Ext w wr)) (fun _ _ x16 _ => x.length - (intOf x16).toNat)
  case atStart => exact ⟨0, Nat.zero_le _, rfl, HO1', HX1'⟩
  case round =>
    clear HO1' HX1'
    obtain ⟨i, hi, rfl, HO, HXW⟩ := hrel
    by_cases hin : i < x.length
    · have hix := HX.out.run_index (P := Tryz.prog) slInts i hin
      have hiy := HY.out.run_index (P := Tryz.prog) slInts i (Nat.lt_of_lt_of_le hin HLL.out)
      have hcx := (HX.out.ext HXW.out).cell i hin
      have hcy := (HY.out.ext HXW.out).cell i (Nat.lt_of_lt_of_le hin HLL.out)
      have HSN := Lib.hid (onL_snocB p x y t hin)
      have HFW := Lib.hid (HF.out.ext HXW.out)
      generalize nth x i = xi at *
      generalize nth y i = yi at *
      go_wp2_with fail
      refine wp_region_move_quiet_tail 20 _ (by kernel_rfl) rfl rfl (by kernel_rfl) ?_
      simp only [List.take_succ_cons, List.take_zero, List.drop_succ_cons, List.drop_zero]
      repeat (go_big_quiet_step (first | (go_at_call 71; exact mul_q HFW.out _ _ _) | (go_at_call 70; exact add_q HFW.out _ _ _) | (go_at_call 116; exact sub_q HFW.out _ _ _)))
      refine wpQuiet_nil ?_
      rintro _ ⟨nq, rfl⟩
      have HX5 := HXW.out.trans (Ext.drewN wr nq)
      have HO5 := own_ext HO.out (Ext.drewN wr nq)
      clear hix hiy hcx hcy HFW HO HXW
      go_wp2_with (at_builtin; refine wpList_appNw rfl _ _ 23 rfl slInts rfl HX5.size HO5 rfl _ rfl (by intro u hu; simp at hu; subst hu; rfl) rfl (by omega) (by omega) ?_; intro v7 w7 HO7 HG7 _)
      refine NoPan.normal ?_
      go_wp2_with fail
      go_roundw
      case rel => exact ⟨i + 1, by omega, by go_num, Lib.hid (by rw [HSN.out, List.map_append]; exact HO7), Lib.hid (Ext.own_grown HX5 HO5 HG7)⟩
      case measure => simp [intOf]; omega
    · obtain rfl : i = x.length := by omega
      have HO' := Lib.hid HO.out
      go_wp2_with fail
      go_ret
      have h9 := HO.out
      rw [List.take_of_length_le (by rw [onL_length]; exact Nat.le_refl _)] at h9
      exact .mk _ rfl HXW.out h9
set_option maxRecDepth 100000 in
theorem varsB_any (wd : Int) (lv : Value) (Ls : List (List Tri)) (R : Nat → Value) (i : Nat) (w : World) (hv : LysAt w lv Ls R) (hi : i < Ls.length) :
    Calls Tryz.prog 98 #[.agg #[.int .i64 wd, lv], .int .i64 ((i : Int) - 1)] w fun e w' => e = .returned (.int .i64 (beneath wd Ls i)) ∧ Ext w w' := by
  by_cases h0 : i = 0
  · subst h0
    exact vars_low wd lv Ls R _ w hv (by omega)
  · obtain ⟨j, rfl⟩ : ∃ j, i = j + 1 := ⟨i - 1, by omega⟩
    have e : ((j + 1 : Nat) : Int) - 1 = (j : Int) := by omega
    rw [e]
    have := vars_any wd lv Ls R j w hv (by omega)
    unfold beneath
    rw [if_neg (by omega), show j + 1 - 1 = j by omega]
    exact this
end Go.Proofs.YtaajjaadlpgbiaaGreatDoor
