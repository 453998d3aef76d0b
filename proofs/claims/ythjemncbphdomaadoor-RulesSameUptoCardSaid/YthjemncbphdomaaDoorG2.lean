/- Are two products of pairs the same? Contracts of the program's side. -/
import Derived.Test.YthjemncbphdomaaDoorG1
namespace Go.Att
theorem fprod_step' {p y x : Int} {l : List (Int × Int)} {i : Nat} (h : i < l.length) :
    fmul p (fprod p y x (l.take i)) (fsub p x (fadd p (nthP l i).1 (fmul p y (nthP l i).2))) = fprod p y x (l.take (i + 1)) := by
  rw [fprod_step h]
  have : fadd p (nthP l i).1 (fmul p y (nthP l i).2) = numb p y (nthP l i) := by
    unfold fadd fmul numb; rw [Int.add_emod_emod, Int.mul_comm]
  rw [this]
end Go.Att
namespace Go.Proofs.YthjemncbphdomaaDoor
open Go.RowKit Go.Att

set_option maxHeartbeats 2000000 in
theorem same1_any {w : World} {f : Value} {p g : Int} {fs : List Int} (hf : Fld w f p g fs) (x y : Int) (v : Value) (l : List (Int × Int)) (hv : Prs w v l) (b1 b2 b3 : Nat)
    (h1 : w.cell? ⟨b1, 0, none⟩ = some f) (h2 : w.cell? ⟨b2, 0, none⟩ = some (.int .i64 x)) (h3 : w.cell? ⟨b3, 0, none⟩ = some (.int .i64 y)) :
    Calls Tryd.prog 59 #[v, .pointer (some ⟨b1, 0, none⟩), .pointer (some ⟨b2, 0, none⟩), .pointer (some ⟨b3, 0, none⟩)] w fun e w' => e = .returned (.int .i64 (fprod p y x l)) ∧ Ext w w' := by
  have hl := hv.run_len (P := Tryd.prog) slCells
  have hlen := hv.len
  have hp := hf.two
  have HV := Lib.hid hv; clear hv
  have HF := Lib.hid hf; clear hf
  have H1 := Lib.hid h1; have H2 := Lib.hid h2; have H3 := Lib.hid h3; clear h1 h2 h3
  go_enter Tryd.func59, Tryd.ntmps59
  go_wp2
  go_loopw [6, 11] (fun x6 x11 wr => ∃ i : Nat, x6 = .int .i64 (fprod p y x (l.take i)) ∧ x11 = .int .i64 i ∧ i ≤ l.length ∧ Ext w wr) (fun _ x11 _ => l.length - (intOf x11).toNat)
  case atStart => exact ⟨0, by rw [List.take_zero, fprod_nil hp], rfl, Nat.zero_le _, Ext.refl _⟩
  case round =>
    obtain ⟨i, rfl, rfl, hi1, hx⟩ := hrel
    by_cases hlt : i < l.length
    · have hix := HV.out.run_index (P := Tryd.prog) slCells i hlt
      have hc1 := (HV.out.ext hx).fst i hlt
      have hc2 := (HV.out.ext hx).snd i hlt
      have HE := Lib.hid (fprod_step' (p := p) (y := y) (x := x) hlt)
      go_wp2_with fail
      generalize hW : World.alloc wr _ = W1
      have hx1 : Ext w W1 := hW ▸ hx.trans (Ext.alloc _ _)
      have c0 : W1.cell? ⟨wr.heap.size, 0, none⟩ = some (.int .i64 (nthP l i).1) := by rw [← hW]; simp
      have c1 : W1.cell? ⟨wr.heap.size, 1, none⟩ = some (.int .i64 (nthP l i).2) := by rw [← hW]; simp
      have d1 := hx1.cell H1.out
      have d2 := hx1.cell H2.out
      have d3 := hx1.cell H3.out
      clear hW hc1 hc2 hix
      have HF1 := Lib.hid (HF.out.ext hx1)
      go_quiet ((first | (go_at_call 60; exact mul_q HF1.out _ _ _) | (go_at_call 62; exact add_q HF1.out _ _ _) | (go_at_call 61; exact sub_q HF1.out _ _ _)))
      go_wp2
      go_roundw
      case rel => exact ⟨i + 1, by rw [HE.out], by go_num, by omega, hx1.trans (Ext.drewN _ _)⟩
      case measure => simp [intOf]; omega
    · obtain rfl : i = l.length := by omega
      go_wp2_with fail
      go_ret
      exact ⟨ret_int (by rw [List.take_length]), hx⟩

set_option maxHeartbeats 2000000 in
theorem same_any {w : World} {f : Value} {p g : Int} {fs : List Int} (hf : Fld w f p g fs) (x y : Int) (va vb : Value) (a b : List (Int × Int)) (ha : Prs w va a) (hb : Prs w vb b) :
    Calls Tryd.prog 16 #[f, va, vb, .int .i64 x, .int .i64 y] w fun e w' => e = .returned (.bool (fprod p y x a == fprod p y x b)) ∧ Ext w w' := by
  obtain ⟨bf, hbf⟩ := hf.ptr
  subst hbf
  have HF := Lib.hid hf; have HA := Lib.hid ha; have HB := Lib.hid hb; clear hf ha hb
  go_enter Tryd.func16, Tryd.ntmps16
  go_wp2_with fail
  generalize hW : World.alloc (World.alloc (World.alloc w _) _) _ = W1
  have hx1 : Ext w W1 := hW ▸ ((Ext.alloc _ _).trans (Ext.alloc _ _)).trans (Ext.alloc _ _)
  have c0 : W1.cell? ⟨w.heap.size, 0, none⟩ = some (.pointer (some ⟨bf, 0, none⟩)) := by rw [← hW]; exact ((Ext.alloc (World.alloc w _) _).trans (Ext.alloc _ _)).cell (by simp)
  have c1 : W1.cell? ⟨w.heap.size + 1, 0, none⟩ = some (.int .i64 x) := by rw [← hW]; exact (Ext.alloc (World.alloc (World.alloc w _) _) _).cell (by rw [World.cell?_alloc_at _ _ _ _ (by simp)]; rfl)
  have c2 : W1.cell? ⟨w.heap.size + 1 + 1, 0, none⟩ = some (.int .i64 y) := by rw [← hW, World.cell?_alloc_at _ _ _ _ (by simp)]; rfl
  clear hW
  have C0 := Lib.hid c0; have C1 := Lib.hid c1; have C2 := Lib.hid c2; clear c0 c1 c2
  refine (same1_any (HF.out.ext hx1) x y va a (HA.out.ext hx1) _ _ _ C0.out C1.out C2.out).mono ?_
  rintro e w2 ⟨rfl, hx2⟩
  go_wp2_with fail
  have hx3 := hx1.trans hx2
  refine (same1_any (HF.out.ext hx3) x y vb b (HB.out.ext hx3) _ _ _ (hx2.cell C0.out) (hx2.cell C1.out) (hx2.cell C2.out)).mono ?_
  rintro e w4 ⟨rfl, hx4⟩
  go_wp2_with fail
  go_ret
  exact ⟨rfl, hx3.trans hx4⟩
end Go.Proofs.YthjemncbphdomaaDoor
