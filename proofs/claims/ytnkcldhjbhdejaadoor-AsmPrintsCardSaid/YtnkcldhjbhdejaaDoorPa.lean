/- Code as text, the program's side: whether each instruction can be written: contract. -/
import Derived.Test.YtnkcldhjbhdejaaDoorAz
namespace Go.Att
open Go.RowKit
theorem nthI_mem {l : List In4} {i : Nat} (h : i < l.length) : nthI l i ∈ l := by rw [nthI_eq h]; exact List.getElem_mem h
end Go.Att
namespace Go.Proofs.YtnkcldhjbhdejaaDoor
open Go.RowKit Go.Att Go.Shelf
theorem badI_any (x : In4) (w : World) (hw : Wid x) (hF : Forms w) (hT : Tab10 w) :
    Calls Tryd.prog 9 #[.agg #[.int .i64 x.op, .int .i64 x.a, .int .i64 x.b, .int .i64 x.c]] w fun e w' => e = .returned (.bool (!rightA x)) ∧ Ext w w' := by
  have HX := Lib.hid (Ext.alloc w (Obj.cells #[.int .i64 x.op, .int .i64 x.a, .int .i64 x.b, .int .i64 x.c] 37))
  have HF := Lib.hid hF; have HT := Lib.hid hT
  have C := Lib.hid (fun W h1 h2 => right_any x W hw h1 h2)
  clear hF hT hw
  obtain ⟨r, hr⟩ : ∃ r, rightA x = r := ⟨_, rfl⟩
  rw [hr] at C ⊢
  clear hr
  go_enter Tryd.func9, Tryd.ntmps9
  go_wp2_with (go_at_call 10; refine (C.out _ (HF.out.ext HX.out) (Tab10.ext HT.out HX.out)).mono ?_; rintro e w1 ⟨rfl, hx1⟩)
  go_ret
  exact ⟨rfl, HX.out.trans hx1⟩
set_option maxRecDepth 100000 in
set_option maxHeartbeats 1000000 in
theorem badIndex_any (v : Value) (l : List In4) (w : World) (hv : Inqs w v l) (hw : ∀ i, i < l.length → Wid (nthI l i)) (hF : Forms w) (hT : Tab10 w) :
    Calls Tryd.prog 25 #[v, .func (Fn.func 9) #[] #[]] w fun e w' => ∃ r : Int, decide (0 ≤ r) = !(l.all rightA) ∧ e = .returned (.int .i64 r) ∧ Ext w w' := by
  have hl := hv.run_len (P := Tryd.prog) slIns
  have hlen := hv.len
  have HV := Lib.hid hv; have HW := Lib.hid hw; have HF := Lib.hid hF; have HT := Lib.hid hT
  clear hv hw hF hT
  obtain ⟨q, hq⟩ : ∃ q, (!(l.all rightA)) = q := ⟨_, rfl⟩
  rw [hq]
  have HQ := Lib.hid hq
  clear hq
  go_enter Tryd.func25, Tryd.ntmps25
  go_wp2
  go_loopw [5, 8] (fun _ x8 wr => ∃ i : Nat, i ≤ l.length ∧ x8 = .int .i64 i ∧ Hid (∀ j, j < i → rightA (nthI l j) = true) ∧ Hid (Ext w wr)) (fun _ x8 _ => l.length - (intOf x8).toNat)
  case atStart => exact ⟨0, Nat.zero_le _, rfl, Lib.hid (fun j hj => by omega), Lib.hid (Ext.refl _)⟩
  case round =>
    obtain ⟨i, hi, rfl, H, HX⟩ := hrel
    by_cases hlt : i < l.length
    · have hcr := HV.out.ext HX.out
      have hix := hcr.run_index (P := Tryd.prog) slIns i hlt
      have c0 := hcr.c0 i hlt
      have c1 := hcr.c1 i hlt
      have c2 := hcr.c2 i hlt
      have c3 := hcr.c3 i hlt
      have C := Lib.hid (fun W h1 h2 => badI_any (nthI l i) W (HW.out i hlt) h1 h2)
      have HXE : Hid (nthI l i ∈ l) := Lib.hid (nthI_mem hlt)
      have HN : Hid (rightA (nthI l i) = true → ∀ j, j < i + 1 → rightA (nthI l j) = true) := Lib.hid fun h j hj => by
        by_cases e : j = i
        · subst e; exact h
        · exact H.out j (by omega)
      obtain ⟨x, hx⟩ : ∃ x, nthI l i = x := ⟨_, rfl⟩
      rw [hx] at c0 c1 c2 c3 C HXE HN
      obtain ⟨b, hb⟩ : ∃ b, rightA x = b := ⟨_, rfl⟩
      rw [hb] at C HN
      have HB := Lib.hid hb
      clear hcr hx hb
      cases b with
      | true =>
        have HNT := Lib.hid (HN.out rfl)
        clear HN
        go_wp2_with (go_at_call 9; refine (C.out _ (HF.out.ext HX.out) (Tab10.ext HT.out HX.out)).mono ?_; rintro e w1 ⟨rfl, hx1⟩; have HX1 := Lib.hid (HX.out.trans hx1); clear hx1)
        go_roundw
        case rel => exact ⟨i + 1, by omega, by go_num, HNT, HX1⟩
        case measure => simp [intOf]; omega
      | false =>
        have HA := Lib.hid (show q = true from by rw [← HQ.out, Bool.not_eq_true', List.all_eq_false]; exact ⟨x, HXE.out, by rw [HB.out]; simp⟩)
        clear HN
        go_wp2_with (go_at_call 9; refine (C.out _ (HF.out.ext HX.out) (Tab10.ext HT.out HX.out)).mono ?_; rintro e w1 ⟨rfl, hx1⟩; have HX1 := Lib.hid (HX.out.trans hx1); clear hx1)
        go_ret
        exact ⟨i, by rw [HA.out]; simp, rfl, HX1.out⟩
    · obtain rfl : i = l.length := by omega
      have HA := Lib.hid (show q = false from by rw [← HQ.out, all_right H.out]; rfl)
      go_wp2_with fail
      go_ret
      exact ⟨-1, by rw [HA.out]; rfl, rfl, HX.out⟩
theorem badAny_any (v : Value) (l : List In4) (w : World) (hv : Inqs w v l) (hw : ∀ i, i < l.length → Wid (nthI l i)) (hF : Forms w) (hT : Tab10 w) :
    Calls Tryd.prog 8 #[v, .func (Fn.func 9) #[] #[]] w fun e w' => e = .returned (.bool (!(l.all rightA))) ∧ Ext w w' := by
  have C := Lib.hid (badIndex_any v l w hv hw hF hT)
  clear hv hw hF hT
  generalize (!(l.all rightA)) = q at *
  go_enter Tryd.func8, Tryd.ntmps8
  go_wp2_with (go_at_call 25; refine C.out.mono ?_; rintro e w' ⟨r, hr, rfl, hx⟩; have HR := Lib.hid hr; clear hr)
  go_ret
  exact ⟨by rw [← HR.out]; trivial, hx⟩
theorem label_any (n : Int) (h : InR n) (hf : fitsA n = true) (w : World) (hT : Tab10 w) : Calls Tryd.prog 11 #[.int .i64 n] w fun e w' => e = .returned (.string ⟨(108 :: Lib.itoa n).toArray⟩) ∧ Ext w w' := by
  have C := Lib.hid (pitoa_any n h.1 h.2 w hT)
  have hl := itoa_le n hf
  clear h hT hf
  obtain ⟨E, hE⟩ : ∃ E, Lib.itoa n = E := ⟨_, rfl⟩
  rw [hE] at C hl ⊢
  clear hE
  have HS := Lib.hid (show ByteArray.mk #[108] ++ ByteArray.mk E.toArray = ⟨(108 :: E).toArray⟩ from str_app [108] E)
  go_enter Tryd.func11, Tryd.ntmps11
  go_wp2_with (go_at_call 12; refine C.out.mono ?_; rintro e w' ⟨rfl, hx⟩)
  go_ret
  exact ⟨by rw [← HS.out]; trivial, hx⟩
end Go.Proofs.YtnkcldhjbhdejaaDoor
