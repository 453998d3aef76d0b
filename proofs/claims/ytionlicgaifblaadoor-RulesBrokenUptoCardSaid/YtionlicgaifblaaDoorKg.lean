/- RulesBroken: the document's side: a rule: the sum of all s; the number of the next one. -/
import Derived.Test.YtionlicgaifblaaDoorKe
namespace Go.Proofs.YtionlicgaifblaaDoor
open Go.RowKit Go.Att
section
variable {w : World} {q : Nat} {p sz out : Int} {cd : List In4} {lv rv nv : Value} {r n : List Int}
set_option maxRecDepth 100000 in
set_option maxHeartbeats 4000000 in
theorem wrule_0 (h : WAt w q p sz out cd lv rv nv r n) (hs : cd.length ≤ 1048576) (hl : 1 ≤ cd.length) (x : Int) (hx : x = cd.length + 0) : Calls Tryd.prog 31 #[.pointer (some ⟨q, 0, none⟩), .int .i64 x] w fun e w' => e = .returned (.int .i64 (tailD p sz out cd r n 0)) ∧ Ext w w' := by
  have hll := h.code.run_len (P := Tryd.prog) slIns
  have c0 := h.c0
  have c2 := h.c2
  have c4 := h.c4
  have hp := h.two
  have hp2 := h.hi
  have HLR := Lib.hid h.lr
  have HH := Lib.hid h
  clear h
  obtain rfl : x = cd.length := by omega
  clear hx
  have HT := Lib.hid (show tailD p sz out cd r n 0 = fof p (onesD p r cd.length) from rfl)
  generalize tailD p sz out cd r n 0 = res at *
  have hy : (cd.length : Int) - (cd.length : Int) = 0 := by omega
  go_enter Tryd.func31, Tryd.ntmps31
  go_wp2_with fail
  go_loop [8, 9] (fun x8 x9 => ∃ k : Nat, k ≤ cd.length ∧ x8 = .int .i64 (onesD p r k) ∧ x9 = .int .i64 k) (fun _ x9 => cd.length - (intOf x9).toNat)
  case atStart => exact ⟨0, Nat.zero_le _, rfl, rfl⟩
  case round =>
    obtain ⟨k, hk, rfl, rfl⟩ := hrel
    by_cases hkl : k < cd.length
    · have HS := Lib.hid (show onesD p r (k + 1) = fadd p (onesD p r k) (nth r (20 + k)) from rfl)
      generalize onesD p r k = s at *
      have hix : ∀ w', (Instr.indexAt 64 rv (.int .i64 (20 + (k : Int)))).run Tryd.prog w' = .ok (.pointer (some (elt rv (20 + k) 1))) w' := by
        intro w'
        have := HH.out.row.run_index (P := Tryd.prog) slInts (20 + k) (by have := HLR.out; omega) w'
        simpa using this
      have d := HH.out.row.cell (20 + k) (by have := HLR.out; omega)
      go_wp2_with (go_at_call 65; refine (wadd_any HH.out _ _).mono ?_; rintro e w' ⟨rfl, rfl⟩)
      go_round
      case rel => exact ⟨k + 1, by omega, by rw [HS.out], by go_num⟩
      case measure => simp [intOf]; omega
    · obtain rfl : k = cd.length := by omega
      go_wp2_with (go_at_call 36; refine (rof_any _ _ _ hp hp2).mono ?_; rintro e w' ⟨rfl, rfl⟩)
      go_ret
      exact ⟨ret_int HT.out.symm, Ext.refl _⟩
set_option maxRecDepth 100000 in
set_option maxHeartbeats 4000000 in
theorem wrule_12 (h : WAt w q p sz out cd lv rv nv r n) (hs : cd.length ≤ 1048576) (hl : 1 ≤ cd.length) (x : Int) (hx : x = cd.length + 12) : Calls Tryd.prog 31 #[.pointer (some ⟨q, 0, none⟩), .int .i64 x] w fun e w' => e = .returned (.int .i64 (tailD p sz out cd r n 12)) ∧ Ext w w' := by
  have hll := h.code.run_len (P := Tryd.prog) slIns
  have c2 := h.c2
  have c5 := h.c5
  have C := wsum_any h hs 5 5 (by simp)
  have HLN := Lib.hid h.ln
  have HH := Lib.hid h
  have HT := Lib.hid (show tailD p sz out cd r n 12 = fsub p (numK p n cd.length) (sumD p r cd (ofD p r 5) cd.length) from rfl)
  generalize sumD p r cd (ofD p r 5) cd.length = S5 at *
  generalize tailD p sz out cd r n 12 = res at *
  clear h
  have hy : x - (cd.length : Int) = 12 := by omega
  have hn : ¬ x < (cd.length : Int) := by omega
  have hb1 : x ≤ 1048700 := by omega
  have hb0 : 0 ≤ x := by omega
  clear hx
  go_enter Tryd.func31, Tryd.ntmps31
  go_wp2_with fail
  go_loop [12, 13] (fun x12 x13 => ∃ k : Nat, k ≤ cd.length ∧ x12 = .int .i64 (numK p n k) ∧ x13 = .int .i64 k) (fun _ x13 => cd.length - (intOf x13).toNat)
  case atStart => exact ⟨0, Nat.zero_le _, rfl, rfl⟩
  case round =>
    obtain ⟨k, hk, rfl, rfl⟩ := hrel
    by_cases hkl : k < cd.length
    · have HS := Lib.hid (show numK p n (k + 1) = fadd p (numK p n k) (fmul p k (nth n (20 + k))) from rfl)
      generalize numK p n k = s at *
      have hix : ∀ w', (Instr.indexAt 64 nv (.int .i64 (20 + (k : Int)))).run Tryd.prog w' = .ok (.pointer (some (elt nv (20 + k) 1))) w' := by
        intro w'
        have := HH.out.next.run_index (P := Tryd.prog) slInts (20 + k) (by have := HLN.out; omega) w'
        simpa using this
      have d := HH.out.next.cell (20 + k) (by have := HLN.out; omega)
      clear C
      go_wp2_with (first | (go_at_call 63; refine (wmul_any HH.out _ _).mono ?_; rintro e w' ⟨rfl, rfl⟩) | (go_at_call 65; refine (wadd_any HH.out _ _).mono ?_; rintro e w' ⟨rfl, rfl⟩))
      go_round
      case rel => exact ⟨k + 1, by omega, by rw [HS.out], by go_num⟩
      case measure => simp [intOf]; omega
    · obtain rfl : k = cd.length := by omega
      go_wp2_with fail
      refine C.mono ?_
      rintro e w1 ⟨rfl, hx1⟩
      have H1 := Lib.hid (HH.out.ext hx1)
      go_wp2_with (go_at_call 64; refine (wsub_any H1.out _ _).mono ?_; rintro e w' ⟨rfl, rfl⟩)
      go_ret
      exact ⟨ret_int HT.out.symm, hx1⟩
end
end Go.Proofs.YtionlicgaifblaaDoor
