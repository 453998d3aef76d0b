/- RulesBroken: the document's side: the first rule that does not hold: rows of another shape. RulesBroken: the program's side: the width of rows; whether all rows have it. A voucher's bytes are written: contracts. attestsame.Copied: rows of the callee's own that read as the given ones. -/
import Derived.Test.YtnmjaddhbecopaaGreatDoorKh
import Derived.Test.YtnmjaddhbecopaaGreatDoorZx7
import Derived.Test.YtnmjaddhbecopaaGreatDoorZx8
import Derived.Test.YtnmjaddhbecopaaGreatDoorKr
import Derived.Test.YtnmjaddhbecopaaGreatDoorZx13
import Derived.Test.YtnmjaddhbecopaaGreatDoorVc
import Derived.Test.YtnmjaddhbecopaaGreatDoorQt
import Derived.Test.YtnmjaddhbecopaaGreatDoorProg
section
namespace Go.Proofs.YtnmjaddhbecopaaGreatDoor
open Go.RowKit Go.Att
theorem slRowsK : SlT Tryz.prog 22 23 1 24 (.slice none 0 0) := .mk' Tryz.underlying22 (by kernel_rfl) (by decide)
end Go.Proofs.YtnmjaddhbecopaaGreatDoor
end
section
namespace Go.Proofs.YtnmjaddhbecopaaGreatDoor
open Go.RowKit Go.Att
theorem width_any (sz : Int) (lv : Value) (cd : List In4) (w : World) (hc : Inqs w lv cd) (hs : cd.length ≤ 1048576) : Calls Tryz.prog 72 #[.agg #[.int .i64 sz, lv]] w fun e w' => e = .returned (.int .i64 (20 + cd.length)) ∧ Ext w w' := by
  have hll := hc.run_len (P := Tryz.prog) slIns
  clear hc
  go_enter Tryz.func72, Tryz.ntmps72
  go_wp2_with fail
  go_ret
  exact ⟨rfl, Ext.alloc _ _⟩
theorem wrong_any (sz : Int) (lv v : Value) (l : List Int) (cd : List In4) (w : World) (q : Nat) (h0 : w.cell? ⟨q, 0, none⟩ = some (.int .i64 sz)) (h1 : w.cell? ⟨q, 1, none⟩ = some lv) (hc : Inqs w lv cd) (hv : Ints w v l) (hs : cd.length ≤ 1048576) : Calls Tryz.prog 106 #[v, .pointer (some ⟨q, 0, none⟩)] w fun e w' => e = .returned (.bool ((l.length : Int) != 20 + (cd.length : Int))) ∧ Ext w w' := by
  have hrl := hv.run_len (P := Tryz.prog) slInts
  have HC := Lib.hid hc
  clear hv hc
  go_enter Tryz.func106, Tryz.ntmps106
  go_wp2_with (go_at_call 72; refine (width_any _ _ _ _ HC.out hs).mono ?_; rintro e w1 ⟨rfl, hx1⟩)
  go_ret
  exact ⟨rfl, hx1⟩
def wrongB (cd : List In4) (L : List (List Int)) : Bool := L.any fun r => r.length != 20 + cd.length
set_option maxHeartbeats 2000000 in
theorem wrongs_any (sz : Int) (lv v : Value) (L : List (List Int)) (cd : List In4) (w : World) (q : Nat) (h0 : w.cell? ⟨q, 0, none⟩ = some (.int .i64 sz)) (h1 : w.cell? ⟨q, 1, none⟩ = some lv) (hc : Inqs w lv cd) (hv : Rws w v L) (hs : cd.length ≤ 1048576) : Calls Tryz.prog 50 #[v, .func (.func 106) #[] #[.pointer (some ⟨q, 0, none⟩)]] w fun e w' => e = .returned (.bool (wrongB cd L)) ∧ Ext w w' := by
  obtain ⟨R, hv⟩ := hv
  have hll := hv.run_len (P := Tryz.prog) slRowsK
  have hlb := hv.len
  have HV := Lib.hid hv
  have HC := Lib.hid hc
  have H0 := Lib.hid h0; have H1 := Lib.hid h1
  clear hv hc h0 h1
  have C : Calls Tryz.prog 121 #[v, .func (.func 106) #[] #[.pointer (some ⟨q, 0, none⟩)]] w fun e w' => (∃ i : Int, e = .returned (.int .i64 i) ∧ decide (0 ≤ i) = wrongB cd L ∧ (0 ≤ i ∨ i = -1)) ∧ Ext w w' := by
    go_enter Tryz.func121, Tryz.ntmps121
    go_wp2_with fail
    go_loopw [8] (fun x8 wr => ∃ i : Nat, i ≤ L.length ∧ x8 = .int .i64 i ∧ Hid (∀ k, k < i → (nthL L k).length = 20 + cd.length) ∧ Hid (Ext w wr)) (fun x8 _ => L.length - (intOf x8).toNat)
    case atStart => exact ⟨0, Nat.zero_le _, rfl, Lib.hid (fun k hk => by omega), Lib.hid (Ext.refl _)⟩
    case round =>
      obtain ⟨i, hi, rfl, H, HX⟩ := hrel
      by_cases hil : i < L.length
      · have hix := HV.out.run_index (P := Tryz.prog) slRowsK i hil
        have hc := HX.out.cell (HV.out.cell i hil)
        have C2 := wrong_any sz lv (R i) (nthL L i) cd wr q (HX.out.cell H0.out) (HX.out.cell H1.out) (HC.out.ext HX.out) ((HV.out.row i hil).ext HX.out) hs
        by_cases h20 : (nthL L i).length = 20 + cd.length
        · have HN := Lib.hid h20
          rw [show (((nthL L i).length : Int) != 20 + (cd.length : Int)) = false by rw [bne_eq_false_iff_eq]; omega] at C2
          clear h20
          go_wp2_with fail
          refine C2.mono ?_
          rintro e w1 ⟨rfl, hx1⟩
          clear C2
          have HX1 := Lib.hid (HX.out.trans hx1)
          clear hx1
          go_wp2_with fail
          go_roundw
          case rel => exact ⟨i + 1, by omega, by go_num, Lib.hid (fun k hk => by
            rcases Nat.lt_or_eq_of_le (show k ≤ i by omega) with h | rfl
            · exact H.out k h
            · exact HN.out), HX1⟩
          case measure => simp [intOf]; omega
        · have HS := Lib.hid (show wrongB cd L = true by
            unfold wrongB; rw [List.any_eq_true]
            refine ⟨L[i], List.getElem_mem hil, ?_⟩
            simp only [nthL, List.getD_eq_getElem?_getD, List.getElem?_eq_getElem hil, Option.getD_some] at h20
            simpa using h20)
          rw [show (((nthL L i).length : Int) != 20 + (cd.length : Int)) = true by rw [bne_iff_ne]; omega] at C2
          clear h20
          go_wp2_with fail
          refine C2.mono ?_
          rintro e w1 ⟨rfl, hx1⟩
          clear C2
          have HX1 := Lib.hid (HX.out.trans hx1)
          clear hx1
          go_wp2_with fail
          refine bodyPost_ret (v := .int .i64 i) (by simp [results, Tryz.results121, go_sem]) rfl ⟨⟨i, rfl, by rw [HS.out]; simp, .inl (by omega)⟩, HX1.out⟩
      · obtain rfl : i = L.length := by omega
        have HS := Lib.hid (show wrongB cd L = false by
          unfold wrongB; rw [List.any_eq_false]
          intro x hx
          obtain ⟨i, hi, rfl⟩ := List.mem_iff_getElem.1 hx
          have := H.out i hi
          simp only [nthL, List.getD_eq_getElem?_getD, List.getElem?_eq_getElem hi, Option.getD_some] at this
          simp [this])
        go_wp2_with fail
        refine bodyPost_ret (v := .int .i64 (-1)) (by simp [results, Tryz.results121, go_sem]) rfl ⟨⟨-1, rfl, by rw [HS.out]; rfl, .inr rfl⟩, HX.out⟩
  go_enter Tryz.func50, Tryz.ntmps50
  go_wp2_with fail
  refine C.mono ?_
  rintro e w' ⟨⟨i, rfl, hb, hi⟩, hx⟩
  have HB := Lib.hid hb
  have HX := Lib.hid hx
  clear C hb hx
  rcases hi with hi | rfl
  · go_wp2_with fail
    go_ret
    exact ⟨ret_bool (by rw [← HB.out]; simp; omega), HX.out⟩
  · go_wp2_with fail
    go_ret
    exact ⟨ret_bool (by rw [← HB.out]; rfl), HX.out⟩
end Go.Proofs.YtnmjaddhbecopaaGreatDoor
end
section
namespace Go.Att
open Go.RowKit
/-- A slice of bytes that reads as l. -/
def Byts (w : World) (v : Value) (l : List Int) : Prop := Sl w 1 v l.length (l.map (Value.int .u8))
/-- Bytes of the call's own. -/
abbrev OwnB (w0 w : World) (e : TypeId) (v : Value) (l : List Int) : Prop := w.ownsRow w0.heap.size e 1 v l.length (l.map (Value.int .u8))
theorem or128 : ∀ m : Fin 256, bits .or .u8 ((m.val : Nat) : Int) 128 = ((m.val % 128 + 128 : Nat) : Int) := by decide +kernel
theorem or_byte (q : Nat) : bits .or .u8 ((q : Int) % 256) 128 = ((q % 128 + 128 : Nat) : Int) := by
  have := or128 ⟨q % 256, Nat.mod_lt _ (by decide)⟩
  simp only at this
  rw [show ((q : Int) % 256) = ((q % 256 : Nat) : Int) by omega, this, show q % 256 % 128 = q % 128 by omega]
theorem own_snoc {w0 w : World} {e : TypeId} {v : Value} {l : List Int} {c : Int} (h : w.ownsRow w0.heap.size e 1 v (l.length + 1) (l.map (Value.int .u8) ++ [Value.int .u8 c])) : OwnB w0 w e v (l ++ [c]) := by
  unfold OwnB; simpa using h
/-- From w, bytes v of its own (all behind w0), the call made the bytes l; but for v's block all is as it was. -/
def Wrote (w0 w : World) (e : TypeId) (v : Value) (l : List Int) (en : Ending) (w' : World) : Prop := ∃ v', en = .returned v' ∧ Ext w0 w' ∧ OwnB w0 w' e v' l ∧ w.grownBy w' v.ownBlock ∧ Moved w v v'
theorem Wrote.mk' {w0 w w' : World} {e : TypeId} {v v' : Value} {l l' : List Int} {en : Ending} (h1 : en = .returned v') (h2 : Ext w0 w) (h0 : OwnB w0 w e v l') (h3 : OwnB w0 w' e v' l) (h4 : w.grownBy w' v.ownBlock) (h5 : Moved w v v') : Wrote w0 w e v l en w' := ⟨v', h1, Ext.own_grown h2 h0 h4, h3, h4, h5⟩
end Go.Att
namespace Go.Proofs.YtnmjaddhbecopaaGreatDoor
open Go.RowKit Go.Att
theorem slIntY : SlT Tryz.prog 23 3 1 8 (.int .i64 0) := .mk' Tryz.underlying23 (by kernel_rfl) (by decide)
theorem slRowY : SlT Tryz.prog 22 23 1 24 (.slice none 0 0) := .mk' Tryz.underlying22 (by kernel_rfl) (by decide)
end Go.Proofs.YtnmjaddhbecopaaGreatDoor
end
section
namespace Go.Proofs.YtnmjaddhbecopaaGreatDoor
open Go.RowKit Go.Att
set_option maxRecDepth 100000 in
set_option maxHeartbeats 4000000 in
theorem copiedK_any (v : Value) (L : List (List Int)) (w : World) (hv : Rws w v L) (hs : L.length ≤ 1048576) (hrs : ∀ i, i < L.length → (nthL L i).length ≤ 1048576) :
    Calls Tryz.prog 22 #[v] w (Gives w fun u w' => Rws w' u L) := by
  obtain ⟨R, hv⟩ := hv
  have hll := hv.run_len (P := Tryz.prog) slRowsK
  have HV := Lib.hid hv; have HRS := Lib.hid hrs
  clear hv hrs
  go_enter Tryz.func22, Tryz.ntmps22
  go_wp2_with fail
  go_loopw [3, 4] (fun x3 x4 wr => ∃ (i : Nat) (E : Nat → List Value), i ≤ L.length ∧ x4 = .int .i64 i ∧ Hid (Lst rgInts w.heap.size wr 23 1 x3 (L.take i) E) ∧ Hid (Ext w wr)) (fun _ x4 _ => L.length - (intOf x4).toNat)
  case atStart => exact ⟨0, fun _ => [], Nat.zero_le _, rfl, Lib.hid (Lst.nil _ _ _ _ (World.ownsRow_nil _ _ _ _)), Lib.hid (Ext.refl _)⟩
  case round =>
    obtain ⟨i, E, hi, rfl, HLI, HX⟩ := hrel
    by_cases hil : i < L.length
    · have hix := HV.out.run_index (P := Tryz.prog) slRowsK i hil
      have hc := (HV.out.ext HX.out).cell i hil
      have HRI := Lib.hid ((HV.out.row i hil).ext HX.out)
      have hrl := HRS.out i hil
      have HTK := Lib.hid (show L.take (i + 1) = L.take i ++ [nthL L i] by rw [List.take_succ_eq_append_getElem hil, ← nthL_eq hil])
      have HTL := Lib.hid (show (L.take i).length = i by rw [List.length_take]; omega)
      have hc2 := (Ext.alloc wr (Obj.cells #[] 3)).cell hc
      go_wp2_with (first | (at_builtin; refine wpList_appSl rfl _ _ 23 rfl slIntY rfl (Ext.alloc wr (Obj.cells #[] 3)) (World.ownsRow_made wr #[] 0 (Nat.le_refl _) (Nat.zero_le _) rfl) rfl (HRI.out.ext (Ext.alloc wr _)) (by intro u hu; simp only [List.mem_map] at hu; obtain ⟨_, _, rfl⟩ := hu; rfl) rfl (by omega) (by omega) ?_; intro v1 w1 HO1 HX1 _; simp only [Nat.zero_add, List.nil_append] at HO1; obtain ⟨au, cu, rfl⟩ := own_shape HO1; have HO1H := Lib.hid HO1; have HX1H := Lib.hid HX1; have HO := own_ext HLI.out.own HX1; rw [HTL.out] at HO; have hsz : w.heap.size ≤ w1.heap.size := Nat.le_trans HX.out.size HX1.size; clear HO1 HX1 hc hc2 hix) | (at_builtin; refine wpList_appNw rfl _ _ 22 rfl slRowY rfl hsz HO rfl #[.slice au (nthL L i).length cu] rfl (by intro u hu; simp at hu; subst hu; rfl) rfl (by omega) (by omega) ?_; intro v4 w4 HO4 HG4 HM4))
      go_roundw
      case rel =>
        have HS : rgInts.sat wr.heap.size w1.heap.size w1 (nthL L i) [.slice au (nthL L i).length cu] := ⟨_, rfl, Ints.of_own HO1H.out, fun k hk => HO1H.out.lt k hk⟩
        have hown : ∀ k, _ → k < wr.heap.size ∨ w1.heap.size ≤ k := fun k hk => .inl (HLI.out.own.lt k hk).2
        exact ⟨i + 1, _, by omega, by go_num, Lib.hid (by rw [HTK.out]; exact (HLI.out.ext HX1H.out).push HX.out.size (Nat.le_refl _) hown HS (by rw [HTL.out]; exact HO4) HG4 HM4), Lib.hid (Ext.own_grown (HX.out.trans HX1H.out) HO HG4)⟩
      case measure => simp [intOf]; omega
    · obtain rfl : i = L.length := by omega
      go_wp2_with fail
      go_ret
      exact .mk _ rfl HX.out (by have h := HLI.out; rw [List.take_length] at h; obtain ⟨R, hR, _⟩ := h.rws; exact ⟨R, hR⟩)
end Go.Proofs.YtnmjaddhbecopaaGreatDoor
end
