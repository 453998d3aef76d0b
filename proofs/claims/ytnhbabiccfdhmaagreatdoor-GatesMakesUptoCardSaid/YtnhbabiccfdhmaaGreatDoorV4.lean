/- A copy of a list; a polynomial's end: contracts. -/
import Derived.Test.YtnhbabiccfdhmaaGreatDoorU9
import Derived.Test.YtnhbabiccfdhmaaGreatDoorHb
import Derived.Test.YtnhbabiccfdhmaaGreatDoorLa
namespace Go.Att
open Go.RowKit
theorem degN_bd (p : Int) (a : List Int) (k : Nat) : degN p a ≤ k ↔ ∀ j, k ≤ j → j < a.length → nth a j % p = 0 := by
  induction a generalizing k with
  | nil => simp [degN]
  | cons c l ih =>
    have key : degN p (c :: l) = if degN p l = 0 then (if fof p c = 0 then 0 else 1) else degN p l + 1 := rfl
    cases k with
    | zero =>
      rw [key]
      constructor
      · intro h j _ hj
        by_cases h0 : degN p l = 0
        · rw [if_pos h0] at h
          by_cases hc : fof p c = 0
          · cases j with
            | zero => simpa [nth, fof] using hc
            | succ j => have := (ih 0).1 (by omega) j (by omega) (by simpa using hj); simpa [nth] using this
          · rw [if_neg hc] at h; omega
        · rw [if_neg h0] at h; omega
      · intro h
        have h0 : degN p l = 0 := by
          have := (ih 0).2 (fun j _ hj => by have := h (j + 1) (by omega) (by simpa using hj); simpa [nth] using this)
          omega
        have hc : fof p c = 0 := by have := h 0 (by omega) (by simp); simpa [nth, fof] using this
        rw [if_pos h0, if_pos hc]; omega
    | succ k =>
      have e : degN p (c :: l) ≤ k + 1 ↔ degN p l ≤ k := by
        rw [key]; split
        · split <;> omega
        · omega
      rw [e, ih k]
      constructor
      · intro h j hj hl
        obtain ⟨j, rfl⟩ : ∃ i, j = i + 1 := ⟨j - 1, by omega⟩
        have := h j (by omega) (by simpa using hl)
        simpa [nth] using this
      · intro h j hj hl
        have := h (j + 1) (by omega) (by simpa using hl)
        simpa [nth] using this
theorem own_empty (w : World) (e sz : Nat) : (w.alloc (Obj.cells #[] e)).ownsRow w.heap.size e sz (.slice (some ⟨w.heap.size, 0, none⟩) 0 0) 0 [] :=
  ⟨by simp, .inr ⟨w.heap.size, 0, #[], rfl, Nat.le_refl _, heap_alloc_new w _, Nat.le_refl _, Nat.zero_le _, by simp, by simp⟩⟩
end Go.Att
namespace Go.Proofs.YtnhbabiccfdhmaaGreatDoor
open Go.RowKit Go.Att

set_option maxRecDepth 100000 in
set_option maxHeartbeats 1000000 in
theorem clone_any {w : World} {va : Value} {l : List Int} (hl : Ints w va l) (h63 : l.length ≤ 4294967296) :
    Calls Tryz.prog 110 #[va] w (Gives w fun u w' => w'.ownsRow w.heap.size 3 1 u l.length (l.map (Value.int .i64))) := by
  have hsl : Sl w 1 va l.length (l.map (Value.int .i64)) := hl
  obtain ⟨ao, cap, hv⟩ := hl.shape
  have HS := Lib.hid hsl
  subst hv
  have hq : ∀ w', (binOp .eql 23 (.slice ao l.length cap) (.slice none 0 0)).run Tryz.prog w' = .ok (.bool ao.isNone) w' := fun w' => Lib.run_eql_slice_nil w' 23 3 ao l.length cap 0 0 Tryz.underlying23
  cases ao with
  | none =>
    obtain ⟨ao', cap', hv, h2, h3, h4, h5⟩ := hsl
    have hl0 : l.length = 0 := by
      apply Classical.byContradiction
      intro hn
      obtain ⟨b, off, e, _⟩ := h5 0 (by simp; omega)
      simp only [Value.slice.injEq] at hv
      rw [e] at hv
      cases hv.1
    obtain rfl : l = [] := List.eq_nil_of_length_eq_zero hl0
    clear hv h2 h3 h4 h5 hl0
    simp only [List.length_nil, Option.isNone_none] at hq
    go_enter Tryz.func110, Tryz.ntmps110
    go_wp2
    go_ret
    exact .mk _ rfl (Ext.refl _) (World.ownsRow_nil _ _ _ _)
  | some a =>
    clear hsl
    go_enter Tryz.func110, Tryz.ntmps110
    go_wp2_with (at_builtin; refine wpList_appSl rfl _ _ 23 rfl slInts rfl (Ext.alloc w (Obj.cells #[] 3)) (own_empty w 3 1) rfl (HS.out.ext (Ext.alloc w _)) (by intro u hu; simp only [List.mem_map] at hu; obtain ⟨_, _, rfl⟩ := hu; rfl) rfl (by omega) (by omega) ?_; intro v1 w1 HO1 HX1 _)
    refine bodyPost_ret (v := v1) (by simp [results, Tryz.results110, go_sem]) rfl ?_
    exact .mk _ rfl HX1 (by simpa using HO1)

set_option maxRecDepth 100000 in
set_option maxHeartbeats 1000000 in
theorem pdegree_any {w : World} {f : Value} {p g : Int} {fs : List Int} (hf : Fld w f p g fs) {va : Value} {l : List Int} (hl : Ints w va l) :
    Calls Tryz.prog 239 #[f, va] w (Rd w (.int .i64 ((degN p l : Int) - 1))) := by
  have C := Lib.hid hf; clear hf
  have hll := hl.run_len (P := Tryz.prog) slInts
  have hlen := hl.len
  have HL := Lib.hid hl; clear hl
  go_enter Tryz.func239, Tryz.ntmps239
  go_wp2_with fail
  go_loopw [5] (fun x5 wr => ∃ (e : Int) (m : Nat), x5 = .int .i64 e ∧ -1 ≤ e ∧ e < l.length ∧ Hid (∀ j : Nat, e < j → j < l.length → nth l j % p = 0) ∧ wr = w.drewN m) (fun x5 _ => (intOf x5 + 1).toNat)
  case atStart => exact ⟨_, 0, rfl, by omega, by omega, Lib.hid (fun j h1 h2 => by omega), rfl⟩
  case round =>
    obtain ⟨e, m, rfl, h1, h2, HZ, rfl⟩ := hrel
    by_cases h0 : 0 ≤ e
    · obtain ⟨i, rfl⟩ := Int.eq_ofNat_of_zero_le h0
      have hil : i < l.length := by omega
      have hix := HL.out.run_index (P := Tryz.prog) slInts i hil
      have hc := (HL.out.drewN m).cell i hil
      by_cases hz : fof p (nth l i) = 0
      · have hb : (fof p (nth l i) == 0) = true := by rw [beq_iff_eq]; exact hz
        have HZZ := Lib.hid hz
        clear hz
        go_wp2_with (go_at_call 88; refine (of_any (C.out.drewN m) _).mono ?_; rintro e w' ⟨rfl, m', rfl⟩)
        go_roundw
        case rel => exact ⟨(i : Int) - 1, m + m', rfl, by omega, by omega, Lib.hid (fun j h3 h4 => by
          by_cases hj : j = i
          · rw [hj]; exact HZZ.out
          · exact HZ.out j (by omega) h4), rfl⟩
        case measure => simp [intOf]
      · have hb : (fof p (nth l i) == 0) = false := by rw [beq_eq_false_iff_ne]; exact hz
        have HZZ := Lib.hid hz
        clear hz
        go_wp2_with (go_at_call 88; refine (of_any (C.out.drewN m) _).mono ?_; rintro e w' ⟨rfl, m', rfl⟩)
        go_ret
        have hd := degN_at p l i hil HZZ.out (fun j h3 h4 => HZ.out j (by omega) h4)
        exact ⟨ret_int (by rw [hd]; omega), m + m', rfl⟩
    · have he : e = -1 := by omega
      subst he
      go_wp2_with fail
      go_ret
      have hd : degN p l = 0 := by have := (degN_bd p l 0).2 (fun j _ h4 => HZ.out j (by omega) h4); omega
      exact ⟨ret_int (by rw [hd]; rfl), m, rfl⟩

set_option maxRecDepth 100000 in
set_option maxHeartbeats 1000000 in
theorem ptrim_any {w : World} {f : Value} {p g : Int} {fs : List Int} (hf : Fld w f p g fs) {va : Value} {l : List Int} (hl : Ints w va l) (h20 : l.length ≤ 4294967296) :
    Calls Tryz.prog 223 #[f, va] w (Gives w fun u w' => Ints w' u (trimL p l)) := by
  have C := Lib.hid hf
  have hdl := degN_le p l
  have hw : IntKind.i64.wrap ((degN p l : Int) - 1 + 1) = (degN p l : Int) := by rw [show (degN p l : Int) - 1 + 1 = degN p l by omega]; exact IntWalk.i64_in _ (by omega)
  have hn1 : (degN p l : Int) - 1 + 1 = (degN p l : Int) := by omega
  have HL := Lib.hid hl; have HF := Lib.hid hf
  have htk := hl.run_take (P := Tryz.prog) slInts (degN p l) hdl
  have hT := hl.take (degN p l) hdl
  have hTl : (l.take (degN p l)).length = degN p l := by rw [List.length_take]; omega
  have hlT := hT.run_len (P := Tryz.prog) slInts
  rw [hTl] at hlT
  have HT := Lib.hid hT; have HTL := Lib.hid hTl
  clear hl hf hT hTl
  have HTR : Hid (trimL p l = (l.take (degN p l)).map (fof p)) := Lib.hid rfl
  generalize trimL p l = TR at *
  generalize hdn : degN p l = n at *
  generalize hvu : upTo va n = vu at *
  generalize l.take n = lt at *
  have HDN := Lib.hid hdn
  clear hdn hvu
  go_enter Tryz.func223, Tryz.ntmps223
  go_wp2_with (first | (go_at_call 239; refine (pdegree_any HF.out HL.out).mono ?_; rw [HDN.out]; rintro e w1 hrd; obtain ⟨rfl, hx1⟩ := hrd.ext; clear hrd) | (refine wpList_mk0 rfl _ _ 23 rfl slInts (Ext.refl w1) rfl rfl (by omega) (by omega) (by omega) ?_; intro v2 w2 HO HX _))
  go_loopw [6, 8, 19] (fun x6 _ x19 wr => ∃ i : Nat, i ≤ n ∧ x19 = .int .i64 i ∧ wr.ownsRow w.heap.size 3 1 x6 i (((lt.take i).map (fof p)).map (Value.int .i64)) ∧ Ext w wr) (fun _ _ x19 _ => n - (intOf x19).toNat)
  case atStart => exact ⟨0, Nat.zero_le _, rfl, by simpa using own_base HO hx1.size, hx1.trans HX⟩
  case round =>
    obtain ⟨i, hi, rfl, HO1, HX1⟩ := hrel
    by_cases hin : i < n
    · have hix := HT.out.run_index (P := Tryz.prog) slInts i (by rw [HTL.out]; exact hin)
      have hc := (HT.out.ext HX1).cell i (by rw [HTL.out]; exact hin)
      have ST := Lib.hid (show ((lt.take (i + 1)).map (fof p)).map (Value.int .i64) = ((lt.take i).map (fof p)).map (Value.int .i64) ++ [.int .i64 (fof p (nth lt i))] by
        have hh : i < lt.length := by rw [HTL.out]; exact hin
        rw [List.take_succ_eq_append_getElem hh, nth_eq hh, List.map_append, List.map_append]; rfl)
      go_wp2_with (first | (go_at_call 88; refine (of_any (HF.out.ext HX1) _).mono ?_; rintro e w3 hrd; obtain ⟨rfl, hx3⟩ := hrd.ext; clear hrd; replace HO1 := own_ext HO1 hx3; replace hx3 := HX1.trans hx3) | (at_builtin; refine wpList_appNw rfl _ _ 23 rfl slInts rfl hx3.size HO1 rfl _ rfl (by intro u hu; simp at hu; subst hu; rfl) rfl (by omega) (by omega) ?_; intro v7 w7 HO7 HG7 _))
      go_roundw
      case rel => exact ⟨i + 1, by omega, by go_num, by rw [ST.out]; exact HO7, Ext.own_grown hx3 HO1 HG7⟩
      case measure => simp [intOf]; omega
    · obtain rfl : i = n := by omega
      go_wp2_with fail
      go_ret
      refine .mk _ rfl HX1 ?_
      have hI := Ints.of_own HO1
      rw [List.take_of_length_le (by rw [HTL.out]; exact Nat.le_refl _), ← HTR.out] at hI
      exact hI
end Go.Proofs.YtnhbabiccfdhmaaGreatDoor
