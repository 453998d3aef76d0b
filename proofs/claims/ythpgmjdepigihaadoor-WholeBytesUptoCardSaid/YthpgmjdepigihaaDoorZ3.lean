/- The document reads numbers of bytes: contracts. -/
import Derived.Test.YthpgmjdepigihaaDoorYb
import Derived.Test.YthpgmjdepigihaaDoorZ2
namespace Go.Att
open Go.RowKit
/-- The document's reader in block q, over the bytes b (the slice v): what is left, or that they are none. -/
def RSt (w0 w : World) (q : Nat) (v : Value) (b : List Int) (st : Option (List Int)) : Prop :=
  ∃ (a : Nat) (bad : Bool), C3 w q v (.int .i64 a) (.bool bad) ∧ a ≤ b.length ∧ Ext w0 w ∧ w0.heap.size ≤ q ∧ st = if bad then none else some (b.drop a)
/-- What a reader's call leaves. -/
def DNum (w0 w : World) (q : Nat) (v : Value) (b : List Int) (r : Option (Int × List Int)) (e : Ending) (w' : World) : Prop :=
  ∃ x st', e = .returned (.int .i64 x) ∧ RSt w0 w' q v b st' ∧ r = st'.map (fun t => (x, t)) ∧ (st' = none → x = 0) ∧ w.grownBy w' (some q)
theorem C3.ext {w w' : World} {b : Nat} {x y z : Value} (h : C3 w b x y z) (hx : Ext w w') : C3 w' b x y z := h.grown (hx.grownBy none) (by simp)
theorem C3.drewN {w : World} {b : Nat} {x y z : Value} (h : C3 w b x y z) (n : Nat) : C3 (w.drewN n) b x y z := h.ext (Ext.drewN _ _)
theorem rst_bad {w0 w : World} {q : Nat} {v z : Value} {b : List Int} {a : Nat} {A : Int} (h : C3 w q v (.int .i64 A) z) (hA : A = a) (ha : a ≤ b.length) (hx : Ext w0 w) (hq : w0.heap.size ≤ q) : RSt w0 (w.setCell ⟨q, 2, none⟩ (.bool true)) q v b none := by
  subst hA; exact ⟨a, true, h.set2 _, ha, Below.setCell hx hq _, hq, rfl⟩
theorem rst_at {w0 w : World} {q : Nat} {v : Value} {b : List Int} {a : Nat} {A : Int} (h : C3 w q v (.int .i64 A) (.bool false)) (hA : A = a) (ha : a ≤ b.length) (hx : Ext w0 w) (hq : w0.heap.size ≤ q) : RSt w0 w q v b (some (b.drop a)) := by
  subst hA; exact ⟨a, false, h, ha, hx, hq, rfl⟩
theorem acc_eq2 (u s : Nat) (c : Int) (h0 : 0 ≤ c) (h1 : c < 256) (hu : u < 2 ^ s) (hs : s ≤ 56 ∨ (s = 63 ∧ c ≤ 1)) :
    bits .or .u64 (u : Int) (IntKind.u64.wrap (c % 128 * 2 ^ s)) = ((u + c.toNat % 128 * 2 ^ s : Nat) : Int) := by
  have h := acc_eq u s c h0 h1 hu hs
  obtain ⟨n, rfl⟩ := Int.eq_ofNat_of_zero_le h0
  have ha := and127 ⟨n, by omega⟩
  simp only at ha
  rw [ha, u64_wrap ((n % 128 : Nat) : Int) (by omega) (by omega)] at h
  rw [show ((n : Int) % 128) = ((n % 128 : Nat) : Int) by omega]; exact h
theorem drop_cons {b : List Int} {a : Nat} (h : a < b.length) : b.drop a = nth b a :: b.drop (a + 1) := by rw [List.drop_eq_getElem_cons h, nth_eq h]
theorem dnum_none {w0 w w' : World} {q : Nat} {v : Value} {b : List Int} {r : Option (Int × List Int)} (hr : r = none) (h : RSt w0 w' q v b none) (hg : w.grownBy w' (some q)) : DNum w0 w q v b r (.returned (.int .i64 0)) w' := ⟨0, none, rfl, h, hr, fun _ => rfl, hg⟩
theorem dnum_some {w0 w w' : World} {q : Nat} {v : Value} {b t : List Int} {x y : Int} {r : Option (Int × List Int)} (hr : r = some (x, t)) (hy : y = x) (h : RSt w0 w' q v b (some t)) (hg : w.grownBy w' (some q)) : DNum w0 w q v b r (.returned (.int .i64 y)) w' := by
  subst hy; exact ⟨y, some t, rfl, h, hr, (fun h => by cases h), hg⟩
end Go.Att
namespace Go.Proofs.YthpgmjdepigihaaDoor
open Go.RowKit Go.Att
set_option maxRecDepth 100000 in
set_option maxHeartbeats 4000000 in
theorem dnum_any {w0 w : World} {q : Nat} {v : Value} {b : List Int} {st : Option (List Int)} (hv : Byts w0 v b) (hb : BytesIn b) (h : RSt w0 w q v b st) :
    Calls Tryd.prog 53 #[.pointer (some ⟨q, 0, none⟩)] w (DNum w0 w q v b (st.bind rdI)) := by
  obtain ⟨a, bad, hc, ha, hx, hq, rfl⟩ := h
  have hll := Sl.run_len (P := Tryd.prog) hv slByts
  have hlb := Sl.len hv
  unfold maxLen at hlb
  obtain ⟨ao, cap, rfl⟩ := hv.shape
  have HB := Lib.hid hb
  have HV := Lib.hid hv
  clear hb
  cases bad
  rotate_left
  · obtain ⟨c0, c1, c2, f0, f1, f2⟩ := hc
    have HC := Lib.hid (C3.mk c0 c1 c2 f0 f1 f2)
    have HX := Lib.hid hx
    clear hx f0 f1 hv
    go_enter Tryd.func53, Tryd.ntmps53
    go_wp2_with fail
    go_loopw [3] (fun x3 wr => ∃ m, wr = w.drewN m) (fun x3 _ => 0)
    case atStart => exact ⟨0, rfl⟩
    case round =>
      obtain ⟨m, rfl⟩ := hrel
      have hne : a < b.length ∨ ¬ a < b.length := by omega
      rcases hne with hlt | hlt
      · have hd : decide (a < b.length) = true := decide_eq_true hlt
        clear hlt
        go_wp2_with fail
        go_quiet (fail)
        go_wp2_with fail
        go_ret
        exact dnum_none rfl (rst_bad (HC.out.drewN _) rfl ha (HX.out.trans (Ext.drewN _ _)) hq) (grown_same ((Ext.drewN w _).grownBy (some q)) (setCell_grown _ _ _ _))
      · have hd : decide (a < b.length) = false := decide_eq_false hlt
        clear hlt
        go_wp2_with fail
        go_quiet (fail)
        go_wp2_with fail
        go_ret
        exact dnum_none rfl (rst_bad (HC.out.drewN _) rfl ha (HX.out.trans (Ext.drewN _ _)) hq) (grown_same ((Ext.drewN w _).grownBy (some q)) (setCell_grown _ _ _ _))
  · have HC := Lib.hid hc
    have HX := Lib.hid hx
    clear hx hc hv
    rw [show (if false = true then none else some (b.drop a)).bind rdI = rdI (b.drop a) from rfl]
    go_enter Tryd.func53, Tryd.ntmps53
    go_wp2_with fail
    go_loopw [3, 4] (fun x3 x4 wr => ∃ (s k u a' : Nat), s ≤ 63 ∧ x3 = .int .u64 u ∧ x4 = .int .i64 s ∧ Hid (s = 7 * k ∧ u < 2 ^ s ∧ u < 2 ^ 64) ∧ Hid (rdU 0 0 (b.drop a) = rdU s u (b.drop a')) ∧ a' ≤ b.length ∧ Hid (C3 wr q (.slice ao b.length cap) (.int .i64 a') (.bool false)) ∧ Hid (Ext w0 wr) ∧ Hid (w.grownBy wr (some q))) (fun _ x4 _ => (100 - intOf x4).toNat)
    case atStart => exact ⟨0, 0, 0, a, by omega, rfl, rfl, Lib.hid ⟨rfl, by decide, by decide⟩, Lib.hid rfl, ha, HC, HX, Lib.hid (World.grownBy.refl _ _)⟩
    case round =>
      clear HC HX ha
      obtain ⟨s, k, u, a', hk, rfl, rfl, HU, HE, ha, HC, HX, HG⟩ := hrel
      obtain ⟨c0, c1, c2, f0, f1, f2⟩ := HC.out
      have hne : ¬ a' < b.length ∨ a' < b.length := by omega
      rcases hne with hlt | hlt
      · have hd : decide (a' < b.length) = false := decide_eq_false hlt
        have HR : Hid (rdI (b.drop a) = none) := Lib.hid (by unfold rdI; rw [HE.out, List.drop_eq_nil_of_le (by omega)]; rfl)
        clear hlt
        go_wp2_with fail
        go_quiet (fail)
        go_wp2_with fail
        go_ret
        exact dnum_none HR.out (rst_bad (HC.out.drewN _) rfl ha (HX.out.trans (Ext.drewN _ _)) hq) (grown_same HG.out (grown_same ((Ext.drewN wr _).grownBy (some q)) (setCell_grown _ _ _ _)))
      · have hd : decide (a' < b.length) = true := decide_eq_true hlt
        have hix : ∀ w', (Instr.indexAt 31 (.slice ao b.length cap) (.int .i64 a')).run Tryd.prog w' = .ok (.pointer (some (elt (.slice ao b.length cap) a' 1))) w' := fun w' => HV.out.run_index (P := Tryd.prog) slByts a' hlt w'
        have hc0 : wr.cell? (elt (.slice ao b.length cap) a' 1) = some (.int .u8 (nth b a')) := (HV.out.ext HX.out).cell a' hlt
        obtain ⟨bc0, bc1⟩ := HB.out (nth b a') (nth_mem hlt)
        have HD := Lib.hid (drop_cons hlt)
        have ha1 : a' + 1 ≤ b.length := hlt
        clear hlt
        generalize nth b a' = c at *
        generalize elt (.slice ao b.length cap) a' 1 = pe at *
        have h63 : ¬ 63 < s := by omega
        have HS6 := Lib.hid (show s ≤ 56 ∨ s = 63 by have := HU.out.1; omega)
        by_cases hs63 : s = 63
        · subst hs63
          have b63 : (((63 : Nat) : Int) == 63) = true := rfl
          by_cases hc1 : 1 < c
          · have HR : Hid (rdU 63 u (c :: b.drop (a' + 1)) = none) := Lib.hid (by rw [rdU, if_neg h63, if_pos (.inl ⟨rfl, hc1⟩)])
            go_wp2_with fail
            go_quiet (fail)
            go_wp2_with fail
            go_quiet (fail)
            go_wp2_with fail
            go_ret
            exact dnum_none (by unfold rdI; rw [HE.out, HD.out, HR.out]; rfl) (rst_bad ((HC.out.drewN _).set1 _) (by omega) ha1 (Below.setCell (HX.out.trans (Ext.drewN _ _)) hq _) hq) (grown_same HG.out (grown_same (grown_same ((Ext.drewN wr _).grownBy (some q)) (setCell_grown _ _ _ _)) (setCell_grown _ _ _ _)))
          · by_cases hc : c = 0
            · have bc : (c == 0) = true := by rw [beq_iff_eq]; exact hc
              have HR : Hid (rdU 63 u (c :: b.drop (a' + 1)) = none) := Lib.hid (by rw [rdU, if_neg h63, if_pos (.inr ⟨by decide, hc⟩)])
              clear hc
              go_wp2_with fail
              go_quiet (fail)
              go_wp2_with fail
              go_quiet (fail)
              go_wp2_with fail
              go_ret
              exact dnum_none (by unfold rdI; rw [HE.out, HD.out, HR.out]; rfl) (rst_bad ((HC.out.drewN _).set1 _) (by omega) ha1 (Below.setCell (HX.out.trans (Ext.drewN _ _)) hq _) hq) (grown_same HG.out (grown_same (grown_same ((Ext.drewN wr _).grownBy (some q)) (setCell_grown _ _ _ _)) (setCell_grown _ _ _ _)))
            · have bc : (c == 0) = false := by rw [beq_eq_false_iff_ne]; exact hc
              have hok : ¬ ((63 = 63 ∧ 1 < c) ∨ (0 < 63 ∧ c = 0)) := by omega
              have hacc := acc_eq2 u 63 c bc0 bc1 HU.out.2.1 (.inr ⟨rfl, by omega⟩)
              rw [show ((2 : Int) ^ 63) = 9223372036854775808 by decide, u64_wrap (c % 128 * 9223372036854775808) (by omega) (by omega)] at hacc
              have HACC := Lib.hid hacc
              clear hacc
              have h128 : c < 128 := by omega
              have HR : Hid (rdU 63 u (c :: b.drop (a' + 1)) = some (u + c.toNat % 128 * 2 ^ 63, b.drop (a' + 1))) := Lib.hid (by rw [rdU, if_neg h63, if_neg hok, if_pos h128])
              clear hok
              go_wp2_with fail
              go_quiet (fail)
              go_wp2_with fail
              go_quiet (fail)
              go_wp2_with fail
              go_ret
              exact dnum_some (by unfold rdI; rw [HE.out, HD.out, HR.out]; rfl) (congrArg wrap64 HACC.out) (rst_at ((HC.out.drewN _).set1 _) (by omega) ha1 (Below.setCell (HX.out.trans (Ext.drewN _ _)) hq _) hq) (grown_same HG.out (grown_same ((Ext.drewN wr _).grownBy (some q)) (setCell_grown _ _ _ _)))
        · have b63 : ((s : Int) == 63) = false := by rw [beq_eq_false_iff_ne]; omega
          have h56 : s ≤ 56 := by have := HU.out.1; omega
          by_cases hs0 : 0 < s
          · have hs0' : (0 : Int) < s := by omega
            by_cases hc : c = 0
            · have bc : (c == 0) = true := by rw [beq_iff_eq]; exact hc
              have HR : Hid (rdU s u (c :: b.drop (a' + 1)) = none) := Lib.hid (by rw [rdU, if_neg h63, if_pos (.inr ⟨hs0, hc⟩)])
              clear hc
              go_wp2_with fail
              go_quiet (fail)
              go_wp2_with fail
              go_quiet (fail)
              go_wp2_with fail
              go_ret
              exact dnum_none (by unfold rdI; rw [HE.out, HD.out, HR.out]; rfl) (rst_bad ((HC.out.drewN _).set1 _) (by omega) ha1 (Below.setCell (HX.out.trans (Ext.drewN _ _)) hq _) hq) (grown_same HG.out (grown_same (grown_same ((Ext.drewN wr _).grownBy (some q)) (setCell_grown _ _ _ _)) (setCell_grown _ _ _ _)))
            · have bc : (c == 0) = false := by rw [beq_eq_false_iff_ne]; exact hc
              have hok : ¬ ((s = 63 ∧ 1 < c) ∨ (0 < s ∧ c = 0)) := by omega
              have HACC := Lib.hid (acc_eq2 u s c bc0 bc1 HU.out.2.1 (.inl h56))
              by_cases h128 : c < 128
              · have HR : Hid (rdU s u (c :: b.drop (a' + 1)) = some (u + c.toNat % 128 * 2 ^ s, b.drop (a' + 1))) := Lib.hid (by rw [rdU, if_neg h63, if_neg hok, if_pos h128])
                clear hok
                go_wp2_with fail
                go_quiet (fail)
                go_wp2_with fail
                go_quiet (fail)
                go_wp2_with fail
                go_ret
                exact dnum_some (by unfold rdI; rw [HE.out, HD.out, HR.out]; rfl) (congrArg wrap64 HACC.out) (rst_at ((HC.out.drewN _).set1 _) (by omega) ha1 (Below.setCell (HX.out.trans (Ext.drewN _ _)) hq _) hq) (grown_same HG.out (grown_same ((Ext.drewN wr _).grownBy (some q)) (setCell_grown _ _ _ _)))
              · have HR : Hid (rdU s u (c :: b.drop (a' + 1)) = rdU (s + 7) (u + c.toNat % 128 * 2 ^ s) (b.drop (a' + 1))) := Lib.hid (by rw [rdU, if_neg h63, if_neg hok, if_neg h128])
                have hge : (128 : Int) ≤ c := by omega
                have HNX : Hid (s + 7 = 7 * (k + 1) ∧ u + c.toNat % 128 * 2 ^ s < 2 ^ (s + 7) ∧ u + c.toNat % 128 * 2 ^ s < 2 ^ 64) := Lib.hid ⟨by have := HU.out.1; omega, acc_lt u s c HU.out.2.1, Nat.lt_of_lt_of_le (acc_lt u s c HU.out.2.1) (Nat.pow_le_pow_right (by decide) (by omega))⟩
                clear hok
                go_wp2_with fail
                go_quiet (fail)
                go_wp2_with fail
                go_quiet (fail)
                go_wp2_with fail
                go_roundw
                case rel => exact ⟨s + 7, k + 1, u + c.toNat % 128 * 2 ^ s, a' + 1, by have := HU.out.1; have := HS6.out; omega, congrArg (Value.int .u64) HACC.out, by go_num, HNX.out, Lib.hid (by rw [HE.out, HD.out, HR.out]), ha1, Lib.hid (by rw [show ((a' + 1 : Nat) : Int) = (a' : Int) + 1 by omega]; exact (HC.out.drewN _).set1 _), Lib.hid (Below.setCell (HX.out.trans (Ext.drewN _ _)) hq _), Lib.hid (grown_same HG.out (grown_same ((Ext.drewN wr _).grownBy (some q)) (setCell_grown _ _ _ _)))⟩
                case measure => simp [intOf]; omega
          · have hs0' : ¬ (0 : Int) < s := by omega
            have hok : ¬ ((s = 63 ∧ 1 < c) ∨ (0 < s ∧ c = 0)) := by omega
            have HACC := Lib.hid (acc_eq2 u s c bc0 bc1 HU.out.2.1 (.inl h56))
            by_cases h128 : c < 128
            · have HR : Hid (rdU s u (c :: b.drop (a' + 1)) = some (u + c.toNat % 128 * 2 ^ s, b.drop (a' + 1))) := Lib.hid (by rw [rdU, if_neg h63, if_neg hok, if_pos h128])
              clear hok
              go_wp2_with fail
              go_quiet (fail)
              go_wp2_with fail
              go_quiet (fail)
              go_wp2_with fail
              go_ret
              exact dnum_some (by unfold rdI; rw [HE.out, HD.out, HR.out]; rfl) (congrArg wrap64 HACC.out) (rst_at ((HC.out.drewN _).set1 _) (by omega) ha1 (Below.setCell (HX.out.trans (Ext.drewN _ _)) hq _) hq) (grown_same HG.out (grown_same ((Ext.drewN wr _).grownBy (some q)) (setCell_grown _ _ _ _)))
            · have HR : Hid (rdU s u (c :: b.drop (a' + 1)) = rdU (s + 7) (u + c.toNat % 128 * 2 ^ s) (b.drop (a' + 1))) := Lib.hid (by rw [rdU, if_neg h63, if_neg hok, if_neg h128])
              have hge : (128 : Int) ≤ c := by omega
              have HNX : Hid (s + 7 = 7 * (k + 1) ∧ u + c.toNat % 128 * 2 ^ s < 2 ^ (s + 7) ∧ u + c.toNat % 128 * 2 ^ s < 2 ^ 64) := Lib.hid ⟨by have := HU.out.1; omega, acc_lt u s c HU.out.2.1, Nat.lt_of_lt_of_le (acc_lt u s c HU.out.2.1) (Nat.pow_le_pow_right (by decide) (by omega))⟩
              clear hok
              go_wp2_with fail
              go_quiet (fail)
              go_wp2_with fail
              go_quiet (fail)
              go_wp2_with fail
              go_roundw
              case rel => exact ⟨s + 7, k + 1, u + c.toNat % 128 * 2 ^ s, a' + 1, by have := HU.out.1; have := HS6.out; omega, congrArg (Value.int .u64) HACC.out, by go_num, HNX.out, Lib.hid (by rw [HE.out, HD.out, HR.out]), ha1, Lib.hid (by rw [show ((a' + 1 : Nat) : Int) = (a' : Int) + 1 by omega]; exact (HC.out.drewN _).set1 _), Lib.hid (Below.setCell (HX.out.trans (Ext.drewN _ _)) hq _), Lib.hid (grown_same HG.out (grown_same ((Ext.drewN wr _).grownBy (some q)) (setCell_grown _ _ _ _)))⟩
              case measure => simp [intOf]; omega
end Go.Proofs.YthpgmjdepigihaaDoor
