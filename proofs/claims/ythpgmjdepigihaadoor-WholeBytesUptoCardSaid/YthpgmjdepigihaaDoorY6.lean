/- Bytes are read: contracts. -/
import Derived.Test.YthpgmjdepigihaaDoorY5
import Derived.WalkSmall
namespace Go.Att
open Go.RowKit
/-- A reader in block q, over bytes that were there in w0: t is left. -/
structure Rdr (w0 w : World) (q : Nat) (t : List Int) : Prop where
  cell : ∃ v, w.cell? ⟨q, 0, none⟩ = some v ∧ Byts w0 v t
  free : w.frozen? ⟨q, 0, none⟩ = false
  ext : Ext w0 w
  new : w0.heap.size ≤ q
/-- What a reader's call comes to: what is read, or the panic that ends it. -/
def RdOut {α : Type} (ty : TypeId) (w0 w : World) (q : Nat) (mk : α → Value → World → Prop) (r : Option (α × List Int)) (e : Ending) (w' : World) : Prop :=
  match r with
  | some (x, t) => ∃ u, e = .returned u ∧ mk x u w' ∧ Rdr w0 w' q t ∧ w.grownBy w' (some q)
  | none => e = .panicked [{ v := .iface ty (.agg #[]), recovered := false }] ∧ Ext w0 w' ∧ w.grownBy w' (some q)
theorem rd_none {α : Type} {ty : TypeId} {w0 w w' : World} {q : Nat} {mk : α → Value → World → Prop} {r : Option (α × List Int)} (h : r = none) (hx : Ext w0 w') (hg : w.grownBy w' (some q)) : RdOut ty w0 w q mk r (.panicked [{ v := .iface ty (.agg #[]), recovered := false }]) w' := by
  subst h; exact ⟨rfl, hx, hg⟩
theorem rd_some {α : Type} {ty : TypeId} {w0 w w' : World} {q : Nat} {mk : α → Value → World → Prop} {r : Option (α × List Int)} {x : α} {t : List Int} {u : Value} (h : r = some (x, t)) (hm : mk x u w') (hr : Rdr w0 w' q t) (hg : w.grownBy w' (some q)) : RdOut ty w0 w q mk r (.returned u) w' := by
  subst h; exact ⟨u, rfl, hm, hr, hg⟩
theorem grown_same {W w w' : World} {b : Option Nat} (h : W.grownBy w b) (k : w.grownBy w' b) : W.grownBy w' b :=
  ⟨k.os.trans h.os, k.tape.trans h.tape, k.output.trans h.output, Nat.le_trans h.size k.size, fun q hq hne => by rw [k.block q (Nat.lt_of_lt_of_le hq h.size) hne]; exact h.block q hq hne⟩
theorem rdr_set {w0 w : World} {q : Nat} {c v : Value} {t : List Int} (hc : w.cell? ⟨q, 0, none⟩ = some c) (hf : w.frozen? ⟨q, 0, none⟩ = false) (hx : Ext w0 w) (hq : w0.heap.size ≤ q) (hv : Byts w0 v t) : Rdr w0 (w.setCell ⟨q, 0, none⟩ v) q t :=
  ⟨⟨v, World.cell?_setCell_same _ _ _ hc, hv⟩, by rw [World.frozen?_setCell]; exact hf, Below.setCell hx hq v, hq⟩
set_option maxRecDepth 100000 in
theorem and127 : ∀ m : Fin 256, bits .and .u8 ((m.val : Nat) : Int) 127 = ((m.val % 128 : Nat) : Int) := by decide +kernel
theorem u64_wrap (n : Int) (h0 : 0 ≤ n) (h1 : n < 18446744073709551616) : IntKind.u64.wrap n = n := by
  show n % 18446744073709551616 = n
  exact Int.emod_eq_of_lt h0 h1
set_option maxRecDepth 100000 in
theorem u64_or (a b : Nat) (ha : a < 2 ^ 64) (hb : b < 2 ^ 64) : bits .or .u64 (a : Int) (b : Int) = ((a ||| b : Nat) : Int) := by
  have hx : a ||| b < 2 ^ 64 := Nat.or_lt_two_pow ha hb
  have h1 : (BitVec.ofInt 64 (a : Int)).toNat = a := by rw [BitVec.ofInt_natCast, BitVec.toNat_ofNat]; exact Nat.mod_eq_of_lt ha
  have h2 : (BitVec.ofInt 64 (b : Int)).toNat = b := by rw [BitVec.ofInt_natCast, BitVec.toNat_ofNat]; exact Nat.mod_eq_of_lt hb
  show IntKind.u64.wrap ((BitVec.ofInt 64 (a : Int) ||| BitVec.ofInt 64 (b : Int)).toNat : Int) = _
  rw [BitVec.toNat_or, h1, h2]
  exact u64_wrap _ (by omega) (by have : (2 : Nat) ^ 64 = 18446744073709551616 := by decide
                                  omega)
set_option maxRecDepth 100000 in
theorem acc_eq (u s : Nat) (c : Int) (h0 : 0 ≤ c) (h1 : c < 256) (hu : u < 2 ^ s) (hs : s ≤ 56 ∨ (s = 63 ∧ c ≤ 1)) :
    bits .or .u64 (u : Int) (IntKind.u64.wrap (IntKind.u64.wrap (bits .and .u8 c 127) * 2 ^ s)) = ((u + c.toNat % 128 * 2 ^ s : Nat) : Int) := by
  obtain ⟨n, rfl⟩ := Int.eq_ofNat_of_zero_le h0
  have ha := and127 ⟨n, by omega⟩
  simp only at ha
  have hd : n % 128 * 2 ^ s < 2 ^ 64 := by
    rcases hs with hs | ⟨rfl, hc⟩
    · have : (2 : Nat) ^ s ≤ 2 ^ 56 := Nat.pow_le_pow_right (by decide) hs
      calc n % 128 * 2 ^ s ≤ 127 * 2 ^ 56 := Nat.mul_le_mul (by omega) this
        _ < 2 ^ 64 := by decide
    · have : n ≤ 1 := by omega
      calc n % 128 * 2 ^ 63 ≤ 1 * 2 ^ 63 := Nat.mul_le_mul (by omega) (Nat.le_refl _)
        _ < 2 ^ 64 := by decide
  have hu64 : u < 2 ^ 64 := Nat.lt_of_lt_of_le hu (Nat.pow_le_pow_right (by decide) (by omega))
  have e64 : (2 : Nat) ^ 64 = 18446744073709551616 := by decide
  have hc : ((n % 128 : Nat) : Int) * 2 ^ s = ((n % 128 * 2 ^ s : Nat) : Int) := by norm_cast
  rw [ha, u64_wrap ((n % 128 : Nat) : Int) (by omega) (by omega), hc, u64_wrap _ (by omega) (by omega), u64_or u _ hu64 hd, Int.toNat_natCast]
  congr 1
  have := Nat.two_pow_add_eq_or_of_lt hu (n % 128)
  rw [Nat.or_comm, Nat.mul_comm (n % 128), ← this, Nat.add_comm]
theorem acc_lt (u s : Nat) (c : Int) (hu : u < 2 ^ s) : u + c.toNat % 128 * 2 ^ s < 2 ^ (s + 7) := by
  have h1 : c.toNat % 128 + 1 ≤ 128 := by omega
  have h2 := Nat.mul_le_mul_right (2 ^ s) h1
  rw [Nat.add_mul, Nat.one_mul] at h2
  rw [Nat.pow_add]; omega
theorem Byts.shape {w : World} {v : Value} {l : List Int} (h : Byts w v l) : ∃ ao cap, v = .slice ao l.length cap := by
  obtain ⟨ao, cap, h1, _⟩ := h; exact ⟨ao, cap, h1⟩
theorem Byts.run_index {P : Program} {w : World} {v : Value} {l : List Int} (h : Byts w v l) {t e bytes : Nat} {z : Value} (ht : SlT P t e 1 bytes z) (i : Nat) (hi : i < l.length) (w' : World) :
    (Instr.indexAt t v (.int .i64 i)).run P w' = .ok (.pointer (some (elt v i 1))) w' := Sl.run_index h ht i (by omega) (by omega) w'
theorem Byts.cell {w : World} {v : Value} {l : List Int} (h : Byts w v l) (i : Nat) (hi : i < l.length) : w.cell? (elt v i 1) = some (.int .u8 (nth l i)) := by
  have := Sl.cell h i 0 hi (by omega)
  simp [Addr.add] at this
  rw [this]
  simp [nth, List.getElem?_eq_getElem hi]
theorem Byts.ext {w w' : World} {v : Value} {l : List Int} (h : Byts w v l) (hx : Ext w w') : Byts w' v l := Sl.ext h hx
theorem Byts.run_drop {P : Program} {w : World} {v : Value} {l : List Int} (h : Byts w v l) {t e bytes : Nat} {z : Value} (ht : SlT P t e 1 bytes z) (k : Nat) (hk : k ≤ l.length) (w' : World) :
    (Instr.sliceAt t v (some (.int .i64 k)) none none).run P w' = .ok (fromV v k) w' := by
  obtain ⟨ao, cap, rfl, h2, h3, h4, h5⟩ := h
  have hu : P.underlying t = some (.slice (P.elem t)) := by rw [ht.und, elem_of ht.und]
  rw [run_sliceAt_slice (h := hu), run_slice_l (ht := hu) (h0 := by omega) (h1 := by omega), elem_of ht.und, ht.run_size]
  simp [Result.andThen, fromV]
theorem Byts.drop {w : World} {v : Value} {l : List Int} (h : Byts w v l) (k : Nat) (hk : k ≤ l.length) : Byts w (fromV v k) (l.drop k) := by
  obtain ⟨ao, cap, rfl, h2, h3, h4, h5⟩ := h
  have hl : (l.drop k).length = l.length - k := by simp
  by_cases hc : cap = k
  · have h0 : l.length - k = 0 := by omega
    refine ⟨ao, cap - k, ?_, by simp, by omega, by omega, fun i hi => ?_⟩
    · rw [hl]; simp [fromV, sliced, hc]
    · simp at hi; omega
  · cases ao with
    | none =>
      have hn : l.length = 0 := by
        apply Classical.byContradiction
        intro hn
        obtain ⟨b, off, e1, _⟩ := h5 0 (by simp; omega)
        cases e1
      refine ⟨none, cap - k, ?_, by simp, by omega, by omega, fun i hi => ?_⟩
      · rw [hl]; simp [fromV, sliced]
      · simp at hi; omega
    | some a =>
      refine ⟨some (a.add k), cap - k, ?_, by simp, by omega, by omega, fun i hi => ?_⟩
      · rw [hl]; simp [fromV, sliced, hc]
      · have hi' : i < l.length - k := by simpa using hi
        obtain ⟨b, off, e1, e2⟩ := h5 (k + i) (by simp; omega)
        have e1' := Option.some.inj e1
        subst e1'
        refine ⟨b, off + k, ?_, ?_⟩
        · rw [Addr.add_lit]
        · rw [Nat.add_assoc, e2]; simp
end Go.Att
namespace Go.Proofs.YthpgmjdepigihaaDoor
open Go.RowKit Go.Att
set_option maxRecDepth 100000 in
set_option maxHeartbeats 2000000 in
theorem rnum_any {w0 w : World} {q : Nat} {t : List Int} (h : Rdr w0 w q t) (hb : BytesIn t) :
    Calls Tryd.prog 46 #[.pointer (some ⟨q, 0, none⟩)] w (RdOut 98 w0 w q (fun (x : Int) u _ => u = .int .i64 x) (rdI t)) := by
  have H := Lib.hid h; clear h
  go_enter Tryd.func46, Tryd.ntmps46
  go_wp2_with fail
  go_loopw [3, 4, 5] (fun x3 x4 _ wr => ∃ (s k u : Nat) (t' : List Int), s ≤ 70 ∧ x3 = .int .u64 u ∧ x4 = .int .i64 s ∧ Hid (s = 7 * k ∧ u < 2 ^ s ∧ u < 2 ^ 64) ∧ Hid (rdU 0 0 t = rdU s u t') ∧ Hid (BytesIn t') ∧ Rdr w0 wr q t' ∧ w.grownBy wr (some q)) (fun _ x4 _ _ => (100 - intOf x4).toNat)
  case atStart => exact ⟨0, 0, 0, t, by omega, rfl, rfl, Lib.hid ⟨rfl, by decide, by decide⟩, Lib.hid rfl, Lib.hid hb, H.out, World.grownBy.refl _ _⟩
  case round =>
    clear H
    obtain ⟨s, k, u, t', hk, rfl, rfl, HU, HE, HB, h, hg⟩ := hrel
    obtain ⟨⟨v, c0, hv⟩, f0, hx, hq⟩ := h
    have hll := Sl.run_len (P := Tryd.prog) hv slByts
    obtain ⟨ao, cap, ev⟩ := hv.shape
    cases t' with
    | nil =>
      have hl0 : (([] : List Int).length : Int) = 0 := rfl
      rw [hl0] at hll
      go_wp2_with fail
      exact ⟨rfl, rd_none (by unfold rdI; rw [HE.out]; rfl) hx hg⟩
    | cons c t' =>
      have hl0 : (((c :: t').length : Nat) : Int) = (t'.length : Int) + 1 := by simp
      have hlb := Sl.len hv
      unfold maxLen at hlb
      rw [hl0] at hll
      have hz : (((t'.length : Int) + 1) == 0) = false := by rw [beq_eq_false_iff_ne]; omega
      by_cases h63 : 63 < s
      · clear ev
        have HS := Lib.hid h63
        go_wp2_with fail
        exact ⟨rfl, rd_none (by unfold rdI; rw [HE.out, rdU, if_pos HS.out]; rfl) hx hg⟩
      · have hix : ∀ w', (Instr.indexAt 31 v (.int .i64 0)).run Tryd.prog w' = .ok (.pointer (some (elt v 0 1))) w' := fun w' => hv.run_index (P := Tryd.prog) slByts 0 (by simp) w'
        have hc0 : wr.cell? (elt v 0 1) = some (.int .u8 c) := (hv.ext hx).cell 0 (by simp)
        have hdr : ∀ w', (Instr.sliceAt 31 v (some (.int .i64 1)) none none).run Tryd.prog w' = .ok (fromV v 1) w' := fun w' => hv.run_drop (P := Tryd.prog) slByts 1 (by simp) w'
        have hvd : Byts w0 (fromV v 1) t' := hv.drop 1 (by simp)
        obtain ⟨ao', cap', ev'⟩ := hvd.shape
        obtain ⟨bc0, bc1⟩ := HB.out c (by simp)
        rw [ev'] at hdr hvd
        have HVD := Lib.hid hvd
        clear ev hvd hv hl0 ev'
        have HS6 := Lib.hid h63
        by_cases hs63 : s = 63
        · subst hs63
          have b63 : (((63 : Nat) : Int) == 63) = true := rfl
          by_cases hc1 : 1 < c
          · have HR : Hid (rdU 63 u (c :: t') = none) := Lib.hid (by rw [rdU, if_neg h63, if_pos (.inl ⟨rfl, hc1⟩)])
            go_wp2_with fail
            exact ⟨rfl, rd_none (by unfold rdI; rw [HE.out, HR.out]; rfl) (Below.setCell hx hq _) (grown_same hg (setCell_grown _ _ _ _))⟩
          · by_cases hc : c = 0
            · have bc : (c == 0) = true := by rw [beq_iff_eq]; exact hc
              have HR : Hid (rdU 63 u (c :: t') = none) := Lib.hid (by rw [rdU, if_neg h63, if_pos (.inr ⟨by decide, hc⟩)])
              clear hc
              go_wp2_with fail
              exact ⟨rfl, rd_none (by unfold rdI; rw [HE.out, HR.out]; rfl) (Below.setCell hx hq _) (grown_same hg (setCell_grown _ _ _ _))⟩
            · have bc : (c == 0) = false := by rw [beq_eq_false_iff_ne]; exact hc
              have hok : ¬ ((63 = 63 ∧ 1 < c) ∨ (0 < 63 ∧ c = 0)) := by omega
              have hacc := acc_eq u 63 c bc0 bc1 HU.out.2.1 (.inr ⟨rfl, by omega⟩)
              rw [show ((2 : Int) ^ 63) = 9223372036854775808 by decide] at hacc
              have HACC := Lib.hid hacc
              clear hacc
              have h128 : c < 128 := by omega
              have HR : Hid (rdU 63 u (c :: t') = some (u + c.toNat % 128 * 2 ^ 63, t')) := Lib.hid (by rw [rdU, if_neg h63, if_neg hok, if_pos h128])
              clear hok
              go_wp2_with fail
              go_ret
              exact rd_some (by unfold rdI; rw [HE.out, HR.out]; rfl) (congrArg (fun z => Value.int .i64 (wrap64 z)) HACC.out) (rdr_set c0 f0 hx hq HVD.out) (grown_same hg (setCell_grown _ _ _ _))
        · have b63 : ((s : Int) == 63) = false := by rw [beq_eq_false_iff_ne]; omega
          have h56 : s ≤ 56 := by have := HU.out.1; omega
          by_cases hs0 : 0 < s
          · have hs0' : (0 : Int) < s := by omega
            by_cases hc : c = 0
            · have bc : (c == 0) = true := by rw [beq_iff_eq]; exact hc
              have HR : Hid (rdU s u (c :: t') = none) := Lib.hid (by rw [rdU, if_neg h63, if_pos (.inr ⟨hs0, hc⟩)])
              clear hc
              go_wp2_with fail
              exact ⟨rfl, rd_none (by unfold rdI; rw [HE.out, HR.out]; rfl) (Below.setCell hx hq _) (grown_same hg (setCell_grown _ _ _ _))⟩
            · have bc : (c == 0) = false := by rw [beq_eq_false_iff_ne]; exact hc
              have hok : ¬ ((s = 63 ∧ 1 < c) ∨ (0 < s ∧ c = 0)) := by omega
              have HACC := Lib.hid (acc_eq u s c bc0 bc1 HU.out.2.1 (.inl h56))
              by_cases h128 : c < 128
              · have HR : Hid (rdU s u (c :: t') = some (u + c.toNat % 128 * 2 ^ s, t')) := Lib.hid (by rw [rdU, if_neg h63, if_neg hok, if_pos h128])
                clear hok
                go_wp2_with fail
                go_ret
                exact rd_some (by unfold rdI; rw [HE.out, HR.out]; rfl) (congrArg (fun z => Value.int .i64 (wrap64 z)) HACC.out) (rdr_set c0 f0 hx hq HVD.out) (grown_same hg (setCell_grown _ _ _ _))
              · have HR : Hid (rdU s u (c :: t') = rdU (s + 7) (u + c.toNat % 128 * 2 ^ s) t') := Lib.hid (by rw [rdU, if_neg h63, if_neg hok, if_neg h128])
                have hge : (128 : Int) ≤ c := by omega
                have HNX : Hid (s + 7 = 7 * (k + 1) ∧ u + c.toNat % 128 * 2 ^ s < 2 ^ (s + 7) ∧ u + c.toNat % 128 * 2 ^ s < 2 ^ 64) := Lib.hid ⟨by have := HU.out.1; omega, acc_lt u s c HU.out.2.1, Nat.lt_of_lt_of_le (acc_lt u s c HU.out.2.1) (Nat.pow_le_pow_right (by decide) (by omega))⟩
                clear hok
                go_wp2_with fail
                go_roundw
                case rel => exact ⟨s + 7, k + 1, u + c.toNat % 128 * 2 ^ s, t', by have := HS6.out; omega, congrArg (Value.int .u64) HACC.out, by go_num, HNX.out, Lib.hid (by rw [HE.out, HR.out]), Lib.hid (fun x hx => HB.out x (by simp [hx])), rdr_set c0 f0 hx hq HVD.out, grown_same hg (setCell_grown _ _ _ _)⟩
                case measure => simp [intOf]; omega
          · have hs0' : ¬ (0 : Int) < s := by omega
            have hok : ¬ ((s = 63 ∧ 1 < c) ∨ (0 < s ∧ c = 0)) := by omega
            have HACC := Lib.hid (acc_eq u s c bc0 bc1 HU.out.2.1 (.inl h56))
            by_cases h128 : c < 128
            · have HR : Hid (rdU s u (c :: t') = some (u + c.toNat % 128 * 2 ^ s, t')) := Lib.hid (by rw [rdU, if_neg h63, if_neg hok, if_pos h128])
              clear hok
              go_wp2_with fail
              go_ret
              exact rd_some (by unfold rdI; rw [HE.out, HR.out]; rfl) (congrArg (fun z => Value.int .i64 (wrap64 z)) HACC.out) (rdr_set c0 f0 hx hq HVD.out) (grown_same hg (setCell_grown _ _ _ _))
            · have HR : Hid (rdU s u (c :: t') = rdU (s + 7) (u + c.toNat % 128 * 2 ^ s) t') := Lib.hid (by rw [rdU, if_neg h63, if_neg hok, if_neg h128])
              have hge : (128 : Int) ≤ c := by omega
              have HNX : Hid (s + 7 = 7 * (k + 1) ∧ u + c.toNat % 128 * 2 ^ s < 2 ^ (s + 7) ∧ u + c.toNat % 128 * 2 ^ s < 2 ^ 64) := Lib.hid ⟨by have := HU.out.1; omega, acc_lt u s c HU.out.2.1, Nat.lt_of_lt_of_le (acc_lt u s c HU.out.2.1) (Nat.pow_le_pow_right (by decide) (by omega))⟩
              clear hok
              go_wp2_with fail
              go_roundw
              case rel => exact ⟨s + 7, k + 1, u + c.toNat % 128 * 2 ^ s, t', by have := HS6.out; omega, congrArg (Value.int .u64) HACC.out, by go_num, HNX.out, Lib.hid (by rw [HE.out, HR.out]), Lib.hid (fun x hx => HB.out x (by simp [hx])), rdr_set c0 f0 hx hq HVD.out, grown_same hg (setCell_grown _ _ _ _)⟩
              case measure => simp [intOf]; omega
end Go.Proofs.YthpgmjdepigihaaDoor
