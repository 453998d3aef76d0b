/- A voucher's bytes are written: contracts. -/
import Derived.Test.YthpgmjdepigihaaDoorY1
import Derived.Test.YthpgmjdepigihaaDoorVc
import Derived.Test.YthpgmjdepigihaaDoorQt
import Derived.Test.YthpgmjdepigihaaDoorProg
namespace Go.Att
open Go.RowKit
/-- A slice of bytes that reads as l. -/
def Byts (w : World) (v : Value) (l : List Int) : Prop := Sl w 1 v l.length (l.map (Value.int .u8))
/-- Bytes of the call's own. -/
abbrev OwnB (w0 w : World) (e : TypeId) (v : Value) (l : List Int) : Prop := w.ownsRow w0.heap.size e 1 v l.length (l.map (Value.int .u8))
theorem or128 : ∀ m : Fin 256, bits .or .u8 ((m.val : Nat) : Int) 128 = ((m.val % 128 + 128 : Nat) : Int) := by decide +kernel
theorem or_byte (q : Nat) : bits .or .u8 ((q : Int) % 256) 128 = ((q % 128 + 128 : Nat) : Int) := by
  have := or128 ⟨q % 256, Nat.mod_lt _ (by decide)⟩
  simp only at this
  rw [show ((q : Int) % 256) = ((q % 256 : Nat) : Int) by omega, this, show q % 256 % 128 = q % 128 by omega]
theorem own_snoc {w0 w : World} {e : TypeId} {v : Value} {l : List Int} {c : Int} (h : w.ownsRow w0.heap.size e 1 v (l.length + 1) (l.map (Value.int .u8) ++ [Value.int .u8 c])) : OwnB w0 w e v (l ++ [c]) := by
  unfold OwnB; simpa using h
/-- From w, bytes v of its own (all behind w0), the call made the bytes l; but for v's block all is as it was. -/
def Wrote (w0 w : World) (e : TypeId) (v : Value) (l : List Int) (en : Ending) (w' : World) : Prop := ∃ v', en = .returned v' ∧ Ext w0 w' ∧ OwnB w0 w' e v' l ∧ w.grownBy w' v.ownBlock ∧ Moved w v v'
theorem Wrote.mk' {w0 w w' : World} {e : TypeId} {v v' : Value} {l l' : List Int} {en : Ending} (h1 : en = .returned v') (h2 : Ext w0 w) (h0 : OwnB w0 w e v l') (h3 : OwnB w0 w' e v' l) (h4 : w.grownBy w' v.ownBlock) (h5 : Moved w v v') : Wrote w0 w e v l en w' := ⟨v', h1, Ext.own_grown h2 h0 h4, h3, h4, h5⟩
end Go.Att
namespace Go.Proofs.YthpgmjdepigihaaDoor
open Go.RowKit Go.Att
theorem slIntY : SlT Tryd.prog 22 3 1 8 (.int .i64 0) := .mk' Tryd.underlying22 (by kernel_rfl) (by decide)
theorem slRowY : SlT Tryd.prog 23 22 1 24 (.slice none 0 0) := .mk' Tryd.underlying23 (by kernel_rfl) (by decide)
theorem slByts : SlT Tryd.prog 31 5 1 1 (.int .u8 0) := .mk' Tryd.underlying31 (by kernel_rfl) (by decide)

set_option maxRecDepth 100000 in
set_option maxHeartbeats 2000000 in
theorem wnum_any (w0 w : World) (hx : Ext w0 w) (v : Value) (bs : List Int) (HO : OwnB w0 w 5 v bs) (x : Int) (hi : I64 x) (hb : bs.length + (encI x).length ≤ 4294967296) :
    Calls Tryd.prog 35 #[v, .int .i64 x] w (Wrote w0 w 5 v (bs ++ encI x)) := by
  have hw : IntKind.u64.wrap x = ((u64 x : Nat) : Int) := by unfold u64; simp only [IntKind.wrap]; rw [Int.toNat_of_nonneg (Int.emod_nonneg _ (by decide))]; rfl
  have hlt := u64_lt x
  rw [encI] at hb ⊢
  go_enter Tryd.func35, Tryd.ntmps35
  go_wp2_with fail
  clear hw hi
  generalize u64 x = u0 at *
  go_loopw [0, 5] (fun x0 x5 wr => ∃ (v' : Value) (pre : List Int) (q : Nat), x0 = v' ∧ x5 = .int .u64 q ∧ q ≤ u0 ∧ OwnB w0 wr 5 v' pre ∧ Ext w0 wr ∧ w.grownBy wr v.ownBlock ∧ Moved w v v' ∧ Hid (bs ++ encU u0 = pre ++ encU q) ∧ pre.length + (encU q).length ≤ 4294967296) (fun _ x5 _ => (intOf x5).toNat)
  case atStart => exact ⟨v, bs, u0, rfl, rfl, Nat.le_refl _, HO, hx, World.grownBy.refl _ _, Moved.refl _ _, Lib.hid rfl, hb⟩
  case round =>
    obtain ⟨v', pre, q, rfl, rfl, hq, HO1, HX1, HG1, HM1, HE, hb1⟩ := hrel
    have hp := encU_pos q
    have h63 : pre.length + 1 ≤ 4294967296 := by omega
    by_cases h128 : q < 128
    · have hge : ¬ (128 : Int) ≤ q := by omega
      go_wp2_with (refine wpList_appNw rfl _ _ 31 rfl slByts rfl HX1.size HO1 rfl _ rfl (by intro u hu; simp at hu; subst hu; rfl) rfl h63 (by omega) ?_; intro v2 w2 HO2 HG2 HM2)
      go_ret
      have HE' := HE.out
      rw [encU.eq_1 q, if_pos h128] at HE'
      exact .mk' rfl hx HO (by rw [HE']; exact own_snoc HO2) (grown_trans HG1 HM1 HG2) (HM1.trans HM2 HG1.size)
    · have hge : (128 : Int) ≤ q := by omega
      have hb2 := hb1
      rw [encU, if_neg h128, List.length_cons] at hb2
      go_wp2_with (refine wpList_appNw rfl _ _ 31 rfl slByts rfl HX1.size HO1 rfl _ rfl (by intro u hu; simp at hu; subst hu; rfl) rfl h63 (by omega) ?_; intro v2 w2 HO2 HG2 HM2)
      go_roundw
      case rel =>
        have HE' := HE.out
        rw [encU.eq_1 q, if_neg h128] at HE'
        rw [or_byte] at HO2
        refine ⟨v2, pre ++ [((q % 128 + 128 : Nat) : Int)], q / 128, rfl, by go_num, by omega, own_snoc HO2, Ext.own_grown HX1 HO1 HG2, grown_trans HG1 HM1 HG2, HM1.trans HM2 HG1.size, Lib.hid (by rw [HE', List.append_assoc]; rfl), ?_⟩
        rw [List.length_append, List.length_singleton]; omega
      case measure => simp [intOf]; omega

end Go.Proofs.YthpgmjdepigihaaDoor
