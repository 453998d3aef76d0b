/- The document writes a voucher as bytes: contracts. -/
import Derived.Test.YthpgmjdepigihaaDoorY5
import Derived.Test.YthpgmjdepigihaaDoorLs
namespace Go.Att
open Go.RowKit
/-- A writer: a block of the call's own that holds bytes of its own. -/
structure Wtr (te : TypeId) (w0 w : World) (bb : Nat) (s : List Int) : Prop where
  cell : ∃ v, w.cell? ⟨bb, 0, none⟩ = some v ∧ OwnB w0 w te v s ∧ some bb ≠ v.ownBlock
  fr : w.frozen? ⟨bb, 0, none⟩ = false
  ext : Ext w0 w
  lo : w0.heap.size ≤ bb
/-- A block that is neither the writer's nor its bytes'. -/
def ApartB (w : World) (bb k : Nat) : Prop := k < w.heap.size ∧ k ≠ bb ∧ ∀ v, w.cell? ⟨bb, 0, none⟩ = some v → some k ≠ v.ownBlock
def KeptB (w w' : World) (bb : Nat) : Prop := ∀ k, ApartB w bb k → ApartB w' bb k ∧ w'.heap[k]? = w.heap[k]?
theorem KeptB.refl (w : World) (bb : Nat) : KeptB w w bb := fun _ h => ⟨h, rfl⟩
theorem KeptB.trans {a b c : World} {bb : Nat} (h : KeptB a b bb) (k : KeptB b c bb) : KeptB a c bb := fun i hi => by
  obtain ⟨h1, h2⟩ := h i hi
  obtain ⟨h3, h4⟩ := k i h1
  exact ⟨h3, h4.trans h2⟩
theorem KeptB.ext {w w' : World} {bb : Nat} (hb : bb < w.heap.size) (hx : Ext w w') : KeptB w w' bb := fun k ⟨h1, h2, h3⟩ =>
  ⟨⟨Nat.lt_of_lt_of_le h1 hx.size, h2, fun v hv => h3 v (by rw [World.cell?_of_block (a := ⟨bb, 0, none⟩) (hx.below.block bb hb)] at hv; exact hv)⟩, hx.below.block k h1⟩
theorem own_other {w w' : World} {B e sz n : Nat} {v : Value} {xs : List Value} (h : w.ownsRow B e sz v n xs) {b : Nat} (hg : w.grownBy w' (some b)) (hne : some b ≠ v.ownBlock) : w'.ownsRow B e sz v n xs := by
  refine ⟨h.1, ?_⟩
  rcases h.2 with h2 | ⟨g, cap, cur, rfl, hbg, hgg, hr⟩
  · exact .inl h2
  · exact .inr ⟨g, cap, cur, rfl, hbg, by rw [hg.block g (Array.getElem?_eq_some_iff.1 hgg).1 (fun e => hne e.symm)]; exact hgg, hr⟩
theorem not_moved2 {W : World} {a b : Value} {k : Nat} (h : some k ≠ a.ownBlock) (hm : Moved W a b) (hk : k < W.heap.size) : some k ≠ b.ownBlock := by
  rcases hm with e | e
  · rw [e]; exact h
  · intro hc; have := e _ hc.symm; omega
/-- The bytes have grown, and the writer was told. -/
theorem wtr_step {te : TypeId} {w0 w w' : World} {bb : Nat} {s s' : List Int} {v v' : Value} (hc : w.cell? ⟨bb, 0, none⟩ = some v) (ho : OwnB w0 w te v s) (hne : some bb ≠ v.ownBlock) (hfr : w.frozen? ⟨bb, 0, none⟩ = false) (hx : Ext w0 w) (hlo : w0.heap.size ≤ bb)
    (ho2 : OwnB w0 w' te v' s') (hg : w.grownBy w' v.ownBlock) (hm : Moved w v v') : Wtr te w0 (w'.setCell ⟨bb, 0, none⟩ v') bb s' ∧ KeptB w (w'.setCell ⟨bb, 0, none⟩ v') bb := by
  have hlt := World.block_lt_of_cell? w ⟨bb, 0, none⟩ hc
  have hblk := hg.block bb hlt hne
  have hc' : w'.cell? ⟨bb, 0, none⟩ = some v := by rw [World.cell?_of_block (a := ⟨bb, 0, none⟩) hblk]; exact hc
  have hne' := not_moved2 hne hm hlt
  have hx' := Ext.own_grown hx ho hg
  refine ⟨⟨⟨v', World.cell?_setCell_same _ _ _ hc', own_other ho2 (setCell_grown w' bb 0 v') hne', hne'⟩, ?_, Below.setCell hx' hlo v', hlo⟩, fun k ⟨h1, h2, h3⟩ => ⟨⟨?_, h2, fun u hu => ?_⟩, ?_⟩⟩
  · rw [World.frozen?_setCell, World.frozen?_of_block (a := ⟨bb, 0, none⟩) hblk]; exact hfr
  · exact Nat.lt_of_lt_of_le h1 (Nat.le_trans hg.size (setCell_grown w' bb 0 v').size)
  · rw [World.cell?_setCell_same _ _ _ hc'] at hu
    obtain rfl := Option.some.inj hu
    exact not_moved2 (h3 v hc) hm h1
  · rw [(setCell_grown w' bb 0 v').block k (Nat.lt_of_lt_of_le h1 hg.size) (fun e => h2 (Option.some.inj e)), hg.block k h1 (h3 v hc)]
theorem wtr_mid {te : TypeId} {w0 w w' : World} {bb : Nat} {s : List Int} {v : Value} (hc : w.cell? ⟨bb, 0, none⟩ = some v) (ho : OwnB w0 w te v s) (hne : some bb ≠ v.ownBlock) (hfr : w.frozen? ⟨bb, 0, none⟩ = false)
    (hg : w.grownBy w' v.ownBlock) : w'.cell? ⟨bb, 0, none⟩ = some v ∧ w'.frozen? ⟨bb, 0, none⟩ = false := by
  have hblk := hg.block bb (World.block_lt_of_cell? w ⟨bb, 0, none⟩ hc) hne
  exact ⟨by rw [World.cell?_of_block (a := ⟨bb, 0, none⟩) hblk]; exact hc, by rw [World.frozen?_of_block (a := ⟨bb, 0, none⟩) hblk]; exact hfr⟩
/-- What a writer's call leaves. -/
def BWr (te : TypeId) (w0 w : World) (bb : Nat) (s : List Int) (e : Ending) (w' : World) : Prop := e = .returned (.tuple #[]) ∧ Wtr te w0 w' bb s ∧ KeptB w w' bb
theorem Wtr.lt {te : TypeId} {w0 w : World} {bb : Nat} {s : List Int} (h : Wtr te w0 w bb s) : bb < w.heap.size := by
  obtain ⟨⟨v, hc, -⟩, -⟩ := h; exact World.block_lt_of_cell? w ⟨bb, 0, none⟩ hc
theorem Wtr.alloc {te : TypeId} {w0 w : World} {bb : Nat} {s : List Int} (h : Wtr te w0 w bb s) (o : Obj) : Wtr te w0 (w.alloc o) bb s := by
  obtain ⟨⟨v, hc, ho, hne⟩, hfr, hx, hlo⟩ := h
  have ha := Ext.alloc w o
  exact ⟨⟨v, ha.cell hc, own_ext ho ha, hne⟩, by rw [World.frozen?_of_block (a := ⟨bb, 0, none⟩) (ha.below.block bb (World.block_lt_of_cell? w ⟨bb, 0, none⟩ hc))]; exact hfr, hx.trans ha, hlo⟩
/-- A new block is apart. -/
theorem apart_new {te : TypeId} {w0 w : World} {bb : Nat} {s : List Int} (h : Wtr te w0 w bb s) (o : Obj) : ApartB (w.alloc o) bb w.heap.size := by
  obtain ⟨⟨v, hc, ho, hne⟩, hfr, hx, hlo⟩ := h
  have hlt := World.block_lt_of_cell? w ⟨bb, 0, none⟩ hc
  have hlt' : bb < w.heap.size := hlt
  refine ⟨by simp, by omega, fun u hu => ?_⟩
  rw [(Ext.alloc w o).cell hc] at hu
  obtain rfl := Option.some.inj hu
  intro e
  have := (ho.lt _ e.symm).2
  omega
theorem kept_cell {w w' : World} {bb k : Nat} (h : KeptB w w' bb) (ha : ApartB w bb k) (i : Nat) : w'.cell? ⟨k, i, none⟩ = w.cell? ⟨k, i, none⟩ := World.cell?_of_block (a := ⟨k, i, none⟩) (h k ha).2
end Go.Att
namespace Go.Proofs.YthpgmjdepigihaaDoor
open Go.RowKit Go.Att
set_option maxRecDepth 100000 in
set_option maxHeartbeats 2000000 in
theorem bnum_any (w0 w : World) (bb : Nat) (bs : List Int) (hW : Wtr 5 w0 w bb bs) (x : Int) (hb : bs.length + (encI x).length ≤ 4294967296) :
    Calls Tryd.prog 41 #[.pointer (some ⟨bb, 0, none⟩), .int .i64 x] w (BWr 5 w0 w bb (bs ++ encI x)) := by
  have hw : IntKind.u64.wrap x = ((u64 x : Nat) : Int) := by unfold u64; simp only [IntKind.wrap]; rw [Int.toNat_of_nonneg (Int.emod_nonneg _ (by decide))]; rfl
  have hlt := u64_lt x
  rw [encI] at hb ⊢
  go_enter Tryd.func41, Tryd.ntmps41
  go_wp2_with fail
  clear hw
  generalize u64 x = u0 at *
  go_loopw [4] (fun x5 wr => ∃ (pre : List Int) (q : Nat), x5 = .int .u64 q ∧ q ≤ u0 ∧ Hid (Wtr 5 w0 wr bb pre) ∧ Hid (KeptB w wr bb) ∧ Hid (bs ++ encU u0 = pre ++ encU q) ∧ pre.length + (encU q).length ≤ 4294967296) (fun x5 _ => (intOf x5).toNat)
  case atStart => exact ⟨bs, u0, rfl, Nat.le_refl _, Lib.hid hW, Lib.hid (KeptB.refl _ _), Lib.hid rfl, hb⟩
  case round =>
    obtain ⟨pre, q, rfl, hq, HW, HK, HE, hb1⟩ := hrel
    obtain ⟨⟨v', hc, HO1, hne⟩, hfr, HX1, hlo⟩ := HW.out
    have hp := encU_pos q
    have h63 : pre.length + 1 ≤ 4294967296 := by omega
    have HC := Lib.hid hc; have HO := Lib.hid HO1; have HN := Lib.hid hne; have HF := Lib.hid hfr
    by_cases h128 : q < 128
    · have hge : ¬ (128 : Int) ≤ q := by omega
      clear hne
      go_wp2_with (refine wpList_appNw rfl _ _ 31 rfl slByts rfl HX1.size HO1 rfl _ rfl (by intro u hu; simp at hu; subst hu; rfl) rfl h63 (by omega) ?_; intro v2 w2 HO2 HG2 HM2; obtain ⟨av, cv, rfl⟩ := own_shape3 HO2; obtain ⟨c2, f2⟩ := wtr_mid HC.out HO.out HN.out HF.out HG2)
      have HE' := HE.out
      rw [encU.eq_1 q, if_pos h128] at HE'
      obtain ⟨k1, k2⟩ := wtr_step HC.out HO.out HN.out HF.out HX1 hlo (own_snoc HO2) HG2 HM2
      go_end0
      exact ⟨rfl, by rw [HE']; exact k1, HK.out.trans k2⟩
    · have hge : (128 : Int) ≤ q := by omega
      have hb2 := hb1
      rw [encU, if_neg h128, List.length_cons] at hb2
      clear hne
      go_wp2_with (refine wpList_appNw rfl _ _ 31 rfl slByts rfl HX1.size HO1 rfl _ rfl (by intro u hu; simp at hu; subst hu; rfl) rfl h63 (by omega) ?_; intro v2 w2 HO2 HG2 HM2; obtain ⟨av, cv, rfl⟩ := own_shape3 HO2; obtain ⟨c2, f2⟩ := wtr_mid HC.out HO.out HN.out HF.out HG2)
      go_roundw
      case rel =>
        have HE' := HE.out
        rw [encU.eq_1 q, if_neg h128] at HE'
        have e1 : ((q : Int) % 128 + 128) = ((q % 128 + 128 : Nat) : Int) := by omega
        rw [e1] at HO2
        obtain ⟨k1, k2⟩ := wtr_step HC.out HO.out HN.out HF.out HX1 hlo (own_snoc HO2) HG2 HM2
        refine ⟨pre ++ [((q % 128 + 128 : Nat) : Int)], q / 128, by go_num, by omega, Lib.hid k1, Lib.hid (HK.out.trans k2), Lib.hid (by rw [HE', List.append_assoc]; rfl), ?_⟩
        rw [List.length_append, List.length_singleton]; omega
      case measure => simp [intOf]; omega

end Go.Proofs.YthpgmjdepigihaaDoor
