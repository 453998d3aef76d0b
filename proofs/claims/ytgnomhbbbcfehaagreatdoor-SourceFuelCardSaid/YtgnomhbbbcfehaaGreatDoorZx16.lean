/- The making of a field: contract. What runs tell compared; code copied and compared; a field by itself: contracts. -/
import Derived.Test.YtgnomhbbbcfehaaGreatDoorZx12
import Derived.Test.YtgnomhbbbcfehaaGreatDoorEr
import Derived.Test.YtgnomhbbbcfehaaGreatDoorVc
import Derived.Test.YtgnomhbbbcfehaaGreatDoorZx17
import Derived.Test.YtgnomhbbbcfehaaGreatDoorZx1
import Derived.Test.YtgnomhbbbcfehaaGreatDoorQt
import Derived.BigQuiet
section
/-! The making of a field: contract. -/
namespace Go.Att
open Go.RowKit
structure FieldOf (w : World) (f : Value) (p g : Int) : Prop where
  fld : ∃ fs, Fld w f p g fs
  gen : IsGen p g
  least : ∀ x : Int, 1 ≤ x → x < g → ¬ IsGen p x
  lo : 1 ≤ g
  hi : g < p
theorem FieldOf.ext {w w' : World} {f : Value} {p g : Int} (h : FieldOf w f p g) (hx : Ext w w') : FieldOf w' f p g := by
  obtain ⟨⟨fs, h1⟩, h2, h3, h4, h5⟩ := h
  exact ⟨⟨fs, h1.ext hx⟩, h2, h3, h4, h5⟩
theorem FieldOf.ptr {w : World} {f : Value} {p g : Int} (h : FieldOf w f p g) : ∃ b, f = .pointer (some ⟨b, 0, none⟩) := by
  obtain ⟨fs, hf⟩ := h.fld
  obtain ⟨⟨b, v, h1, _⟩, _⟩ := hf
  exact ⟨b, h1⟩
theorem isGen_iff {p a : Int} {fs : List Int} (hp : Pr p) (hp3 : 3 ≤ p) (hfs : PrimesOf (p - 1).toNat fs) :
    (¬ p ∣ a ∧ ∀ j, j < fs.length → Wit p a (nth fs j)) ↔ IsGen p a := by
  constructor
  · rintro ⟨h0, h1⟩
    refine isGen_of_primes hp hp3 h0 fun q hq hqn => ?_
    have hm := hfs.2 q hq hqn
    obtain ⟨j, hj, e⟩ := List.getElem_of_mem hm
    have := h1 j hj
    unfold Wit at this
    rw [nth_eq hj, e, Int.toNat_natCast] at this
    exact this
  · intro h
    refine ⟨h.1, fun j hj => ?_⟩
    obtain ⟨h2, h3⟩ := hfs.1 _ (nth_mem hj)
    obtain ⟨D, hD⟩ := Int.eq_ofNat_of_zero_le (show 0 ≤ nth fs j by omega)
    unfold Wit
    rw [hD] at h2 h3 ⊢
    rw [Int.toNat_natCast]
    have hd := Int.natCast_dvd_natCast.1 h3
    have hpos : 0 < (p - 1).toNat := by omega
    exact h.2 _ (Nat.div_pos (Nat.le_of_dvd hpos hd) (by omega)) (Nat.div_lt_self hpos (by omega))
def genAt (w : World) (b : Nat) : Int := match w.cell? ⟨b, 2, none⟩ with | some v => intOf v | none => 0
theorem genAt_eq {w : World} {b : Nat} {x : Int} (h : w.cell? ⟨b, 2, none⟩ = some (.int .i64 x)) : genAt w b = x := by simp [genAt, h, intOf]
end Go.Att
namespace Go.Proofs.YtgnomhbbbcfehaaGreatDoor
open Go.RowKit Go.Att

theorem gen_step {wr w1 : World} {G p : Int} {v : Value} {b m : Nat} (hb : w1.heap.size ≤ b) (c0 : wr.cell? ⟨b, 0, none⟩ = some (.int .i64 p)) (c1 : wr.cell? ⟨b, 1, none⟩ = some v) (c2 : wr.cell? ⟨b, 2, none⟩ = some (.int .i64 G)) (c3 : wr.frozen? ⟨b, 2, none⟩ = false) (hx : Ext w1 wr) :
    ((wr.drewN m).setCell ⟨b, 2, none⟩ (.int .i64 (G + 1))).cell? ⟨b, 0, none⟩ = some (.int .i64 p) ∧ ((wr.drewN m).setCell ⟨b, 2, none⟩ (.int .i64 (G + 1))).cell? ⟨b, 1, none⟩ = some v ∧
    ((wr.drewN m).setCell ⟨b, 2, none⟩ (.int .i64 (G + 1))).cell? ⟨b, 2, none⟩ = some (.int .i64 (G + 1)) ∧ ((wr.drewN m).setCell ⟨b, 2, none⟩ (.int .i64 (G + 1))).frozen? ⟨b, 2, none⟩ = false ∧ Ext w1 ((wr.drewN m).setCell ⟨b, 2, none⟩ (.int .i64 (G + 1))) := by
  refine ⟨?_, ?_, World.cell?_setCell_same _ _ _ c2, ?_, (hx.trans (Ext.drewN _ _)).below.setCell hb _⟩
  · rw [World.cell?_setCell_other _ _ _ _ (by simp)]; exact c0
  · rw [World.cell?_setCell_other _ _ _ _ (by simp)]; exact c1
  · rw [World.frozen?_setCell]; exact c3

theorem new_bad (p : Int) (w : World) (h : ¬ okP p) :
    Calls Tryz.prog 21 #[.int .i64 p] w fun e w' => e = .returned (.tuple #[.pointer none, errv 1]) ∧ w = w' := by
  rw [errv_pos (by decide)]
  by_cases h3 : p < 3
  · clear h
    go_enter Tryz.func21, Tryz.ntmps21
    go_wp2_with fail
    go_ret2; exact ⟨rfl, rfl⟩
  · by_cases h4 : 2147483647 < p
    · clear h
      go_enter Tryz.func21, Tryz.ntmps21
      go_wp2_with fail
      go_ret2; exact ⟨rfl, rfl⟩
    · have hb := okB_false h
      clear h
      go_enter Tryz.func21, Tryz.ntmps21
      go_wp2_with (go_at_call 44; refine (prime_any _ _ (by omega) (by omega)).mono ?_; rintro e w' ⟨rfl, rfl⟩)
      go_ret2; exact ⟨rfl, rfl⟩

set_option maxHeartbeats 2000000 in
theorem new_ok (p : Int) (w : World) (h : okP p) :
    Calls Tryz.prog 21 #[.int .i64 p] w (Gives w fun v w' => ∃ f g, v = .tuple #[f, .nilIface] ∧ FieldOf w' f p g) := by
  have hb := okB_true h
  obtain ⟨hp, lo, hi⟩ := h
  obtain ⟨g0, hg1, hg2, hg3⟩ := exists_gen hp lo
  have HP := Lib.hid hp; clear hp
  have HG := Lib.hid hg3; clear hg3
  have eQ : p - 1 = ((p - 1).toNat : Int) := by omega
  have EQ := Lib.hid eQ; clear eQ
  go_enter Tryz.func21, Tryz.ntmps21
  go_wp2_with (first | (go_at_call 44; refine (prime_any _ _ (by omega) (by omega)).mono ?_; rintro e w' ⟨rfl, rfl⟩) | (go_at_call 45; rw [EQ.out]; refine (primes_any _ _ (by omega) (by omega)).mono ?_; rintro e w1 ⟨v, rfl, hx, fs, hv, hfs⟩; obtain ⟨ao, cap, rfl⟩ := hv.shape))
  have HFS := Lib.hid hfs; clear hfs
  have HV := Lib.hid hv; clear hv
  have HX := Lib.hid hx; clear hx
  go_loopw [26] (fun _ wr => ∃ G : Int, wr.cell? ⟨w1.heap.size, 0, none⟩ = some (.int .i64 p) ∧ wr.cell? ⟨w1.heap.size, 1, none⟩ = some (.slice ao fs.length cap) ∧ wr.cell? ⟨w1.heap.size, 2, none⟩ = some (.int .i64 G) ∧ wr.frozen? ⟨w1.heap.size, 2, none⟩ = false ∧ Ext w1 wr ∧ 1 ≤ G ∧ G ≤ g0 ∧ Hid (∀ x : Int, 1 ≤ x → x < G → ¬ IsGen p x)) (fun _ wr => (p - genAt wr w1.heap.size).toNat)
  case atStart => exact ⟨1, by simp, by simp, by simp, by simp, Ext.alloc _ _, by omega, hg1, Lib.hid (fun x h1 h2 => by omega)⟩
  case round =>
    obtain ⟨G, c0, c1, c2, c3, hxr, hG1, hG2, HL⟩ := hrel
    have HF := Lib.hid (show Fld wr (.pointer (some ⟨w1.heap.size, 0, none⟩)) p G fs from ⟨⟨_, _, rfl, c0, c1, HV.out.ext hxr, c2⟩, HP.out, lo, hi⟩)
    have HM := Lib.hid (genAt_eq c2)
    by_cases hgen : IsGen p G
    · have HI := Lib.hid hgen; clear hgen
      go_wp2_with (go_at_call 46; refine (order_any HF.out _ HFS.out.1).mono ?_; rintro e w2 ⟨r, hr, rfl, m, rfl⟩; have hr2 : (r != p - 1) = false := (by rw [bne_eq_false_iff_eq]; exact hr.2 ((isGen_iff HP.out lo HFS.out).2 HI.out)); clear hr)
      go_ret2
      exact .mk _ rfl ((HX.out.trans hxr).trans (Ext.drewN _ _)) ⟨_, G, rfl, ⟨⟨fs, HF.out.drewN _⟩, HI.out, HL.out, hG1, by omega⟩⟩
    · have hGlt : G < g0 := by
        rcases Int.lt_or_eq_of_le hG2 with h | rfl
        · exact h
        · exact absurd HG.out hgen
      have HI := Lib.hid hgen; clear hgen
      go_wp2_with (go_at_call 46; refine (order_any HF.out _ HFS.out.1).mono ?_; rintro e w2 ⟨r, hr, rfl, m, rfl⟩; have hr2 : (r != p - 1) = true := (by rw [bne_iff_ne]; exact fun h => HI.out ((isGen_iff HP.out lo HFS.out).1 (hr.1 h))); clear hr)
      go_roundw
      case rel =>
        obtain ⟨d0, d1, d2, d3, dx⟩ := gen_step (m := m) (Nat.le_refl _) c0 c1 c2 c3 hxr
        exact ⟨G + 1, d0, d1, d2, d3, dx, by omega, by omega, Lib.hid (fun x h1 h2 => by
          rcases Int.lt_or_eq_of_le (show x ≤ G by omega) with h | rfl
          · exact HL.out x h1 h
          · exact HI.out)⟩
      case measure =>
        have e := genAt_eq (gen_step (m := m) (Nat.le_refl _) c0 c1 c2 c3 hxr).2.2.1
        rw [e, HM.out]; omega
end Go.Proofs.YtgnomhbbbcfehaaGreatDoor
/-! A field on both sides: contract. -/
namespace Go.Proofs.YtgnomhbbbcfehaaGreatDoor
open Go.RowKit Go.Att

end Go.Proofs.YtgnomhbbbcfehaaGreatDoor
/-! Lists as elements; whether all of a list are unlike: contracts of the document's side. -/
namespace Go.Att
end Go.Att
namespace Go.Proofs.YtgnomhbbbcfehaaGreatDoor
open Go.RowKit Go.Att

end Go.Proofs.YtgnomhbbbcfehaaGreatDoor
end
section
namespace Go.Proofs.YtgnomhbbbcfehaaGreatDoor
open Go.RowKit Go.Att
theorem prs_shape {w : World} {v : Value} {l : List (Int × Int)} (h : Prs w v l) : ∃ ao cap, v = .slice ao l.length cap := by
  obtain ⟨ao, cap, h1, _⟩ := h; exact ⟨ao, cap, h1⟩
theorem two_boxes (w : World) (xs ys : List Value) (t u : TypeId) : ∃ W, (w.alloc (Obj.cells xs.toArray t)).alloc (Obj.cells ys.toArray u) = W ∧ BlkOf W w.heap.size xs t ∧ BlkOf W (w.heap.size + 1) ys u ∧ Ext w W := by
  refine ⟨_, rfl, (BlkOf.new w xs t).ext (Ext.alloc _ _), ?_, (Ext.alloc _ _).trans (Ext.alloc _ _)⟩
  have := BlkOf.new (w.alloc (Obj.cells xs.toArray t)) ys u
  rwa [show (w.alloc (Obj.cells xs.toArray t)).heap.size = w.heap.size + 1 by simp] at this
theorem plain_bad6 (p : Int) (w : World) (h : ¬ okP p) : Calls Tryz.prog 20 #[.int .i64 p] w fun e w' => e = .returned (.pointer none) ∧ w = w' := by
  have H := Lib.hid h; clear h
  go_enter Tryz.func20, Tryz.ntmps20
  go_wp2_with (go_at_call 21; refine (new_bad _ _ H.out).mono ?_; rintro e w' ⟨rfl, rfl⟩; rw [errv_pos (by decide)])
  go_ret
  exact ⟨rfl, rfl⟩
theorem plain_ok6 (p : Int) (w : World) (h : okP p) : Calls Tryz.prog 20 #[.int .i64 p] w (Gives w fun v w' => ∃ g, FieldOf w' v p g) := by
  have H := Lib.hid h; clear h
  go_enter Tryz.func20, Tryz.ntmps20
  go_wp2_with (go_at_call 21; refine (new_ok _ _ H.out).mono ?_; rintro e w1 ⟨v, rfl, hx, f, g, rfl, hf⟩; obtain ⟨b, rfl⟩ := hf.ptr)
  go_ret
  exact ⟨_, rfl, hx, g, hf⟩
end Go.Proofs.YtgnomhbbbcfehaaGreatDoor
end
