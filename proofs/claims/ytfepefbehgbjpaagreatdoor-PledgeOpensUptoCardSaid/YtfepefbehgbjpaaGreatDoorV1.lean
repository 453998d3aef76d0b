/- What undoes the matrix: contract. -/
import Derived.Test.YtfepefbehgbjpaaGreatDoorZx9
import Derived.Test.YtfepefbehgbjpaaGreatDoorZx12
import Derived.Test.YtfepefbehgbjpaaGreatDoorZx3
import Derived.Test.YtfepefbehgbjpaaGreatDoorZx2
import Derived.Deep.RegionHeld3
import Derived.Deep.MidRow
import Derived.Deep.DrawnRows
namespace Go.Att
open Go.RowKit
theorem Mx.new (w : World) (cs : Array Value) (t : TypeId) (M : Nat → Nat → Int) (h : ∀ r j, r < 8 → j < 8 → cs[r * 8 + j]? = some (.int .i64 (M r j))) : Mx (w.alloc (Obj.cells cs t)) w.heap.size M := fun r j hr hj =>
  ⟨by rw [cell_new]; exact h r j hr hj, by simp⟩
def zeros64 : Array Value := Array.replicate 64 (.int .i64 0)
theorem zeros64_at (r j : Nat) (hr : r < 8) (hj : j < 8) : zeros64[r * 8 + j]? = some (.int .i64 0) := by
  unfold zeros64
  rw [Array.getElem?_replicate, if_pos (by omega)]
def rowV (M : Nat → Nat → Int) (i : Nat) : List Value := (List.range 8).map fun j => .int .i64 (M i j)
theorem rowV_len (M : Nat → Nat → Int) (i : Nat) : (rowV M i).length = 8 := by simp [rowV]
theorem Mx.row {w : World} {b : Nat} {M : Nat → Nat → Int} (h : Mx w b M) {i : Nat} (hi : i < 8) : w.rangeAt b (i * 8) (rowV M i) ∧ w.there b (i * 8) 8 := by
  refine ⟨fun j v hv => ?_, fun j hj => ⟨by rw [(h i j hi hj).1]; rfl, (h i j hi hj).2⟩⟩
  have hj : j < 8 := by have := (List.getElem?_eq_some_iff.1 hv).1; rwa [rowV_len] at this
  rw [(h i j hi hj).1, ← hv]
  simp [rowV, hj]
theorem Mx.setRow {w : World} {b : Nat} {M : Nat → Nat → Int} (h : Mx w b M) {i : Nat} (hi : i < 8) : Mx (w.setCells b (i * 8) (rowV M i)) b M := fun r j hr hj => by
  refine ⟨?_, by rw [World.frozen?_setCells]; exact (h r j hr hj).2⟩
  by_cases e : r = i
  · subst e
    exact World.rangeAt_setCells_same w b (r * 8) (rowV M r) (by rw [rowV_len]; exact (h.row hi).2) j _ (by simp [rowV, hj])
  · rw [World.cell?_setCells_out]
    · exact (h r j hr hj).1
    · intro _ _; rw [rowV_len]; simp; omega
theorem Ext.setCells {w0 : World} {b : Nat} (hb : w0.heap.size ≤ b) : ∀ (vs : List Value) (o : Nat) (w : World), Ext w0 w → Ext w0 (w.setCells b o vs)
  | [], _, _, h => h
  | v :: r, o, _w, h => Ext.setCells hb r (o + 1) _ (Below.setCell h hb v)
theorem Mx.all {w : World} {b : Nat} {M : Nat → Nat → Int} (h : Mx w b M) : w.rangeAt b 0 ((List.range 64).map fun k => .int .i64 (M (k / 8) (k % 8))) ∧ w.there b 0 64 := by
  refine ⟨fun j v hv => ?_, fun j hj => ?_⟩
  · have hj : j < 64 := by have := (List.getElem?_eq_some_iff.1 hv).1; simpa using this
    have := (h (j / 8) (j % 8) (by omega) (by omega)).1
    rw [show j / 8 * 8 + j % 8 = 0 + j by omega] at this
    rw [this, ← hv]; simp [hj]
  · have := h (j / 8) (j % 8) (by omega) (by omega)
    rw [show j / 8 * 8 + j % 8 = 0 + j by omega] at this
    exact ⟨by rw [this.1]; rfl, this.2⟩
theorem Mx.same {w : World} {b r j k : Nat} {M : Nat → Nat → Int} (h : Mx w b M) (hr : r < 8) (hj : j < 8) (hk : k = r * 8 + j) : Mx (w.setCell ⟨b, k, none⟩ (.int .i64 (M r j))) b M := by
  subst hk
  exact (h.set hr hj _).congr fun r' j' _ _ => by unfold upm; split; (rename_i e; rw [e.1, e.2]); rfl
theorem Ext.setC {w0 w : World} {b k : Nat} (h : Ext w0 w) (hb : w0.heap.size ≤ b) (v : Value) : Ext w0 (w.setCell ⟨b, k, none⟩ v) := Below.setCell h hb v
theorem Mx.same0 {w : World} {b r : Nat} {M : Nat → Nat → Int} (h : Mx w b M) (hr : r < 8) : Mx (w.setCell ⟨b, r * 8, none⟩ (.int .i64 (M r 0))) b M := h.same hr (by decide) rfl
theorem Mx.same1 {w : World} {b r : Nat} {M : Nat → Nat → Int} (h : Mx w b M) (hr : r < 8) : Mx (w.setCell ⟨b, r * 8 + 1, none⟩ (.int .i64 (M r 1))) b M := h.same hr (by decide) rfl
theorem Mx.same2 {w : World} {b r : Nat} {M : Nat → Nat → Int} (h : Mx w b M) (hr : r < 8) : Mx (w.setCell ⟨b, r * 8 + 2, none⟩ (.int .i64 (M r 2))) b M := h.same hr (by decide) rfl
theorem Mx.same3 {w : World} {b r : Nat} {M : Nat → Nat → Int} (h : Mx w b M) (hr : r < 8) : Mx (w.setCell ⟨b, r * 8 + 3, none⟩ (.int .i64 (M r 3))) b M := h.same hr (by decide) rfl
theorem Mx.same4 {w : World} {b r : Nat} {M : Nat → Nat → Int} (h : Mx w b M) (hr : r < 8) : Mx (w.setCell ⟨b, r * 8 + 4, none⟩ (.int .i64 (M r 4))) b M := h.same hr (by decide) rfl
theorem Mx.same5 {w : World} {b r : Nat} {M : Nat → Nat → Int} (h : Mx w b M) (hr : r < 8) : Mx (w.setCell ⟨b, r * 8 + 5, none⟩ (.int .i64 (M r 5))) b M := h.same hr (by decide) rfl
theorem Mx.same6 {w : World} {b r : Nat} {M : Nat → Nat → Int} (h : Mx w b M) (hr : r < 8) : Mx (w.setCell ⟨b, r * 8 + 6, none⟩ (.int .i64 (M r 6))) b M := h.same hr (by decide) rfl
theorem Mx.same7 {w : World} {b r : Nat} {M : Nat → Nat → Int} (h : Mx w b M) (hr : r < 8) : Mx (w.setCell ⟨b, r * 8 + 7, none⟩ (.int .i64 (M r 7))) b M := h.same hr (by decide) rfl
theorem Mx.drew {w : World} {b : Nat} {M : Nat → Nat → Int} (h : Mx w b M) : Mx w.drew b M := h.ext (Ext.drew w)
theorem Mx.drewN {w : World} {b : Nat} {M : Nat → Nat → Int} (h : Mx w b M) (n : Nat) : Mx (w.drewN n) b M := h.ext (Ext.drewN w n)
theorem Mx.cells {w : World} {b i : Nat} {M : Nat → Nat → Int} (h : Mx w b M) (hi : i < 8) : w.cell? ⟨b, i * 8, none⟩ = some (.int .i64 (M i 0)) ∧ w.cell? ⟨b, i * 8 + 1, none⟩ = some (.int .i64 (M i 1)) ∧ w.cell? ⟨b, i * 8 + 2, none⟩ = some (.int .i64 (M i 2)) ∧ w.cell? ⟨b, i * 8 + 3, none⟩ = some (.int .i64 (M i 3)) ∧ w.cell? ⟨b, i * 8 + 4, none⟩ = some (.int .i64 (M i 4)) ∧ w.cell? ⟨b, i * 8 + 5, none⟩ = some (.int .i64 (M i 5)) ∧ w.cell? ⟨b, i * 8 + 6, none⟩ = some (.int .i64 (M i 6)) ∧ w.cell? ⟨b, i * 8 + 7, none⟩ = some (.int .i64 (M i 7)) :=
  ⟨(h i 0 hi (by decide)).1, (h i 1 hi (by decide)).1, (h i 2 hi (by decide)).1, (h i 3 hi (by decide)).1, (h i 4 hi (by decide)).1, (h i 5 hi (by decide)).1, (h i 6 hi (by decide)).1, (h i 7 hi (by decide)).1⟩
theorem Mx.free {w : World} {b i : Nat} {M : Nat → Nat → Int} (h : Mx w b M) (hi : i < 8) : w.frozen? ⟨b, i * 8, none⟩ = false ∧ w.frozen? ⟨b, i * 8 + 1, none⟩ = false ∧ w.frozen? ⟨b, i * 8 + 2, none⟩ = false ∧ w.frozen? ⟨b, i * 8 + 3, none⟩ = false ∧ w.frozen? ⟨b, i * 8 + 4, none⟩ = false ∧ w.frozen? ⟨b, i * 8 + 5, none⟩ = false ∧ w.frozen? ⟨b, i * 8 + 6, none⟩ = false ∧ w.frozen? ⟨b, i * 8 + 7, none⟩ = false :=
  ⟨(h i 0 hi (by decide)).2, (h i 1 hi (by decide)).2, (h i 2 hi (by decide)).2, (h i 3 hi (by decide)).2, (h i 4 hi (by decide)).2, (h i 5 hi (by decide)).2, (h i 6 hi (by decide)).2, (h i 7 hi (by decide)).2⟩
def n4 (p q : Int) (i : Nat) (M : Nat → Nat → Int) (j : Nat) : Nat → Nat → Int := fun r c => if r = i ∧ c < j then fmul p (M r c) q else M r c
theorem n4_zero (p q : Int) (i : Nat) (M : Nat → Nat → Int) : n4 p q i M 0 = M := by funext r c; simp [n4]
theorem n4_at (p q : Int) (i : Nat) (M : Nat → Nat → Int) (j : Nat) : n4 p q i M j i j = M i j := by simp [n4]
theorem n4_step (p q : Int) (i : Nat) (M : Nat → Nat → Int) (j : Nat) : upm (n4 p q i M j) i j (fmul p (M i j) q) = n4 p q i M (j + 1) := by
  funext r c
  unfold upm n4
  by_cases h : r = i ∧ c = j
  · obtain ⟨rfl, rfl⟩ := h; simp
  · rw [if_neg h]
    by_cases h2 : r = i ∧ c < j
    · rw [if_pos h2, if_pos ⟨h2.1, by omega⟩]
    · rw [if_neg h2, if_neg (by omega)]
def n6 (p : Int) (i t : Nat) (M : Nat → Nat → Int) (c : Nat) : Nat → Nat → Int := fun r k => if r = t ∧ k < c then fsub p (M r k) (fmul p (M r i) (M i k)) else M r k
theorem n6_zero (p : Int) (i t : Nat) (M : Nat → Nat → Int) : n6 p i t M 0 = M := by funext r c; simp [n6]
theorem n6_at (p : Int) (i t : Nat) (M : Nat → Nat → Int) (c : Nat) : n6 p i t M c t c = M t c := by simp [n6]
theorem n6_piv (p : Int) {i t : Nat} (h : t ≠ i) (M : Nat → Nat → Int) (c k : Nat) : n6 p i t M c i k = M i k := by unfold n6; rw [if_neg (by omega)]
theorem n6_step (p : Int) (i t : Nat) (M : Nat → Nat → Int) (c : Nat) : upm (n6 p i t M c) t c (fsub p (M t c) (fmul p (M t i) (M i c))) = n6 p i t M (c + 1) := by
  funext r k
  unfold upm n6
  by_cases h : r = t ∧ k = c
  · obtain ⟨rfl, rfl⟩ := h; simp
  · rw [if_neg h]
    by_cases h2 : r = t ∧ k < c
    · rw [if_pos h2, if_pos ⟨h2.1, by omega⟩]
    · rw [if_neg h2, if_neg (by omega)]
def n5 (p : Int) (i : Nat) (M : Nat → Nat → Int) (t : Nat) : Nat → Nat → Int := fun r k => if r < t ∧ r ≠ i then fsub p (M r k) (fmul p (M r i) (M i k)) else M r k
theorem n5_zero (p : Int) (i : Nat) (M : Nat → Nat → Int) : n5 p i M 0 = M := by funext r c; simp [n5]
theorem n5_piv (p : Int) (i : Nat) (M : Nat → Nat → Int) (t k : Nat) : n5 p i M t i k = M i k := by simp [n5]
theorem n5_at (p : Int) (i : Nat) (M : Nat → Nat → Int) (t k : Nat) : n5 p i M t t k = M t k := by simp [n5]
theorem n5_skip (p : Int) (i : Nat) (M : Nat → Nat → Int) : n5 p i M (i + 1) = n5 p i M i := by
  funext r c
  unfold n5
  by_cases h : r < i ∧ r ≠ i
  · rw [if_pos h, if_pos ⟨by omega, h.2⟩]
  · rw [if_neg h, if_neg (by omega)]
theorem n5_step (p : Int) {i t : Nat} (h : t ≠ i) (M : Nat → Nat → Int) (r k : Nat) (hk : k < 8) : n6 p i t (n5 p i M t) 8 r k = n5 p i M (t + 1) r k := by
  unfold n6
  by_cases e : r = t
  · subst e
    rw [if_pos ⟨rfl, hk⟩, n5_at, n5_at, n5_piv]
    unfold n5
    rw [if_pos ⟨by omega, h⟩]
  · rw [if_neg (by omega)]
    unfold n5
    by_cases h2 : r < t ∧ r ≠ i
    · rw [if_pos h2, if_pos ⟨by omega, h2.2⟩]
    · rw [if_neg h2, if_neg (by omega)]
theorem left_next {p : Int} (hp : Pr p) (h23 : 23 ≤ p) {M : Nat → Nat → Int} {i : Nat} (hi : i < 8) (h : Left p i M) (hpv : ¬ p ∣ M i i) : Left p (i + 1) (n5 p i (n4 p (finv p (M i i)) i M 8) 8) := by
  refine left_step hp h23 hi h (finv p (M i i)) (by rw [finv_mul hp hpv, one_mod hp.two]) fun r j hr hr8 hj hj8 => ?_
  unfold n5
  rw [if_pos ⟨hr8, by omega⟩]
  unfold n4
  rw [if_neg (show ¬ (r = i ∧ j < 8) by omega), if_neg (show ¬ (r = i ∧ i < 8) by omega), if_pos (⟨rfl, hj8⟩ : i = i ∧ j < 8)]
  simp only [fsub, fmul]
  rw [e_idem, es_r, Int.sub_emod, em_r, ← Int.sub_emod]
end Go.Att
namespace Go.Proofs.YtfepefbehgbjpaaGreatDoor
open Go.RowKit Go.Att

set_option maxRecDepth 100000 in
set_option maxHeartbeats 8000000 in
theorem undone_any {w : World} {f : Value} {p g : Int} {fs : List Int} (hf : Fld w f p g fs) (h23 : 23 ≤ p) (hpr : Pr p) (cs : Array Value) (_hcz : cs.size = 64) (M : Nat → Nat → Int) (hcs : ∀ r j, r < 8 → j < 8 → cs[r * 8 + j]? = some (.int .i64 (M r j))) (hM : ∀ r j : Nat, r < 8 → j < 8 → M r j = finv p ((r : Int) + j + 8)) :
    Calls Tryz.prog 118 #[f, .agg cs] w fun e w' => (∃ ds : Array Value, e = .returned (.agg ds) ∧ ds.size = 64 ∧ ∀ k, k < 64 → ∃ x : Int, ds[k]? = some (.int .i64 x)) ∧ Ext w w' := by
  have C := Lib.hid hf; clear hf
  have HL := Lib.hid (left_start hpr h23 M hM)
  have m1 := Mx.new w cs 110 M hcs
  have hs1 : (w.alloc (Obj.cells cs 110)).heap.size = w.heap.size + 1 := by simp
  have m2 := Mx.new (w.alloc (Obj.cells cs 110)) zeros64 110 (fun _ _ => 0) zeros64_at
  rw [hs1] at m2
  have hs2 : ((w.alloc (Obj.cells cs 110)).alloc (Obj.cells zeros64 110)).heap.size = w.heap.size + 1 + 1 := by simp
  have m3 := Mx.new ((w.alloc (Obj.cells cs 110)).alloc (Obj.cells zeros64 110)) zeros64 110 (fun _ _ => 0) zeros64_at
  rw [hs2] at m3
  have x2 := Ext.alloc (w.alloc (Obj.cells cs 110)) (Obj.cells zeros64 110)
  have x3 := Ext.alloc ((w.alloc (Obj.cells cs 110)).alloc (Obj.cells zeros64 110)) (Obj.cells zeros64 110)
  have hx := ((Ext.alloc w (Obj.cells cs 110)).trans x2).trans x3
  replace m1 := m1.ext (x2.trans x3)
  replace m2 := m2.ext x3
  clear x2 x3 hs1 hs2 hcs hM
  go_enter Tryz.func118, Tryz.ntmps118
  go_wp2
  go_loopw [6, 14] (fun _ x14 wr => ∃ (i : Nat) (O : Nat → Nat → Int), i ≤ 8 ∧ x14 = .int .i64 i ∧ Mx wr w.heap.size M ∧ Mx wr (w.heap.size + 1) (fun _ _ => 0) ∧ Mx wr (w.heap.size + 1 + 1) O ∧ Ext w wr) (fun _ x14 _ => 8 - (intOf x14).toNat)
  case atStart => exact ⟨0, fun _ _ => 0, by omega, rfl, m1, m2, m3, hx⟩
  case round =>
    clear m1 m2 m3 hx
    obtain ⟨i, O, hi, rfl, m1, m2, m3, hx⟩ := hrel
    by_cases hi8 : i < 8
    · have HO := Lib.hid m3
      have k3 := m3 i i hi8 hi8
      go_wp2_with fail
      go_roundw
      case rel => exact ⟨i + 1, upm O i i 1, by omega, by go_num, m1.other (by omega) _, m2.other (by omega) _, HO.out.set hi8 hi8 1, hx.below.setCell (show w.heap.size ≤ w.heap.size + 1 + 1 by omega) _⟩
      case measure => simp [intOf]; omega
    · go_wp2_with fail
      clear hi8 hi
      go_loopw [7, 8, 9, 10, 11, 12, 13, 22] (fun _ _ _ _ _ _ _ x22 wr => ∃ (i : Nat) (M O : Nat → Nat → Int), i ≤ 8 ∧ x22 = .int .i64 i ∧ Hid (Att.Left p i M) ∧ Mx wr w.heap.size M ∧ Mx wr (w.heap.size + 1) (fun _ _ => 0) ∧ Mx wr (w.heap.size + 1 + 1) O ∧ Ext w wr) (fun _ _ _ _ _ _ _ x22 _ => 8 - (intOf x22).toNat)
      case atStart => exact ⟨0, M, O, by omega, rfl, HL, m1, m2, m3, hx⟩
      case round =>
        clear m1 m2 m3 hx HL
        obtain ⟨i, M, O, hi, rfl, HL, m1, m2, m3, hx⟩ := hrel
        have HM1 := Lib.hid m1; have HM2 := Lib.hid m2; have HM3 := Lib.hid m3
        clear m1 m2 m3
        by_cases hi8 : i < 8
        · have hpiv := left_pivot hpr h23 hi8 HL.out
          have hnz : M i i ≠ 0 := fun e => hpiv (by rw [e]; exact Int.dvd_zero _)
          have k0 := HM1.out i i hi8 hi8
          have hnb : (M i i == 0) = false := by rw [beq_eq_false_iff_ne]; exact hnz
          have HNZ := Lib.hid hnz; have HPIV := Lib.hid hpiv
          clear hnz hpiv
          go_wp2_with fail
          go_loopw [8] (fun x8 ws => x8 = .int .i64 i ∧ ws = wr) (fun _ _ => 0)
          case atStart => exact ⟨rfl, rfl⟩
          case round =>
            obtain ⟨rfl, rfl⟩ := hrel
            go_wp2_with fail
            have hi0 : (0 : Int) ≤ (i : Int) := by omega
            have hi88 : (i : Int) < 8 := by omega
            have HX := Lib.hid hx
            clear hx k0
            obtain ⟨a0, a1, a2, a3, a4, a5, a6, a7⟩ := HM1.out.cells hi8
            obtain ⟨f0, f1, f2, f3, f4, f5, f6, f7⟩ := HM1.out.free hi8
            go_region_held3 (fun w' => w'.cell? ⟨w.heap.size, i * 8, none⟩ = some (.int .i64 (M i 0)) ∧ w'.cell? ⟨w.heap.size, i * 8 + 1, none⟩ = some (.int .i64 (M i 1)) ∧ w'.cell? ⟨w.heap.size, i * 8 + 2, none⟩ = some (.int .i64 (M i 2)) ∧ w'.cell? ⟨w.heap.size, i * 8 + 3, none⟩ = some (.int .i64 (M i 3)) ∧ w'.cell? ⟨w.heap.size, i * 8 + 4, none⟩ = some (.int .i64 (M i 4)) ∧ w'.cell? ⟨w.heap.size, i * 8 + 5, none⟩ = some (.int .i64 (M i 5)) ∧ w'.cell? ⟨w.heap.size, i * 8 + 6, none⟩ = some (.int .i64 (M i 6)) ∧ w'.cell? ⟨w.heap.size, i * 8 + 7, none⟩ = some (.int .i64 (M i 7))) ((refine Mx.cells ?_ hi8; (with_reducible (first | exact HM1.out | (refine Mx.drew ?_; repeat (first | exact HM1.out | refine Mx.same0 ?_ hi8 | refine Mx.same1 ?_ hi8 | refine Mx.same2 ?_ hi8 | refine Mx.same3 ?_ hi8 | refine Mx.same4 ?_ hi8 | refine Mx.same5 ?_ hi8 | refine Mx.same6 ?_ hi8 | refine Mx.same7 ?_ hi8)))))) (fail)
            have N1 : Mx (((((((((((((((((wr.setCell ⟨w.heap.size, i * 8, none⟩ (.int .i64 (M i 0))).setCell ⟨w.heap.size, i * 8 + 1, none⟩ (.int .i64 (M i 1))).setCell ⟨w.heap.size, i * 8 + 2, none⟩ (.int .i64 (M i 2))).setCell ⟨w.heap.size, i * 8 + 3, none⟩ (.int .i64 (M i 3))).setCell ⟨w.heap.size, i * 8 + 4, none⟩ (.int .i64 (M i 4))).setCell ⟨w.heap.size, i * 8 + 5, none⟩ (.int .i64 (M i 5))).setCell ⟨w.heap.size, i * 8 + 6, none⟩ (.int .i64 (M i 6))).setCell ⟨w.heap.size, i * 8 + 7, none⟩ (.int .i64 (M i 7))).setCell ⟨w.heap.size, i * 8, none⟩ (.int .i64 (M i 0))).setCell ⟨w.heap.size, i * 8 + 1, none⟩ (.int .i64 (M i 1))).setCell ⟨w.heap.size, i * 8 + 2, none⟩ (.int .i64 (M i 2))).setCell ⟨w.heap.size, i * 8 + 3, none⟩ (.int .i64 (M i 3))).setCell ⟨w.heap.size, i * 8 + 4, none⟩ (.int .i64 (M i 4))).setCell ⟨w.heap.size, i * 8 + 5, none⟩ (.int .i64 (M i 5))).setCell ⟨w.heap.size, i * 8 + 6, none⟩ (.int .i64 (M i 6))).setCell ⟨w.heap.size, i * 8 + 7, none⟩ (.int .i64 (M i 7))).drew) w.heap.size M := by with_reducible (refine Mx.drew ?_; repeat (first | exact HM1.out | refine Mx.same0 ?_ hi8 | refine Mx.same1 ?_ hi8 | refine Mx.same2 ?_ hi8 | refine Mx.same3 ?_ hi8 | refine Mx.same4 ?_ hi8 | refine Mx.same5 ?_ hi8 | refine Mx.same6 ?_ hi8 | refine Mx.same7 ?_ hi8))
            have N2 : Mx (((((((((((((((((wr.setCell ⟨w.heap.size, i * 8, none⟩ (.int .i64 (M i 0))).setCell ⟨w.heap.size, i * 8 + 1, none⟩ (.int .i64 (M i 1))).setCell ⟨w.heap.size, i * 8 + 2, none⟩ (.int .i64 (M i 2))).setCell ⟨w.heap.size, i * 8 + 3, none⟩ (.int .i64 (M i 3))).setCell ⟨w.heap.size, i * 8 + 4, none⟩ (.int .i64 (M i 4))).setCell ⟨w.heap.size, i * 8 + 5, none⟩ (.int .i64 (M i 5))).setCell ⟨w.heap.size, i * 8 + 6, none⟩ (.int .i64 (M i 6))).setCell ⟨w.heap.size, i * 8 + 7, none⟩ (.int .i64 (M i 7))).setCell ⟨w.heap.size, i * 8, none⟩ (.int .i64 (M i 0))).setCell ⟨w.heap.size, i * 8 + 1, none⟩ (.int .i64 (M i 1))).setCell ⟨w.heap.size, i * 8 + 2, none⟩ (.int .i64 (M i 2))).setCell ⟨w.heap.size, i * 8 + 3, none⟩ (.int .i64 (M i 3))).setCell ⟨w.heap.size, i * 8 + 4, none⟩ (.int .i64 (M i 4))).setCell ⟨w.heap.size, i * 8 + 5, none⟩ (.int .i64 (M i 5))).setCell ⟨w.heap.size, i * 8 + 6, none⟩ (.int .i64 (M i 6))).setCell ⟨w.heap.size, i * 8 + 7, none⟩ (.int .i64 (M i 7))).drew) (w.heap.size + 1) (fun _ _ => 0) := by with_reducible (refine Mx.drew ?_; repeat (first | exact HM2.out | refine Mx.other ?_ (by omega) _))
            have N3 : Mx (((((((((((((((((wr.setCell ⟨w.heap.size, i * 8, none⟩ (.int .i64 (M i 0))).setCell ⟨w.heap.size, i * 8 + 1, none⟩ (.int .i64 (M i 1))).setCell ⟨w.heap.size, i * 8 + 2, none⟩ (.int .i64 (M i 2))).setCell ⟨w.heap.size, i * 8 + 3, none⟩ (.int .i64 (M i 3))).setCell ⟨w.heap.size, i * 8 + 4, none⟩ (.int .i64 (M i 4))).setCell ⟨w.heap.size, i * 8 + 5, none⟩ (.int .i64 (M i 5))).setCell ⟨w.heap.size, i * 8 + 6, none⟩ (.int .i64 (M i 6))).setCell ⟨w.heap.size, i * 8 + 7, none⟩ (.int .i64 (M i 7))).setCell ⟨w.heap.size, i * 8, none⟩ (.int .i64 (M i 0))).setCell ⟨w.heap.size, i * 8 + 1, none⟩ (.int .i64 (M i 1))).setCell ⟨w.heap.size, i * 8 + 2, none⟩ (.int .i64 (M i 2))).setCell ⟨w.heap.size, i * 8 + 3, none⟩ (.int .i64 (M i 3))).setCell ⟨w.heap.size, i * 8 + 4, none⟩ (.int .i64 (M i 4))).setCell ⟨w.heap.size, i * 8 + 5, none⟩ (.int .i64 (M i 5))).setCell ⟨w.heap.size, i * 8 + 6, none⟩ (.int .i64 (M i 6))).setCell ⟨w.heap.size, i * 8 + 7, none⟩ (.int .i64 (M i 7))).drew) (w.heap.size + 1 + 1) O := by with_reducible (refine Mx.drew ?_; repeat (first | exact HM3.out | refine Mx.other ?_ (by omega) _))
            have N4 : Ext w (((((((((((((((((wr.setCell ⟨w.heap.size, i * 8, none⟩ (.int .i64 (M i 0))).setCell ⟨w.heap.size, i * 8 + 1, none⟩ (.int .i64 (M i 1))).setCell ⟨w.heap.size, i * 8 + 2, none⟩ (.int .i64 (M i 2))).setCell ⟨w.heap.size, i * 8 + 3, none⟩ (.int .i64 (M i 3))).setCell ⟨w.heap.size, i * 8 + 4, none⟩ (.int .i64 (M i 4))).setCell ⟨w.heap.size, i * 8 + 5, none⟩ (.int .i64 (M i 5))).setCell ⟨w.heap.size, i * 8 + 6, none⟩ (.int .i64 (M i 6))).setCell ⟨w.heap.size, i * 8 + 7, none⟩ (.int .i64 (M i 7))).setCell ⟨w.heap.size, i * 8, none⟩ (.int .i64 (M i 0))).setCell ⟨w.heap.size, i * 8 + 1, none⟩ (.int .i64 (M i 1))).setCell ⟨w.heap.size, i * 8 + 2, none⟩ (.int .i64 (M i 2))).setCell ⟨w.heap.size, i * 8 + 3, none⟩ (.int .i64 (M i 3))).setCell ⟨w.heap.size, i * 8 + 4, none⟩ (.int .i64 (M i 4))).setCell ⟨w.heap.size, i * 8 + 5, none⟩ (.int .i64 (M i 5))).setCell ⟨w.heap.size, i * 8 + 6, none⟩ (.int .i64 (M i 6))).setCell ⟨w.heap.size, i * 8 + 7, none⟩ (.int .i64 (M i 7))).drew) := by with_reducible (refine Ext.trans ?_ (Ext.drew _); repeat (first | exact HX.out | refine Ext.setC ?_ (by omega) _))
            clear HX HM1 HM2 HM3
            generalize ((((((((((((((((wr.setCell ⟨w.heap.size, i * 8, none⟩ (.int .i64 (M i 0))).setCell ⟨w.heap.size, i * 8 + 1, none⟩ (.int .i64 (M i 1))).setCell ⟨w.heap.size, i * 8 + 2, none⟩ (.int .i64 (M i 2))).setCell ⟨w.heap.size, i * 8 + 3, none⟩ (.int .i64 (M i 3))).setCell ⟨w.heap.size, i * 8 + 4, none⟩ (.int .i64 (M i 4))).setCell ⟨w.heap.size, i * 8 + 5, none⟩ (.int .i64 (M i 5))).setCell ⟨w.heap.size, i * 8 + 6, none⟩ (.int .i64 (M i 6))).setCell ⟨w.heap.size, i * 8 + 7, none⟩ (.int .i64 (M i 7))).setCell ⟨w.heap.size, i * 8, none⟩ (.int .i64 (M i 0))).setCell ⟨w.heap.size, i * 8 + 1, none⟩ (.int .i64 (M i 1))).setCell ⟨w.heap.size, i * 8 + 2, none⟩ (.int .i64 (M i 2))).setCell ⟨w.heap.size, i * 8 + 3, none⟩ (.int .i64 (M i 3))).setCell ⟨w.heap.size, i * 8 + 4, none⟩ (.int .i64 (M i 4))).setCell ⟨w.heap.size, i * 8 + 5, none⟩ (.int .i64 (M i 5))).setCell ⟨w.heap.size, i * 8 + 6, none⟩ (.int .i64 (M i 6))).setCell ⟨w.heap.size, i * 8 + 7, none⟩ (.int .i64 (M i 7))).drew = wa at *
            have HX := Lib.hid N4; have HM1 := Lib.hid N1; have HM2 := Lib.hid N2; have HM3 := Lib.hid N3
            clear N1 N2 N3 N4 a0 a1 a2 a3 a4 a5 a6 a7 f0 f1 f2 f3 f4 f5 f6 f7
            go_wp2_with fail
            obtain ⟨a0, a1, a2, a3, a4, a5, a6, a7⟩ := HM3.out.cells hi8
            obtain ⟨f0, f1, f2, f3, f4, f5, f6, f7⟩ := HM3.out.free hi8
            go_region_held3 (fun w' => w'.cell? ⟨(w.heap.size + 1 + 1), i * 8, none⟩ = some (.int .i64 (O i 0)) ∧ w'.cell? ⟨(w.heap.size + 1 + 1), i * 8 + 1, none⟩ = some (.int .i64 (O i 1)) ∧ w'.cell? ⟨(w.heap.size + 1 + 1), i * 8 + 2, none⟩ = some (.int .i64 (O i 2)) ∧ w'.cell? ⟨(w.heap.size + 1 + 1), i * 8 + 3, none⟩ = some (.int .i64 (O i 3)) ∧ w'.cell? ⟨(w.heap.size + 1 + 1), i * 8 + 4, none⟩ = some (.int .i64 (O i 4)) ∧ w'.cell? ⟨(w.heap.size + 1 + 1), i * 8 + 5, none⟩ = some (.int .i64 (O i 5)) ∧ w'.cell? ⟨(w.heap.size + 1 + 1), i * 8 + 6, none⟩ = some (.int .i64 (O i 6)) ∧ w'.cell? ⟨(w.heap.size + 1 + 1), i * 8 + 7, none⟩ = some (.int .i64 (O i 7))) ((refine Mx.cells ?_ hi8; (with_reducible (first | exact HM3.out | (refine Mx.drew ?_; repeat (first | exact HM3.out | refine Mx.same0 ?_ hi8 | refine Mx.same1 ?_ hi8 | refine Mx.same2 ?_ hi8 | refine Mx.same3 ?_ hi8 | refine Mx.same4 ?_ hi8 | refine Mx.same5 ?_ hi8 | refine Mx.same6 ?_ hi8 | refine Mx.same7 ?_ hi8)))))) (fail)
            have N1 : Mx (((((((((((((((((wa.setCell ⟨(w.heap.size + 1 + 1), i * 8, none⟩ (.int .i64 (O i 0))).setCell ⟨(w.heap.size + 1 + 1), i * 8 + 1, none⟩ (.int .i64 (O i 1))).setCell ⟨(w.heap.size + 1 + 1), i * 8 + 2, none⟩ (.int .i64 (O i 2))).setCell ⟨(w.heap.size + 1 + 1), i * 8 + 3, none⟩ (.int .i64 (O i 3))).setCell ⟨(w.heap.size + 1 + 1), i * 8 + 4, none⟩ (.int .i64 (O i 4))).setCell ⟨(w.heap.size + 1 + 1), i * 8 + 5, none⟩ (.int .i64 (O i 5))).setCell ⟨(w.heap.size + 1 + 1), i * 8 + 6, none⟩ (.int .i64 (O i 6))).setCell ⟨(w.heap.size + 1 + 1), i * 8 + 7, none⟩ (.int .i64 (O i 7))).setCell ⟨(w.heap.size + 1 + 1), i * 8, none⟩ (.int .i64 (O i 0))).setCell ⟨(w.heap.size + 1 + 1), i * 8 + 1, none⟩ (.int .i64 (O i 1))).setCell ⟨(w.heap.size + 1 + 1), i * 8 + 2, none⟩ (.int .i64 (O i 2))).setCell ⟨(w.heap.size + 1 + 1), i * 8 + 3, none⟩ (.int .i64 (O i 3))).setCell ⟨(w.heap.size + 1 + 1), i * 8 + 4, none⟩ (.int .i64 (O i 4))).setCell ⟨(w.heap.size + 1 + 1), i * 8 + 5, none⟩ (.int .i64 (O i 5))).setCell ⟨(w.heap.size + 1 + 1), i * 8 + 6, none⟩ (.int .i64 (O i 6))).setCell ⟨(w.heap.size + 1 + 1), i * 8 + 7, none⟩ (.int .i64 (O i 7))).drew) (w.heap.size + 1 + 1) O := by with_reducible (refine Mx.drew ?_; repeat (first | exact HM3.out | refine Mx.same0 ?_ hi8 | refine Mx.same1 ?_ hi8 | refine Mx.same2 ?_ hi8 | refine Mx.same3 ?_ hi8 | refine Mx.same4 ?_ hi8 | refine Mx.same5 ?_ hi8 | refine Mx.same6 ?_ hi8 | refine Mx.same7 ?_ hi8))
            have N2 : Mx (((((((((((((((((wa.setCell ⟨(w.heap.size + 1 + 1), i * 8, none⟩ (.int .i64 (O i 0))).setCell ⟨(w.heap.size + 1 + 1), i * 8 + 1, none⟩ (.int .i64 (O i 1))).setCell ⟨(w.heap.size + 1 + 1), i * 8 + 2, none⟩ (.int .i64 (O i 2))).setCell ⟨(w.heap.size + 1 + 1), i * 8 + 3, none⟩ (.int .i64 (O i 3))).setCell ⟨(w.heap.size + 1 + 1), i * 8 + 4, none⟩ (.int .i64 (O i 4))).setCell ⟨(w.heap.size + 1 + 1), i * 8 + 5, none⟩ (.int .i64 (O i 5))).setCell ⟨(w.heap.size + 1 + 1), i * 8 + 6, none⟩ (.int .i64 (O i 6))).setCell ⟨(w.heap.size + 1 + 1), i * 8 + 7, none⟩ (.int .i64 (O i 7))).setCell ⟨(w.heap.size + 1 + 1), i * 8, none⟩ (.int .i64 (O i 0))).setCell ⟨(w.heap.size + 1 + 1), i * 8 + 1, none⟩ (.int .i64 (O i 1))).setCell ⟨(w.heap.size + 1 + 1), i * 8 + 2, none⟩ (.int .i64 (O i 2))).setCell ⟨(w.heap.size + 1 + 1), i * 8 + 3, none⟩ (.int .i64 (O i 3))).setCell ⟨(w.heap.size + 1 + 1), i * 8 + 4, none⟩ (.int .i64 (O i 4))).setCell ⟨(w.heap.size + 1 + 1), i * 8 + 5, none⟩ (.int .i64 (O i 5))).setCell ⟨(w.heap.size + 1 + 1), i * 8 + 6, none⟩ (.int .i64 (O i 6))).setCell ⟨(w.heap.size + 1 + 1), i * 8 + 7, none⟩ (.int .i64 (O i 7))).drew) w.heap.size M := by with_reducible (refine Mx.drew ?_; repeat (first | exact HM1.out | refine Mx.other ?_ (by omega) _))
            have N3 : Mx (((((((((((((((((wa.setCell ⟨(w.heap.size + 1 + 1), i * 8, none⟩ (.int .i64 (O i 0))).setCell ⟨(w.heap.size + 1 + 1), i * 8 + 1, none⟩ (.int .i64 (O i 1))).setCell ⟨(w.heap.size + 1 + 1), i * 8 + 2, none⟩ (.int .i64 (O i 2))).setCell ⟨(w.heap.size + 1 + 1), i * 8 + 3, none⟩ (.int .i64 (O i 3))).setCell ⟨(w.heap.size + 1 + 1), i * 8 + 4, none⟩ (.int .i64 (O i 4))).setCell ⟨(w.heap.size + 1 + 1), i * 8 + 5, none⟩ (.int .i64 (O i 5))).setCell ⟨(w.heap.size + 1 + 1), i * 8 + 6, none⟩ (.int .i64 (O i 6))).setCell ⟨(w.heap.size + 1 + 1), i * 8 + 7, none⟩ (.int .i64 (O i 7))).setCell ⟨(w.heap.size + 1 + 1), i * 8, none⟩ (.int .i64 (O i 0))).setCell ⟨(w.heap.size + 1 + 1), i * 8 + 1, none⟩ (.int .i64 (O i 1))).setCell ⟨(w.heap.size + 1 + 1), i * 8 + 2, none⟩ (.int .i64 (O i 2))).setCell ⟨(w.heap.size + 1 + 1), i * 8 + 3, none⟩ (.int .i64 (O i 3))).setCell ⟨(w.heap.size + 1 + 1), i * 8 + 4, none⟩ (.int .i64 (O i 4))).setCell ⟨(w.heap.size + 1 + 1), i * 8 + 5, none⟩ (.int .i64 (O i 5))).setCell ⟨(w.heap.size + 1 + 1), i * 8 + 6, none⟩ (.int .i64 (O i 6))).setCell ⟨(w.heap.size + 1 + 1), i * 8 + 7, none⟩ (.int .i64 (O i 7))).drew) (w.heap.size + 1) (fun _ _ => 0) := by with_reducible (refine Mx.drew ?_; repeat (first | exact HM2.out | refine Mx.other ?_ (by omega) _))
            have N4 : Ext w (((((((((((((((((wa.setCell ⟨(w.heap.size + 1 + 1), i * 8, none⟩ (.int .i64 (O i 0))).setCell ⟨(w.heap.size + 1 + 1), i * 8 + 1, none⟩ (.int .i64 (O i 1))).setCell ⟨(w.heap.size + 1 + 1), i * 8 + 2, none⟩ (.int .i64 (O i 2))).setCell ⟨(w.heap.size + 1 + 1), i * 8 + 3, none⟩ (.int .i64 (O i 3))).setCell ⟨(w.heap.size + 1 + 1), i * 8 + 4, none⟩ (.int .i64 (O i 4))).setCell ⟨(w.heap.size + 1 + 1), i * 8 + 5, none⟩ (.int .i64 (O i 5))).setCell ⟨(w.heap.size + 1 + 1), i * 8 + 6, none⟩ (.int .i64 (O i 6))).setCell ⟨(w.heap.size + 1 + 1), i * 8 + 7, none⟩ (.int .i64 (O i 7))).setCell ⟨(w.heap.size + 1 + 1), i * 8, none⟩ (.int .i64 (O i 0))).setCell ⟨(w.heap.size + 1 + 1), i * 8 + 1, none⟩ (.int .i64 (O i 1))).setCell ⟨(w.heap.size + 1 + 1), i * 8 + 2, none⟩ (.int .i64 (O i 2))).setCell ⟨(w.heap.size + 1 + 1), i * 8 + 3, none⟩ (.int .i64 (O i 3))).setCell ⟨(w.heap.size + 1 + 1), i * 8 + 4, none⟩ (.int .i64 (O i 4))).setCell ⟨(w.heap.size + 1 + 1), i * 8 + 5, none⟩ (.int .i64 (O i 5))).setCell ⟨(w.heap.size + 1 + 1), i * 8 + 6, none⟩ (.int .i64 (O i 6))).setCell ⟨(w.heap.size + 1 + 1), i * 8 + 7, none⟩ (.int .i64 (O i 7))).drew) := by with_reducible (refine Ext.trans ?_ (Ext.drew _); repeat (first | exact HX.out | refine Ext.setC ?_ (by omega) _))
            clear HX HM3 HM1 HM2
            generalize ((((((((((((((((wa.setCell ⟨(w.heap.size + 1 + 1), i * 8, none⟩ (.int .i64 (O i 0))).setCell ⟨(w.heap.size + 1 + 1), i * 8 + 1, none⟩ (.int .i64 (O i 1))).setCell ⟨(w.heap.size + 1 + 1), i * 8 + 2, none⟩ (.int .i64 (O i 2))).setCell ⟨(w.heap.size + 1 + 1), i * 8 + 3, none⟩ (.int .i64 (O i 3))).setCell ⟨(w.heap.size + 1 + 1), i * 8 + 4, none⟩ (.int .i64 (O i 4))).setCell ⟨(w.heap.size + 1 + 1), i * 8 + 5, none⟩ (.int .i64 (O i 5))).setCell ⟨(w.heap.size + 1 + 1), i * 8 + 6, none⟩ (.int .i64 (O i 6))).setCell ⟨(w.heap.size + 1 + 1), i * 8 + 7, none⟩ (.int .i64 (O i 7))).setCell ⟨(w.heap.size + 1 + 1), i * 8, none⟩ (.int .i64 (O i 0))).setCell ⟨(w.heap.size + 1 + 1), i * 8 + 1, none⟩ (.int .i64 (O i 1))).setCell ⟨(w.heap.size + 1 + 1), i * 8 + 2, none⟩ (.int .i64 (O i 2))).setCell ⟨(w.heap.size + 1 + 1), i * 8 + 3, none⟩ (.int .i64 (O i 3))).setCell ⟨(w.heap.size + 1 + 1), i * 8 + 4, none⟩ (.int .i64 (O i 4))).setCell ⟨(w.heap.size + 1 + 1), i * 8 + 5, none⟩ (.int .i64 (O i 5))).setCell ⟨(w.heap.size + 1 + 1), i * 8 + 6, none⟩ (.int .i64 (O i 6))).setCell ⟨(w.heap.size + 1 + 1), i * 8 + 7, none⟩ (.int .i64 (O i 7))).drew = wb at *
            have HX := Lib.hid N4; have HM3 := Lib.hid N1; have HM1 := Lib.hid N2; have HM2 := Lib.hid N3
            clear N1 N2 N3 N4 a0 a1 a2 a3 a4 a5 a6 a7 f0 f1 f2 f3 f4 f5 f6 f7
            --HERE
            have k0 := (HM1.out i i hi8 hi8).1
            go_wp2_with (go_at_call 81; refine (inv_any (C.out.ext HX.out) _).mono ?_; rintro e wc hrd; obtain ⟨rfl, hxc⟩ := hrd.ext; clear hrd; replace HM1 := Lib.hid (HM1.out.ext hxc); replace HM2 := Lib.hid (HM2.out.ext hxc); replace HM3 := Lib.hid (HM3.out.ext hxc); replace HX := Lib.hid (HX.out.trans hxc); clear hxc)
            clear k0
            have HLN := Lib.hid (left_next hpr h23 hi8 HL.out HPIV.out)
            clear hnb HNZ HPIV HL
            generalize finv p (M i i) = q at *
            go_loopw [10, 61] (fun _ x61 wr => ∃ (j : Nat) (O : Nat → Nat → Int), j ≤ 8 ∧ x61 = .int .i64 j ∧ Mx wr w.heap.size (n4 p q i M j) ∧ Mx wr (w.heap.size + 1) (fun _ _ => 0) ∧ Mx wr (w.heap.size + 1 + 1) O ∧ Ext w wr) (fun _ x61 _ => 8 - (intOf x61).toNat)
            case atStart => exact ⟨0, O, by omega, rfl, by rw [n4_zero]; exact HM1.out, HM2.out, HM3.out, HX.out⟩
            case round =>
              clear HM1 HM2 HM3 HX
              obtain ⟨j, O, hj, rfl, m1, m2, m3, hx⟩ := hrel
              have HM1 := Lib.hid m1; have HM2 := Lib.hid m2; have HM3 := Lib.hid m3; have HX := Lib.hid hx
              clear m1 m2 m3 hx
              by_cases hj8 : j < 8
              · obtain ⟨a1, f1⟩ := HM1.out i j hi8 hj8
                obtain ⟨a3, f3⟩ := HM3.out i j hi8 hj8
                rw [n4_at] at a1
                have hj0 : (0 : Int) ≤ (j : Int) := by omega
                have hj88 : (j : Int) < 8 := by omega
                go_wp2_with fail
                go_region_with (go_at_call 79; (first | (refine (mul_any (C.out.ext (HX.out.trans (Ext.drew _))) _ _).mono ?_; rintro e w' ⟨rfl, z1, rfl⟩) | (refine (mul_any (C.out.ext (HX.out.trans (Ext.drewN _ _))) _ _).mono ?_; rintro e w' ⟨rfl, z2, rfl⟩)))
                all_goals
                  have N1 : Mx (((wr.drewN (1 + z1 + z2)).setCell ⟨w.heap.size, i * 8 + j, none⟩ (.int .i64 (fmul p (M i j) q))).setCell ⟨w.heap.size + 1 + 1, i * 8 + j, none⟩ (.int .i64 (fmul p (O i j) q))) w.heap.size (n4 p q i M (j + 1)) := by rw [← n4_step]; exact Mx.other ((HM1.out.drewN _).set hi8 hj8 _) (by omega) _
                  have N2 : Mx (((wr.drewN (1 + z1 + z2)).setCell ⟨w.heap.size, i * 8 + j, none⟩ (.int .i64 (fmul p (M i j) q))).setCell ⟨w.heap.size + 1 + 1, i * 8 + j, none⟩ (.int .i64 (fmul p (O i j) q))) (w.heap.size + 1) (fun _ _ => 0) := Mx.other (Mx.other (HM2.out.drewN _) (by omega) _) (by omega) _
                  have N3 : ∃ O', Mx (((wr.drewN (1 + z1 + z2)).setCell ⟨w.heap.size, i * 8 + j, none⟩ (.int .i64 (fmul p (M i j) q))).setCell ⟨w.heap.size + 1 + 1, i * 8 + j, none⟩ (.int .i64 (fmul p (O i j) q))) (w.heap.size + 1 + 1) O' := ⟨_, Mx.set (Mx.other (HM3.out.drewN _) (by omega) _) hi8 hj8 _⟩
                  have N4 : Ext w (((wr.drewN (1 + z1 + z2)).setCell ⟨w.heap.size, i * 8 + j, none⟩ (.int .i64 (fmul p (M i j) q))).setCell ⟨w.heap.size + 1 + 1, i * 8 + j, none⟩ (.int .i64 (fmul p (O i j) q))) := Ext.setC (Ext.setC (HX.out.trans (Ext.drewN _ _)) (Nat.le_refl _) _) (by omega) _
                  clear HM1 HM2 HM3 HX a1 a3 f1 f3
                  generalize (((wr.drewN (1 + z1 + z2)).setCell ⟨w.heap.size, i * 8 + j, none⟩ (.int .i64 (fmul p (M i j) q))).setCell ⟨w.heap.size + 1 + 1, i * 8 + j, none⟩ (.int .i64 (fmul p (O i j) q))) = wd at *
                  obtain ⟨O', N3⟩ := N3
                  have HM1 := Lib.hid N1; have HM2 := Lib.hid N2; have HM3 := Lib.hid N3; have HX := Lib.hid N4
                  clear N1 N2 N3 N4
                  go_wp2_with fail
                  go_roundw
                  case rel => exact ⟨j + 1, O', by omega, by go_num, HM1.out, HM2.out, HM3.out, HX.out⟩
                  case measure => simp [intOf]; omega
              · obtain rfl : j = 8 := by omega
                go_wp2_with fail
                clear hj8 hj
                generalize n4 p q i M 8 = M at *
                go_loopw [11, 12, 13, 89] (fun _ _ _ x89 wr => ∃ (t : Nat) (O : Nat → Nat → Int), t ≤ 8 ∧ x89 = .int .i64 t ∧ Mx wr w.heap.size (n5 p i M t) ∧ Mx wr (w.heap.size + 1) (fun _ _ => 0) ∧ Mx wr (w.heap.size + 1 + 1) O ∧ Ext w wr) (fun _ _ _ x89 _ => 8 - (intOf x89).toNat)
                case atStart => exact ⟨0, O, by omega, rfl, by rw [n5_zero]; exact HM1.out, HM2.out, HM3.out, HX.out⟩
                case round =>
                  clear HM1 HM2 HM3 HX
                  obtain ⟨t, O, ht, rfl, m1, m2, m3, hx⟩ := hrel
                  have HM1 := Lib.hid m1; have HM2 := Lib.hid m2; have HM3 := Lib.hid m3; have HX := Lib.hid hx
                  clear m1 m2 m3 hx
                  by_cases ht8 : t < 8
                  · by_cases hti : t = i
                    · subst hti
                      go_wp2_with fail
                      go_roundw
                      case rel => exact ⟨t + 1, O, by omega, by go_num, by rw [n5_skip]; exact HM1.out, HM2.out, HM3.out, HX.out⟩
                      case measure => simp [intOf]; omega
                    · have htb : ((t : Int) == (i : Int)) = false := by rw [beq_eq_false_iff_ne]; omega
                      obtain ⟨a1, -⟩ := HM1.out t i ht8 hi8
                      rw [n5_at] at a1
                      have HTI := Lib.hid hti
                      clear hti
                      go_wp2_with fail
                      clear a1 htb
                      go_loopw [13, 100] (fun _ x100 wr => ∃ (c : Nat) (O : Nat → Nat → Int), c ≤ 8 ∧ x100 = .int .i64 c ∧ Mx wr w.heap.size (n6 p i t (n5 p i M t) c) ∧ Mx wr (w.heap.size + 1) (fun _ _ => 0) ∧ Mx wr (w.heap.size + 1 + 1) O ∧ Ext w wr) (fun _ x100 _ => 8 - (intOf x100).toNat)
                      case atStart => exact ⟨0, O, by omega, rfl, by rw [n6_zero]; exact HM1.out, HM2.out, HM3.out, HX.out⟩
                      case round =>
                        clear HM1 HM2 HM3 HX
                        obtain ⟨c, O, hc, rfl, m1, m2, m3, hx⟩ := hrel
                        have HM1 := Lib.hid m1; have HM2 := Lib.hid m2; have HM3 := Lib.hid m3; have HX := Lib.hid hx
                        clear m1 m2 m3 hx
                        by_cases hc8 : c < 8
                        · have hc0 : (0 : Int) ≤ (c : Int) := by omega
                          have hc88 : (c : Int) < 8 := by omega
                          have ht0 : (0 : Int) ≤ (t : Int) := by omega
                          have ht88 : (t : Int) < 8 := by omega
                          obtain ⟨a1, f1⟩ := HM1.out t c ht8 hc8
                          obtain ⟨a2, f2⟩ := HM1.out i c hi8 hc8
                          rw [n6_at, n5_at] at a1
                          rw [n6_piv p HTI.out, n5_piv] at a2
                          go_wp2_with fail
                          refine wp_region_quiet_tail 19 (by kernel_rfl) (by kernel_rfl) ?_
                          simp only [List.take_succ_cons, List.take_zero, List.drop_succ_cons, List.drop_zero]
                          repeat (go_big_quiet_step (first | (go_at_call 79; exact mul_q (C.out.ext HX.out) _ _ _) | (go_at_call 82; exact sub_q (C.out.ext HX.out) _ _ _)))
                          refine wpQuiet_nil ?_
                          rintro _ ⟨z1, rfl⟩
                          go_wp2_with fail
                          have N1 : Mx ((wr.drewN z1).setCell ⟨w.heap.size, t * 8 + c, none⟩ (.int .i64 (fsub p (M t c) (fmul p (M t i) (M i c))))) w.heap.size (n6 p i t (n5 p i M t) (c + 1)) := by rw [← n6_step, n5_at, n5_at, n5_piv]; exact (HM1.out.drewN _).set ht8 hc8 _
                          have N2 : Mx ((wr.drewN z1).setCell ⟨w.heap.size, t * 8 + c, none⟩ (.int .i64 (fsub p (M t c) (fmul p (M t i) (M i c))))) (w.heap.size + 1) (fun _ _ => 0) := Mx.other (HM2.out.drewN _) (by omega) _
                          have N3 : Mx ((wr.drewN z1).setCell ⟨w.heap.size, t * 8 + c, none⟩ (.int .i64 (fsub p (M t c) (fmul p (M t i) (M i c))))) (w.heap.size + 1 + 1) O := Mx.other (HM3.out.drewN _) (by omega) _
                          have N4 : Ext w ((wr.drewN z1).setCell ⟨w.heap.size, t * 8 + c, none⟩ (.int .i64 (fsub p (M t c) (fmul p (M t i) (M i c))))) := Ext.setC (HX.out.trans (Ext.drewN _ _)) (Nat.le_refl _) _
                          clear HM1 HM2 HM3 HX a1 a2 f1 f2
                          generalize ((wr.drewN z1).setCell ⟨w.heap.size, t * 8 + c, none⟩ (.int .i64 (fsub p (M t c) (fmul p (M t i) (M i c))))) = wd at *
                          have HM1 := Lib.hid N1; have HM2 := Lib.hid N2; have HM3 := Lib.hid N3; have HX := Lib.hid N4
                          clear N1 N2 N3 N4
                          obtain ⟨a1, f1⟩ := HM3.out t c ht8 hc8
                          obtain ⟨a2, f2⟩ := HM3.out i c hi8 hc8
                          refine wp_region_quiet_tail 19 (by kernel_rfl) (by kernel_rfl) ?_
                          simp only [List.take_succ_cons, List.take_zero, List.drop_succ_cons, List.drop_zero]
                          repeat (go_big_quiet_step (first | (go_at_call 79; exact mul_q (C.out.ext HX.out) _ _ _) | (go_at_call 82; exact sub_q (C.out.ext HX.out) _ _ _)))
                          refine wpQuiet_nil ?_
                          rintro _ ⟨z1, rfl⟩
                          go_wp2_with fail
                          have N1 : Mx ((wd.drewN z1).setCell ⟨w.heap.size + 1 + 1, t * 8 + c, none⟩ (.int .i64 (fsub p (O t c) (fmul p (M t i) (O i c))))) w.heap.size (n6 p i t (n5 p i M t) (c + 1)) := Mx.other (HM1.out.drewN _) (by omega) _
                          have N2 : Mx ((wd.drewN z1).setCell ⟨w.heap.size + 1 + 1, t * 8 + c, none⟩ (.int .i64 (fsub p (O t c) (fmul p (M t i) (O i c))))) (w.heap.size + 1) (fun _ _ => 0) := Mx.other (HM2.out.drewN _) (by omega) _
                          have N3 : ∃ O', Mx ((wd.drewN z1).setCell ⟨w.heap.size + 1 + 1, t * 8 + c, none⟩ (.int .i64 (fsub p (O t c) (fmul p (M t i) (O i c))))) (w.heap.size + 1 + 1) O' := ⟨_, (HM3.out.drewN _).set ht8 hc8 _⟩
                          have N4 : Ext w ((wd.drewN z1).setCell ⟨w.heap.size + 1 + 1, t * 8 + c, none⟩ (.int .i64 (fsub p (O t c) (fmul p (M t i) (O i c))))) := Ext.setC (HX.out.trans (Ext.drewN _ _)) (by omega) _
                          clear HM1 HM2 HM3 HX a1 a2 f1 f2
                          generalize ((wd.drewN z1).setCell ⟨w.heap.size + 1 + 1, t * 8 + c, none⟩ (.int .i64 (fsub p (O t c) (fmul p (M t i) (O i c))))) = we at *
                          obtain ⟨O', N3⟩ := N3
                          have HM1 := Lib.hid N1; have HM2 := Lib.hid N2; have HM3 := Lib.hid N3; have HX := Lib.hid N4
                          clear N1 N2 N3 N4
                          go_roundw
                          case rel => exact ⟨c + 1, O', by omega, by go_num, HM1.out, HM2.out, HM3.out, HX.out⟩
                          case measure => simp [intOf]; omega
                        · obtain rfl : c = 8 := by omega
                          have HM1 := Lib.hid (HM1.out.congr fun r k _ hk => n5_step p HTI.out M r k hk)
                          go_wp2_with fail
                          go_roundw
                          case rel => exact ⟨t + 1, O, by omega, by go_num, HM1.out, HM2.out, HM3.out, HX.out⟩
                          case measure => simp [intOf]; omega
                  · obtain rfl : t = 8 := by omega
                    go_wp2_with fail
                    go_roundw
                    case rel => exact ⟨i + 1, _, O, by omega, by go_num, HLN, HM1.out, HM2.out, HM3.out, HX.out⟩
                    case measure => simp [intOf]; omega
        · have HI8 := Lib.hid hi8
          clear HL
          obtain ⟨r1, t1⟩ := HM3.out.all
          obtain ⟨r2, t2⟩ := HM2.out.all
          have hsz := HM3.out.size
          have HX := Lib.hid hx
          clear hx
          have hinf : (Tryz.prog.info? 110).map (·.size) = some 64 := by kernel_rfl
          have hone : (((List.range 64).map fun k => Value.int .i64 (O (k / 8) (k % 8))).toArray.toList.toArray).all (·.oneCell') = true := all_oneCell_toArray (by intro v hv; simp only [List.mem_map] at hv; obtain ⟨_, _, rfl⟩ := hv; rfl)
          have hln : ((List.range 64).map fun k => Value.int .i64 (O (k / 8) (k % 8))).length = 64 := by simp
          have HA := Lib.hid (show ∀ k, k < 64 → ∃ x : Int, (((List.range 64).map fun k => Value.int .i64 (O (k / 8) (k % 8))).toArray)[k]? = some (.int .i64 x) from fun k hk => ⟨O (k / 8) (k % 8), by simp [hk]⟩)
          generalize ((List.range 64).map fun k => Value.int .i64 (O (k / 8) (k % 8))) = ds at *
          have hu := Tryz.underlying110
          have R1 := Lib.hid r1; have T2 := Lib.hid t2; have HU := Lib.hid hu; have HINF := Lib.hid hinf; have HONE := Lib.hid hone; have HLN := Lib.hid hln
          clear r1 t1 r2 t2 hu hinf hone hln
          go_upto_region 34 with (fail)
          refine wp_region_lit (l := [_, _]) ?_
          refine wpList_load_mid rfl _ _ rfl _ _ rfl ds _ R1.out HU.out rfl (by rw [HLN.out]; exact HINF.out) ?_
          refine wpList_store_mid rfl _ _ _ rfl _ _ ds.toArray rfl rfl (by rw [show ds.toArray.size = 64 by rw [List.size_toArray]; exact HLN.out]; exact T2.out) (by rw [show ds.toArray.size = 64 by rw [List.size_toArray]; exact HLN.out]; exact HINF.out) HONE.out ?_
          have R2 := Lib.hid (World.rangeAt_setCells_same wr (w.heap.size + 1) 0 ds (by rw [HLN.out]; exact T2.out))
          have X2 := Lib.hid (Ext.setCells (show w.heap.size ≤ w.heap.size + 1 by omega) ds 0 _ HX.out)
          generalize wr.setCells (w.heap.size + 1) 0 ds = wz at *
          go_wp2_with fail
          refine bodyPost_ret (v := .agg ds.toArray) ?_ rfl ⟨⟨ds.toArray, rfl, by rw [List.size_toArray]; exact HLN.out, HA.out⟩, X2.out⟩
          have hl := run_loadVar_mid (P := Tryz.prog) wz (w.heap.size + 1) 0 110 ds _ R2.out HU.out rfl (by rw [HLN.out]; exact HINF.out)
          simp [results, Tryz.results118, asAddr, hl]
end Go.Proofs.YtfepefbehgbjpaaGreatDoor
