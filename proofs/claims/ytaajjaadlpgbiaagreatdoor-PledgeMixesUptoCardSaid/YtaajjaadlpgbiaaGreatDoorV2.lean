/- sponge.New: contract. -/
import Derived.Test.YtaajjaadlpgbiaaGreatDoorV1
namespace Go.Att
open Go.RowKit
/-- A matrix of eight rows of eight numbers within a block. -/
def MxO (w : World) (b o : Nat) (M : Nat → Nat → Int) : Prop := ∀ r j, r < 8 → j < 8 → w.cell? ⟨b, o + r * 8 + j, none⟩ = some (.int .i64 (M r j)) ∧ w.frozen? ⟨b, o + r * 8 + j, none⟩ = false
theorem frozen_ext {w w' : World} {a : Addr} {v : Value} (hx : Ext w w') (hc : w.cell? a = some v) : w'.frozen? a = w.frozen? a := World.frozen?_of_block (hx.below.block a.block (World.block_lt_of_cell? w a hc))
theorem MxO.ext {w w' : World} {b o : Nat} {M : Nat → Nat → Int} (h : MxO w b o M) (hx : Ext w w') : MxO w' b o M := fun r j hr hj =>
  ⟨hx.cell (h r j hr hj).1, by rw [frozen_ext hx (h r j hr hj).1]; exact (h r j hr hj).2⟩
theorem MxO.set {w : World} {b o : Nat} {M : Nat → Nat → Int} (h : MxO w b o M) {r j : Nat} (hr : r < 8) (hj : j < 8) (x : Int) : MxO (w.setCell ⟨b, o + r * 8 + j, none⟩ (.int .i64 x)) b o (upm M r j x) := fun r' j' hr' hj' => by
  refine ⟨?_, by rw [World.frozen?_setCell]; exact (h r' j' hr' hj').2⟩
  unfold upm
  by_cases e : r' = r ∧ j' = j
  · obtain ⟨rfl, rfl⟩ := e
    rw [if_pos ⟨rfl, rfl⟩]; exact World.cell?_setCell_same _ _ _ (h _ _ hr hj).1
  · rw [if_neg e, World.cell?_setCell_other _ _ _ _ (by simp; try omega)]; exact (h _ _ hr' hj').1
theorem MxO.low {w : World} {b o k : Nat} {M : Nat → Nat → Int} (h : MxO w b o M) (hk : k < o ∨ o + 64 ≤ k) (v : Value) : MxO (w.setCell ⟨b, k, none⟩ v) b o M := fun r j hr hj =>
  ⟨by rw [World.cell?_setCell_other _ _ _ _ (by simp; try omega)]; exact (h r j hr hj).1, by rw [World.frozen?_setCell]; exact (h r j hr hj).2⟩
/-- A sponge in the making, in block b. -/
structure SpB (w : World) (b : Nat) (f : Value) (k rt : Int) (M : Nat → Nat → Int) : Prop where
  c0 : w.cell? ⟨b, 0, none⟩ = some f
  c1 : w.cell? ⟨b, 1, none⟩ = some (.int .i64 k)
  c2 : w.cell? ⟨b, 2, none⟩ = some (.int .i64 rt)
  f1 : w.frozen? ⟨b, 1, none⟩ = false
  f2 : w.frozen? ⟨b, 2, none⟩ = false
  mx : MxO w b 3 M
  oth : ∀ j, j < 64 → (∃ x : Int, w.cell? ⟨b, 67 + j, none⟩ = some (.int .i64 x)) ∧ w.frozen? ⟨b, 67 + j, none⟩ = false
section
variable {w : World} {b : Nat} {f : Value} {k rt : Int} {M : Nat → Nat → Int}
theorem SpB.ext {w' : World} (h : SpB w b f k rt M) (hx : Ext w w') : SpB w' b f k rt M :=
  ⟨hx.cell h.c0, hx.cell h.c1, hx.cell h.c2, by rw [frozen_ext hx h.c1]; exact h.f1, by rw [frozen_ext hx h.c2]; exact h.f2, h.mx.ext hx, fun j hj => ⟨by obtain ⟨x, hc⟩ := (h.oth j hj).1; exact ⟨x, hx.cell hc⟩, by obtain ⟨x, hc⟩ := (h.oth j hj).1; rw [frozen_ext hx hc]; exact (h.oth j hj).2⟩⟩
theorem SpB.set1 (h : SpB w b f k rt M) (k' : Int) : SpB (w.setCell ⟨b, 1, none⟩ (.int .i64 k')) b f k' rt M :=
  ⟨by rw [World.cell?_setCell_other _ _ _ _ (by simp)]; exact h.c0, World.cell?_setCell_same _ _ _ h.c1, by rw [World.cell?_setCell_other _ _ _ _ (by simp)]; exact h.c2, by rw [World.frozen?_setCell]; exact h.f1, by rw [World.frozen?_setCell]; exact h.f2, h.mx.low (by omega) _, fun j hj => ⟨by rw [World.cell?_setCell_other _ _ _ _ (by simp; try omega)]; exact (h.oth j hj).1, by rw [World.frozen?_setCell]; exact (h.oth j hj).2⟩⟩
theorem SpB.set2 (h : SpB w b f k rt M) (k' : Int) : SpB (w.setCell ⟨b, 2, none⟩ (.int .i64 k')) b f k k' M :=
  ⟨by rw [World.cell?_setCell_other _ _ _ _ (by simp)]; exact h.c0, by rw [World.cell?_setCell_other _ _ _ _ (by simp)]; exact h.c1, World.cell?_setCell_same _ _ _ h.c2, by rw [World.frozen?_setCell]; exact h.f1, by rw [World.frozen?_setCell]; exact h.f2, h.mx.low (by omega) _, fun j hj => ⟨by rw [World.cell?_setCell_other _ _ _ _ (by simp; try omega)]; exact (h.oth j hj).1, by rw [World.frozen?_setCell]; exact (h.oth j hj).2⟩⟩
theorem SpB.setM (h : SpB w b f k rt M) {r j : Nat} (hr : r < 8) (hj : j < 8) (x : Int) : SpB (w.setCell ⟨b, 3 + r * 8 + j, none⟩ (.int .i64 x)) b f k rt (upm M r j x) :=
  ⟨by rw [World.cell?_setCell_other _ _ _ _ (by simp; try omega)]; exact h.c0, by rw [World.cell?_setCell_other _ _ _ _ (by simp; try omega)]; exact h.c1, by rw [World.cell?_setCell_other _ _ _ _ (by simp; try omega)]; exact h.c2, by rw [World.frozen?_setCell]; exact h.f1, by rw [World.frozen?_setCell]; exact h.f2, h.mx.set hr hj x, fun q hq => ⟨by rw [World.cell?_setCell_other _ _ _ _ (by simp; try omega)]; exact (h.oth q hq).1, by rw [World.frozen?_setCell]; exact (h.oth q hq).2⟩⟩
theorem SpB.setO (h : SpB w b f k rt M) {ds : List Value} (hl : ds.length = 64) (hd : ∀ k, k < 64 → ∃ x : Int, ds[k]? = some (.int .i64 x)) : SpB (w.setCells b 67 ds) b f k rt M :=
  ⟨by rw [World.cell?_setCells_out _ _ _ _ _ (fun _ _ => .inl (by simp))]; exact h.c0, by rw [World.cell?_setCells_out _ _ _ _ _ (fun _ _ => .inl (by simp))]; exact h.c1, by rw [World.cell?_setCells_out _ _ _ _ _ (fun _ _ => .inl (by simp))]; exact h.c2, by rw [World.frozen?_setCells]; exact h.f1, by rw [World.frozen?_setCells]; exact h.f2,
    fun r j hr hj => ⟨by rw [World.cell?_setCells_out _ _ _ _ _ (fun _ _ => .inl (by simp; try omega))]; exact (h.mx r j hr hj).1, by rw [World.frozen?_setCells]; exact (h.mx r j hr hj).2⟩,
    fun j hj => ⟨by
      obtain ⟨x, hx⟩ := hd j hj
      exact ⟨x, World.rangeAt_setCells_same w b 67 ds (fun i hi => ⟨by obtain ⟨y, hy⟩ := (h.oth i (by omega)).1; rw [hy]; rfl, (h.oth i (by omega)).2⟩) j _ hx⟩, by rw [World.frozen?_setCells]; exact (h.oth j hj).2⟩⟩
end
/-- The least power that may be. -/
def IsPw (p : Int) (k : Nat) : Prop := 2 ≤ k ∧ Nat.gcd k (p - 1).toNat = 1 ∧ ∀ j, 2 ≤ j → j < k → Nat.gcd j (p - 1).toNat ≠ 1
def NewSp (p : Int) (f v : Value) (w' : World) : Prop := ∃ (b k : Nat) (rt : Int), v = .tuple #[.pointer (some ⟨b, 0, none⟩), .nilIface] ∧ IsPw p k ∧ SpB w' b f k rt (fun r j => finv p ((r : Int) + j + 8))
theorem gcd_last {p : Int} (h : 23 ≤ p) : Nat.gcd (p - 2).toNat (p - 1).toNat = 1 := by
  rw [show (p - 1).toNat = (p - 2).toNat + 1 by omega, Nat.gcd_self_add_right]; simp
theorem zero_at (n k : Nat) (h1 : 1 ≤ k) (h2 : k < n + 1) : (#[Value.pointer none] ++ Array.replicate n (Value.int .i64 0))[k]? = some (.int .i64 0) := by
  have hs : (#[Value.pointer none]).size = 1 := rfl
  rw [Array.getElem?_append_right (by omega), Array.getElem?_replicate, if_pos (by omega)]
theorem SpB.new (w : World) (f : Value) (z : Array Value) (t : TypeId) (hs : z.size = 131) (hz : ∀ k, 1 ≤ k → k < 131 → z[k]? = some (.int .i64 0)) : SpB (w.alloc (Obj.cells ((z.setIfInBounds 0 f).setIfInBounds 1 (.int .i64 2)) t)) w.heap.size f 2 0 (fun _ _ => 0) := by
  have hc : ∀ k, 2 ≤ k → k < 131 → (w.alloc (Obj.cells ((z.setIfInBounds 0 f).setIfInBounds 1 (.int .i64 2)) t)).cell? ⟨w.heap.size, k, none⟩ = some (.int .i64 0) := fun k h1 h2 => by
    rw [cell_new, Array.getElem?_setIfInBounds_ne (by omega), Array.getElem?_setIfInBounds_ne (by omega), hz k (by omega) h2]
  have hf : ∀ k, (w.alloc (Obj.cells ((z.setIfInBounds 0 f).setIfInBounds 1 (.int .i64 2)) t)).frozen? ⟨w.heap.size, k, none⟩ = false := fun k => by simp
  refine ⟨?_, ?_, hc 2 (by omega) (by omega), hf _, hf _, fun r j hr hj => ⟨hc _ (by omega) (by omega), hf _⟩, fun j hj => ⟨⟨0, hc _ (by omega) (by omega)⟩, hf _⟩⟩
  · rw [cell_new, Array.getElem?_setIfInBounds_ne (by omega), Array.getElem?_setIfInBounds_self_of_lt (by omega)]
  · rw [cell_new, Array.getElem?_setIfInBounds_self_of_lt (by simp; omega)]
theorem SpB.congr {w : World} {b : Nat} {f : Value} {k rt : Int} {M M' : Nat → Nat → Int} (h : SpB w b f k rt M) (he : ∀ r j, r < 8 → j < 8 → M r j = M' r j) : SpB w b f k rt M' :=
  ⟨h.c0, h.c1, h.c2, h.f1, h.f2, fun r j hr hj => by rw [← he r j hr hj]; exact h.mx r j hr hj, h.oth⟩
theorem SpB.rows {w : World} {b : Nat} {f : Value} {k rt : Int} {M : Nat → Nat → Int} (h : SpB w b f k rt M) : w.rangeAt b 3 ((List.range 64).map fun k => .int .i64 (M (k / 8) (k % 8))) ∧ w.there b 67 64 := by
  refine ⟨fun j v hv => ?_, fun j hj => ⟨by obtain ⟨x, hx⟩ := (h.oth j hj).1; rw [hx]; rfl, (h.oth j hj).2⟩⟩
  have hj : j < 64 := by have := (List.getElem?_eq_some_iff.1 hv).1; simpa using this
  have := (h.mx (j / 8) (j % 8) (by omega) (by omega)).1
  rw [show 3 + j / 8 * 8 + j % 8 = 3 + j by omega] at this
  rw [this, ← hv]; simp [hj]
/-- The matrix, filled up to a place. -/
def matU (p : Int) (i j : Nat) : Nat → Nat → Int := fun r c => if r < i ∨ (r = i ∧ c < j) then finv p ((r : Int) + c + 8) else 0
theorem matU_zero (p : Int) : matU p 0 0 = fun _ _ => 0 := by funext r c; simp [matU]
theorem matU_step (p : Int) (i j : Nat) : upm (matU p i j) i j (finv p ((i : Int) + j + 8)) = matU p i (j + 1) := by
  funext r c
  unfold upm matU
  by_cases h : r = i ∧ c = j
  · obtain ⟨rfl, rfl⟩ := h; simp
  · rw [if_neg h]
    by_cases h2 : r < i ∨ (r = i ∧ c < j)
    · rw [if_pos h2, if_pos (by omega)]
    · rw [if_neg h2, if_neg (by omega)]
theorem matU_next (p : Int) (i r c : Nat) (hc : c < 8) : matU p i 8 r c = matU p (i + 1) 0 r c := by
  unfold matU
  by_cases h2 : r < i ∨ (r = i ∧ c < 8)
  · rw [if_pos h2, if_pos (by omega)]
  · rw [if_neg h2, if_neg (by omega)]
theorem matU_all (p : Int) (i r c : Nat) (hi : i = 8) (hr : r < 8) (_hc : c < 8) : matU p i 0 r c = finv p ((r : Int) + c + 8) := by
  unfold matU; rw [if_pos (by omega)]
theorem all_of_ints (ds : Array Value) (h : ds.size = 64) (hd : ∀ k, k < 64 → ∃ x : Int, ds[k]? = some (.int .i64 x)) : ds.all (·.oneCell') = true := by
  rw [Array.all_eq_true]
  intro i hi
  obtain ⟨x, hx⟩ := hd i (by omega)
  rw [Array.getElem?_eq_getElem hi] at hx
  rw [Option.some.inj hx]; rfl
/-- The number in a cell. -/
def cellN (w : World) (a : Addr) : Int := match w.cell? a with
  | some (.int _ n) => n
  | _ => 0
theorem cellN_of {w : World} {a : Addr} {k : IntKind} {n : Int} (h : w.cell? a = some (.int k n)) : cellN w a = n := by unfold cellN; rw [h]
end Go.Att
namespace Go.Proofs.YtaajjaadlpgbiaaGreatDoor
open Go.RowKit Go.Att
theorem zeroSp : Tryz.zeroCells74 = #[.pointer none] ++ Array.replicate 130 (.int .i64 0) := by kernel_rfl
theorem zeroSp_size : Tryz.zeroCells74.size = 131 := by kernel_rfl
theorem zeroSp_at (k : Nat) (h1 : 1 ≤ k) (h2 : k < 131) : Tryz.zeroCells74[k]? = some (.int .i64 0) := by rw [zeroSp]; exact zero_at 130 k h1 h2

set_option maxRecDepth 100000 in
set_option maxHeartbeats 4000000 in
theorem snew_bad {w : World} {f : Value} {p g : Int} {fs : List Int} (hf : Fld w f p g fs) (h23 : p < 23) :
    Calls Tryz.prog 46 #[f] w (Rd w (.tuple #[.pointer none, errv 3])) := by
  have C := Lib.hid hf; clear hf
  rw [errv_pos (by decide)]
  go_enter Tryz.func46, Tryz.ntmps46
  go_wp2_with (go_at_call 67; refine (p_any C.out).mono ?_; rintro e w' ⟨rfl, m, rfl⟩)
  go_ret2
  exact ⟨rfl, m, rfl⟩

set_option maxRecDepth 100000 in
set_option maxHeartbeats 4000000 in
theorem snew_ok {w : World} {bf : Nat} {p g : Int} {fs : List Int} (hf : Fld w (.pointer (some ⟨bf, 0, none⟩)) p g fs) (h23 : 23 ≤ p) :
    Calls Tryz.prog 46 #[.pointer (some ⟨bf, 0, none⟩)] w (Gives w (NewSp p (.pointer (some ⟨bf, 0, none⟩)))) := by
  have hpr := hf.pr
  have C := Lib.hid hf; clear hf
  have h23' : ¬ p < 23 := by omega
  have HPR := Lib.hid hpr; clear hpr
  go_enter Tryz.func46, Tryz.ntmps46
  go_wp2_with (go_at_call 67; refine (p_any C.out).mono ?_; rintro e w' hrd; obtain ⟨rfl, hx1⟩ := hrd.ext; clear hrd)
  obtain ⟨m, hm⟩ : ∃ m : Nat, p - 1 = m := ⟨(p - 1).toNat, by omega⟩
  have hmt : (p - 1).toNat = m := by omega
  have hp31 : p ≤ 2147483647 := C.out.hi
  have hw1 : IntKind.i64.wrap (p - 1) = (m : Int) := by rw [← hm]; exact IntWalk.i64_in _ (by omega)
  have hm31 : m ≤ 2147483646 := by omega
  have hm22 : 22 ≤ m := by omega
  have HM := Lib.hid hm; have HMT := Lib.hid hmt
  have HS := Lib.hid (SpB.new w' (.pointer (some ⟨bf, 0, none⟩)) Tryz.zeroCells74 74 zeroSp_size zeroSp_at)
  have hxw := hx1.trans (Ext.alloc w' (Obj.cells ((Tryz.zeroCells74.setIfInBounds 0 (.pointer (some ⟨bf, 0, none⟩))).setIfInBounds 1 (.int .i64 2)) 74))
  have hlb : w.heap.size ≤ w'.heap.size := hx1.size
  clear hm hmt
  generalize hB : w'.heap.size = b at *
  generalize w'.alloc (Obj.cells ((Tryz.zeroCells74.setIfInBounds 0 (.pointer (some ⟨bf, 0, none⟩))).setIfInBounds 1 (.int .i64 2)) 74) = w1 at *
  clear hB hx1 h23'
  go_loopw [22] (fun _ wr => ∃ k : Nat, 2 ≤ k ∧ k + 1 ≤ m ∧ Hid (∀ j, 2 ≤ j → j < k → Nat.gcd j m ≠ 1) ∧ SpB wr b (.pointer (some ⟨bf, 0, none⟩)) k 0 (fun _ _ => 0) ∧ Ext w wr) (fun _ wr => m - (cellN wr ⟨b, 1, none⟩).toNat)
  case atStart => exact ⟨2, by omega, by omega, Lib.hid (fun j h1 h2 => by omega), HS.out, hxw⟩
  case round =>
    clear HS hxw
    obtain ⟨k, hk2, hkm, HL, hs, hx⟩ := hrel
    have c1 := hs.c1
    have f1 := hs.f1
    have HS := Lib.hid hs; have HX := Lib.hid hx
    clear hs hx
    by_cases hg : Nat.gcd k m = 1
    · have hb : (((Nat.gcd k m : Nat) : Int) != 1) = false := by rw [hg]; rfl
      have HG := Lib.hid hg
      clear hg
      go_wp2_with fail
      go_quiet ((first | (go_at_call 67; exact p_q (C.out.ext HX.out) _) | (go_at_call 90; exact Calls.quiet_of (gcd_any k m _ (by omega) (by omega)))))
      replace HS := Lib.hid (HS.out.ext (Ext.drewN wr nq))
      replace HX := Lib.hid (HX.out.trans (Ext.drewN wr nq))
      clear c1 f1 hb
      generalize wr.drewN nq = wa at *
      go_wp2_with fail
      have c1 := HS.out.c1
      have c2 := HS.out.c2
      have f2 := HS.out.f2
      go_region_held3 (fun w' => w'.cell? ⟨b, 1, none⟩ = some (.int .i64 k)) (first | go_keep | (rw [World.cell?_setCell_other _ _ _ _ (by simp)]; go_keep)) (first | (go_at_call 67; (first | refine (p_any (C.out.ext (HX.out.trans (Ext.drew wa)))).mono ?_ | refine (p_any (C.out.ext (HX.out.trans (Ext.drewN wa _)))).mono ?_); rintro e w' ⟨rfl, z1, rfl⟩) | (go_at_call 91; refine (inverse_any k m _ (by omega) (by omega) (by omega)).mono ?_; rintro e w' ⟨⟨rt, rfl⟩, z2, rfl⟩))
      have N1 : SpB ((wa.drewN (1 + z1 + z2)).setCell ⟨b, 2, none⟩ (.int .i64 rt)) b (.pointer (some ⟨bf, 0, none⟩)) k rt (fun _ _ => 0) := (HS.out.ext (Ext.drewN _ _)).set2 rt
      have N2 : Ext w ((wa.drewN (1 + z1 + z2)).setCell ⟨b, 2, none⟩ (.int .i64 rt)) := Ext.setC (HX.out.trans (Ext.drewN _ _)) hlb _
      clear HS HX c1 c2 f2
      generalize (wa.drewN (1 + z1 + z2)).setCell ⟨b, 2, none⟩ (.int .i64 rt) = wb at *
      have HS := Lib.hid N1; have HX := Lib.hid N2
      have HPW := Lib.hid (show IsPw p k from ⟨hk2, by rw [HMT.out]; exact HG.out, by rw [HMT.out]; exact HL.out⟩)
      clear N1 N2 hw1 HL HG
      go_wp2_with fail
      go_loopw [5, 6, 41] (fun _ _ x41 wr => ∃ i : Nat, i ≤ 8 ∧ x41 = .int .i64 i ∧ SpB wr b (.pointer (some ⟨bf, 0, none⟩)) k rt (matU p i 0) ∧ Ext w wr) (fun _ _ x41 _ => 8 - (intOf x41).toNat)
      case atStart => exact ⟨0, by omega, rfl, by rw [matU_zero]; exact HS.out, HX.out⟩
      case round =>
        clear HS HX
        obtain ⟨i, hi, rfl, hs, hx⟩ := hrel
        have HS := Lib.hid hs; have HX := Lib.hid hx
        clear hs hx
        by_cases hi8 : i < 8
        · go_wp2_with fail
          go_loopw [6, 44] (fun _ x44 wr => ∃ j : Nat, j ≤ 8 ∧ x44 = .int .i64 j ∧ SpB wr b (.pointer (some ⟨bf, 0, none⟩)) k rt (matU p i j) ∧ Ext w wr) (fun _ x44 _ => 8 - (intOf x44).toNat)
          case atStart => exact ⟨0, by omega, rfl, HS.out, HX.out⟩
          case round =>
            clear HS HX
            obtain ⟨j, hj, rfl, hs, hx⟩ := hrel
            have HS := Lib.hid hs; have HX := Lib.hid hx
            clear hs hx
            by_cases hj8 : j < 8
            · have hi0 : (0 : Int) ≤ (i : Int) := by omega
              have hi88 : (i : Int) < 8 := by omega
              have hj0 : (0 : Int) ≤ (j : Int) := by omega
              have hj88 : (j : Int) < 8 := by omega
              have hs1 : IntKind.i64.wrap ((i : Int) + j) = (i : Int) + j := IntWalk.i64_in _ (by omega)
              have hs2 : IntKind.i64.wrap ((i : Int) + j + 8) = (i : Int) + j + 8 := IntWalk.i64_in _ (by omega)
              obtain ⟨a1, f1⟩ := HS.out.mx i j hi8 hj8
              go_wp2_with fail
              refine wp_region_quiet_tail 13 (by kernel_rfl) (by kernel_rfl) ?_
              simp only [List.take_succ_cons, List.take_zero, List.drop_succ_cons, List.drop_zero]
              repeat (go_big_quiet_step ((go_at_call 73; exact inv_q (C.out.ext HX.out) _ _)))
              refine wpQuiet_nil ?_
              rintro _ ⟨z1, rfl⟩
              go_wp2_with fail
              have N1 : SpB ((wr.drewN z1).setCell ⟨b, 3 + i * 8 + j, none⟩ (.int .i64 (finv p ((i : Int) + j + 8)))) b (.pointer (some ⟨bf, 0, none⟩)) k rt (matU p i (j + 1)) := by rw [← matU_step]; exact (HS.out.ext (Ext.drewN _ _)).setM hi8 hj8 _
              have N2 : Ext w ((wr.drewN z1).setCell ⟨b, 3 + i * 8 + j, none⟩ (.int .i64 (finv p ((i : Int) + j + 8)))) := Ext.setC (HX.out.trans (Ext.drewN _ _)) hlb _
              clear HS HX a1 f1
              generalize (wr.drewN z1).setCell ⟨b, 3 + i * 8 + j, none⟩ (.int .i64 (finv p ((i : Int) + j + 8))) = wc at *
              go_roundw
              case rel => exact ⟨j + 1, by omega, by go_num, N1, N2⟩
              case measure => simp [intOf]; omega
            · obtain rfl : j = 8 := by omega
              have HS := Lib.hid (HS.out.congr (fun r c hr hc => matU_next p i r c hc))
              go_wp2_with fail
              go_roundw
              case rel => exact ⟨i + 1, by omega, by go_num, HS.out, HX.out⟩
              case measure => simp [intOf]; omega
        · have hi8' : i = 8 := by omega
          have HI8 := Lib.hid hi8'
          clear hi8'
          have HS := Lib.hid (HS.out.congr (fun r c hr hc => matU_all p i r c HI8.out hr hc))
          obtain ⟨r3, t67⟩ := HS.out.rows
          have hinf : (Tryz.prog.info? 72).map (·.size) = some 64 := by kernel_rfl
          have hln : ((List.range 64).map fun k => Value.int .i64 (finv p (((k / 8 : Nat) : Int) + ((k % 8 : Nat) : Int) + 8))).length = 64 := by simp
          have HA := Lib.hid (show ∀ r j, r < 8 → j < 8 → (((List.range 64).map fun k => Value.int .i64 (finv p (((k / 8 : Nat) : Int) + ((k % 8 : Nat) : Int) + 8))).toArray)[r * 8 + j]? = some (.int .i64 ((fun r j : Nat => finv p ((r : Int) + j + 8)) r j)) from fun r j hr hj => by rw [List.getElem?_toArray, List.getElem?_map, List.getElem?_range (by omega)]; simp only [Option.map_some]; rw [show (r * 8 + j) / 8 = r by omega, show (r * 8 + j) % 8 = j by omega])
          generalize ((List.range 64).map fun k => Value.int .i64 (finv p (((k / 8 : Nat) : Int) + ((k % 8 : Nat) : Int) + 8))) = cs at *
          have R3 := Lib.hid r3; have HLN := Lib.hid hln; have HINF := Lib.hid hinf
          clear r3 t67 hln hinf
          go_upto_region 16 with (fail)
          refine wp_region_lit (l := [_, _, _, _, _, _, _, _, _, _]) ?_
          iterate 5 (refine wpList_plain rfl (fun K hK => ?_); go_simp; refine hK _ _ ?_; clear hK K)
          refine wpList_load_mid rfl _ _ rfl b 3 rfl cs _ R3.out Tryz.underlying72 rfl (by rw [HLN.out]; exact HINF.out) ?_
          refine wpList_plain rfl (fun K hK => ?_)
          go_simp
          refine (undone_any (C.out.ext HX.out) h23 HPR.out cs.toArray (by rw [List.size_toArray]; exact HLN.out) (fun r j => finv p ((r : Int) + j + 8)) HA.out (fun r j _ _ => rfl)).mono ?_
          rintro e wd ⟨⟨ds, rfl, hds, hdn⟩, hxd⟩
          refine hK _ _ ?_
          clear hK K
          iterate 2 (refine wpList_plain rfl (fun K hK => ?_); go_simp; refine hK _ _ ?_; clear hK K)
          have HS := HS.out.ext hxd
          refine wpList_store_mid rfl _ _ _ rfl b 67 ds rfl rfl (by rw [hds]; exact HS.rows.2) (by rw [hds]; exact HINF.out) (all_of_ints ds hds hdn) ?_
          have HX2 := Lib.hid (Ext.setCells hlb ds.toList 67 _ (HX.out.trans hxd))
          have HS2 := Lib.hid (HS.setO (ds := ds.toList) (by rw [Array.length_toList]; exact hds) (fun k hk => by rw [Array.getElem?_toList]; exact hdn k hk))
          clear HS hdn hds
          generalize wd.setCells b 67 ds.toList = we at *
          go_wp2_with fail
          go_ret2
          exact .mk _ rfl HX2.out ⟨b, k, rt, rfl, HPW.out, HS2.out⟩
    · have hb : (((Nat.gcd k m : Nat) : Int) != 1) = true := by rw [bne_iff_ne]; omega
      have HG := Lib.hid hg
      clear hg
      go_wp2_with fail
      go_quiet ((first | (go_at_call 67; exact p_q (C.out.ext HX.out) _) | (go_at_call 90; exact Calls.quiet_of (gcd_any k m _ (by omega) (by omega)))))
      have hk1 : k + 2 ≤ m := by
        apply Classical.byContradiction
        intro hc
        have e1 : (k : Int) = p - 2 := by have := HM.out; omega
        have e2 : k = (p - 2).toNat := by omega
        have e3 := gcd_last h23
        rw [HMT.out, ← e2] at e3
        exact HG.out e3
      go_wp2_with fail
      have N1 : SpB ((wr.drewN nq).setCell ⟨b, 1, none⟩ (.int .i64 ((k : Int) + 1))) b (.pointer (some ⟨bf, 0, none⟩)) ((k : Int) + 1) 0 (fun _ _ => 0) := (HS.out.ext (Ext.drewN _ _)).set1 _
      have N2 : Ext w ((wr.drewN nq).setCell ⟨b, 1, none⟩ (.int .i64 ((k : Int) + 1))) := Ext.setC (HX.out.trans (Ext.drewN _ _)) hlb _
      have N3 := cellN_of c1
      have N4 := cellN_of N1.c1
      clear HS HX c1 f1 hb
      generalize (wr.drewN nq).setCell ⟨b, 1, none⟩ (.int .i64 ((k : Int) + 1)) = wc at *
      go_roundw
      case rel => exact ⟨k + 1, by omega, by omega, Lib.hid (fun j h1 h2 => (by by_cases e : j = k; exact e ▸ HG.out; exact HL.out j h1 (by omega))), by exact_mod_cast N1, N2⟩
      case measure => rw [N3, N4]; omega
end Go.Proofs.YtaajjaadlpgbiaaGreatDoor
