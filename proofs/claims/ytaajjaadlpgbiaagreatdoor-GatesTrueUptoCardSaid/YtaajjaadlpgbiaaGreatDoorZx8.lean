/- sponge.New: contract. A sponge on both sides; a sponge and a domain: contracts. The digest of a list, plain: stirring, what stands behind a list, chains. No program in sight. The sponge, the program's side: constants; a matrix times a state: contracts. -/
import Derived.Test.YtaajjaadlpgbiaaGreatDoorV1
import Derived.Test.YtaajjaadlpgbiaaGreatDoorHb
import Derived.Test.YtaajjaadlpgbiaaGreatDoorZx1
section
namespace Go.Att
open Go.RowKit
/-- A matrix of eight rows of eight numbers within a block. -/
def MxO (w : World) (b o : Nat) (M : Nat → Nat → Int) : Prop := ∀ r j, r < 8 → j < 8 → w.cell? ⟨b, o + r * 8 + j, none⟩ = some (.int .i64 (M r j)) ∧ w.frozen? ⟨b, o + r * 8 + j, none⟩ = false
theorem frozen_ext {w w' : World} {a : Addr} {v : Value} (hx : Ext w w') (hc : w.cell? a = some v) : w'.frozen? a = w.frozen? a := World.frozen?_of_block (hx.below.block a.block (World.block_lt_of_cell? w a hc))
theorem MxO.ext {w w' : World} {b o : Nat} {M : Nat → Nat → Int} (h : MxO w b o M) (hx : Ext w w') : MxO w' b o M := fun r j hr hj =>
  ⟨hx.cell (h r j hr hj).1, by rw [frozen_ext hx (h r j hr hj).1]; exact (h r j hr hj).2⟩
theorem MxO.set {w : World} {b o : Nat} {M : Nat → Nat → Int} (h : MxO w b o M) {r j : Nat} (hr : r < 8) (hj : j < 8) (x : Int) : MxO (w.setCell ⟨b, o + r * 8 + j, none⟩ (.int .i64 x)) b o (upm M r j x) := fun r' j' hr' hj' => by
  refine ⟨?_, by rw [World.frozen?_setCell]; exact (h r' j' hr' hj').2⟩
  unfold upm
  by_cases e : r' = r ∧ j' = j
  · obtain ⟨rfl, rfl⟩ := e
    rw [if_pos ⟨rfl, rfl⟩]; exact World.cell?_setCell_same _ _ _ (h _ _ hr hj).1
  · rw [if_neg e, World.cell?_setCell_other _ _ _ _ (by simp; try omega)]; exact (h _ _ hr' hj').1
theorem MxO.low {w : World} {b o k : Nat} {M : Nat → Nat → Int} (h : MxO w b o M) (hk : k < o ∨ o + 64 ≤ k) (v : Value) : MxO (w.setCell ⟨b, k, none⟩ v) b o M := fun r j hr hj =>
  ⟨by rw [World.cell?_setCell_other _ _ _ _ (by simp; try omega)]; exact (h r j hr hj).1, by rw [World.frozen?_setCell]; exact (h r j hr hj).2⟩
/-- A sponge in the making, in block b. -/
structure SpB (w : World) (b : Nat) (f : Value) (k rt : Int) (M : Nat → Nat → Int) : Prop where
  c0 : w.cell? ⟨b, 0, none⟩ = some f
  c1 : w.cell? ⟨b, 1, none⟩ = some (.int .i64 k)
  c2 : w.cell? ⟨b, 2, none⟩ = some (.int .i64 rt)
  f1 : w.frozen? ⟨b, 1, none⟩ = false
  f2 : w.frozen? ⟨b, 2, none⟩ = false
  mx : MxO w b 3 M
  oth : ∀ j, j < 64 → (∃ x : Int, w.cell? ⟨b, 67 + j, none⟩ = some (.int .i64 x)) ∧ w.frozen? ⟨b, 67 + j, none⟩ = false
section
variable {w : World} {b : Nat} {f : Value} {k rt : Int} {M : Nat → Nat → Int}
theorem SpB.ext {w' : World} (h : SpB w b f k rt M) (hx : Ext w w') : SpB w' b f k rt M :=
  ⟨hx.cell h.c0, hx.cell h.c1, hx.cell h.c2, by rw [frozen_ext hx h.c1]; exact h.f1, by rw [frozen_ext hx h.c2]; exact h.f2, h.mx.ext hx, fun j hj => ⟨by obtain ⟨x, hc⟩ := (h.oth j hj).1; exact ⟨x, hx.cell hc⟩, by obtain ⟨x, hc⟩ := (h.oth j hj).1; rw [frozen_ext hx hc]; exact (h.oth j hj).2⟩⟩
theorem SpB.set1 (h : SpB w b f k rt M) (k' : Int) : SpB (w.setCell ⟨b, 1, none⟩ (.int .i64 k')) b f k' rt M :=
  ⟨by rw [World.cell?_setCell_other _ _ _ _ (by simp)]; exact h.c0, World.cell?_setCell_same _ _ _ h.c1, by rw [World.cell?_setCell_other _ _ _ _ (by simp)]; exact h.c2, by rw [World.frozen?_setCell]; exact h.f1, by rw [World.frozen?_setCell]; exact h.f2, h.mx.low (by omega) _, fun j hj => ⟨by rw [World.cell?_setCell_other _ _ _ _ (by simp; try omega)]; exact (h.oth j hj).1, by rw [World.frozen?_setCell]; exact (h.oth j hj).2⟩⟩
theorem SpB.set2 (h : SpB w b f k rt M) (k' : Int) : SpB (w.setCell ⟨b, 2, none⟩ (.int .i64 k')) b f k k' M :=
  ⟨by rw [World.cell?_setCell_other _ _ _ _ (by simp)]; exact h.c0, by rw [World.cell?_setCell_other _ _ _ _ (by simp)]; exact h.c1, World.cell?_setCell_same _ _ _ h.c2, by rw [World.frozen?_setCell]; exact h.f1, by rw [World.frozen?_setCell]; exact h.f2, h.mx.low (by omega) _, fun j hj => ⟨by rw [World.cell?_setCell_other _ _ _ _ (by simp; try omega)]; exact (h.oth j hj).1, by rw [World.frozen?_setCell]; exact (h.oth j hj).2⟩⟩
theorem SpB.setM (h : SpB w b f k rt M) {r j : Nat} (hr : r < 8) (hj : j < 8) (x : Int) : SpB (w.setCell ⟨b, 3 + r * 8 + j, none⟩ (.int .i64 x)) b f k rt (upm M r j x) :=
  ⟨by rw [World.cell?_setCell_other _ _ _ _ (by simp; try omega)]; exact h.c0, by rw [World.cell?_setCell_other _ _ _ _ (by simp; try omega)]; exact h.c1, by rw [World.cell?_setCell_other _ _ _ _ (by simp; try omega)]; exact h.c2, by rw [World.frozen?_setCell]; exact h.f1, by rw [World.frozen?_setCell]; exact h.f2, h.mx.set hr hj x, fun q hq => ⟨by rw [World.cell?_setCell_other _ _ _ _ (by simp; try omega)]; exact (h.oth q hq).1, by rw [World.frozen?_setCell]; exact (h.oth q hq).2⟩⟩
theorem SpB.setO (h : SpB w b f k rt M) {ds : List Value} (hl : ds.length = 64) (hd : ∀ k, k < 64 → ∃ x : Int, ds[k]? = some (.int .i64 x)) : SpB (w.setCells b 67 ds) b f k rt M :=
  ⟨by rw [World.cell?_setCells_out _ _ _ _ _ (fun _ _ => .inl (by simp))]; exact h.c0, by rw [World.cell?_setCells_out _ _ _ _ _ (fun _ _ => .inl (by simp))]; exact h.c1, by rw [World.cell?_setCells_out _ _ _ _ _ (fun _ _ => .inl (by simp))]; exact h.c2, by rw [World.frozen?_setCells]; exact h.f1, by rw [World.frozen?_setCells]; exact h.f2,
    fun r j hr hj => ⟨by rw [World.cell?_setCells_out _ _ _ _ _ (fun _ _ => .inl (by simp; try omega))]; exact (h.mx r j hr hj).1, by rw [World.frozen?_setCells]; exact (h.mx r j hr hj).2⟩,
    fun j hj => ⟨by
      obtain ⟨x, hx⟩ := hd j hj
      exact ⟨x, World.rangeAt_setCells_same w b 67 ds (fun i hi => ⟨by obtain ⟨y, hy⟩ := (h.oth i (by omega)).1; rw [hy]; rfl, (h.oth i (by omega)).2⟩) j _ hx⟩, by rw [World.frozen?_setCells]; exact (h.oth j hj).2⟩⟩
end
/-- The least power that may be. -/
def IsPw (p : Int) (k : Nat) : Prop := 2 ≤ k ∧ Nat.gcd k (p - 1).toNat = 1 ∧ ∀ j, 2 ≤ j → j < k → Nat.gcd j (p - 1).toNat ≠ 1
def NewSp (p : Int) (f v : Value) (w' : World) : Prop := ∃ (b k : Nat) (rt : Int), v = .tuple #[.pointer (some ⟨b, 0, none⟩), .nilIface] ∧ IsPw p k ∧ SpB w' b f k rt (fun r j => finv p ((r : Int) + j + 8))
theorem gcd_last {p : Int} (h : 23 ≤ p) : Nat.gcd (p - 2).toNat (p - 1).toNat = 1 := by
  rw [show (p - 1).toNat = (p - 2).toNat + 1 by omega, Nat.gcd_self_add_right]; simp
theorem zero_at (n k : Nat) (h1 : 1 ≤ k) (h2 : k < n + 1) : (#[Value.pointer none] ++ Array.replicate n (Value.int .i64 0))[k]? = some (.int .i64 0) := by
  have hs : (#[Value.pointer none]).size = 1 := rfl
  rw [Array.getElem?_append_right (by omega), Array.getElem?_replicate, if_pos (by omega)]
theorem SpB.new (w : World) (f : Value) (z : Array Value) (t : TypeId) (hs : z.size = 131) (hz : ∀ k, 1 ≤ k → k < 131 → z[k]? = some (.int .i64 0)) : SpB (w.alloc (Obj.cells ((z.setIfInBounds 0 f).setIfInBounds 1 (.int .i64 2)) t)) w.heap.size f 2 0 (fun _ _ => 0) := by
  have hc : ∀ k, 2 ≤ k → k < 131 → (w.alloc (Obj.cells ((z.setIfInBounds 0 f).setIfInBounds 1 (.int .i64 2)) t)).cell? ⟨w.heap.size, k, none⟩ = some (.int .i64 0) := fun k h1 h2 => by
    rw [cell_new, Array.getElem?_setIfInBounds_ne (by omega), Array.getElem?_setIfInBounds_ne (by omega), hz k (by omega) h2]
  have hf : ∀ k, (w.alloc (Obj.cells ((z.setIfInBounds 0 f).setIfInBounds 1 (.int .i64 2)) t)).frozen? ⟨w.heap.size, k, none⟩ = false := fun k => by simp
  refine ⟨?_, ?_, hc 2 (by omega) (by omega), hf _, hf _, fun r j hr hj => ⟨hc _ (by omega) (by omega), hf _⟩, fun j hj => ⟨⟨0, hc _ (by omega) (by omega)⟩, hf _⟩⟩
  · rw [cell_new, Array.getElem?_setIfInBounds_ne (by omega), Array.getElem?_setIfInBounds_self_of_lt (by omega)]
  · rw [cell_new, Array.getElem?_setIfInBounds_self_of_lt (by simp; omega)]
theorem SpB.congr {w : World} {b : Nat} {f : Value} {k rt : Int} {M M' : Nat → Nat → Int} (h : SpB w b f k rt M) (he : ∀ r j, r < 8 → j < 8 → M r j = M' r j) : SpB w b f k rt M' :=
  ⟨h.c0, h.c1, h.c2, h.f1, h.f2, fun r j hr hj => by rw [← he r j hr hj]; exact h.mx r j hr hj, h.oth⟩
theorem SpB.rows {w : World} {b : Nat} {f : Value} {k rt : Int} {M : Nat → Nat → Int} (h : SpB w b f k rt M) : w.rangeAt b 3 ((List.range 64).map fun k => .int .i64 (M (k / 8) (k % 8))) ∧ w.there b 67 64 := by
  refine ⟨fun j v hv => ?_, fun j hj => ⟨by obtain ⟨x, hx⟩ := (h.oth j hj).1; rw [hx]; rfl, (h.oth j hj).2⟩⟩
  have hj : j < 64 := by have := (List.getElem?_eq_some_iff.1 hv).1; simpa using this
  have := (h.mx (j / 8) (j % 8) (by omega) (by omega)).1
  rw [show 3 + j / 8 * 8 + j % 8 = 3 + j by omega] at this
  rw [this, ← hv]; simp [hj]
/-- The matrix, filled up to a place. -/
def matU (p : Int) (i j : Nat) : Nat → Nat → Int := fun r c => if r < i ∨ (r = i ∧ c < j) then finv p ((r : Int) + c + 8) else 0
theorem matU_zero (p : Int) : matU p 0 0 = fun _ _ => 0 := by funext r c; simp [matU]
theorem matU_step (p : Int) (i j : Nat) : upm (matU p i j) i j (finv p ((i : Int) + j + 8)) = matU p i (j + 1) := by
  funext r c
  unfold upm matU
  by_cases h : r = i ∧ c = j
  · obtain ⟨rfl, rfl⟩ := h; simp
  · rw [if_neg h]
    by_cases h2 : r < i ∨ (r = i ∧ c < j)
    · rw [if_pos h2, if_pos (by omega)]
    · rw [if_neg h2, if_neg (by omega)]
theorem matU_next (p : Int) (i r c : Nat) (hc : c < 8) : matU p i 8 r c = matU p (i + 1) 0 r c := by
  unfold matU
  by_cases h2 : r < i ∨ (r = i ∧ c < 8)
  · rw [if_pos h2, if_pos (by omega)]
  · rw [if_neg h2, if_neg (by omega)]
theorem matU_all (p : Int) (i r c : Nat) (hi : i = 8) (hr : r < 8) (_hc : c < 8) : matU p i 0 r c = finv p ((r : Int) + c + 8) := by
  unfold matU; rw [if_pos (by omega)]
theorem all_of_ints (ds : Array Value) (h : ds.size = 64) (hd : ∀ k, k < 64 → ∃ x : Int, ds[k]? = some (.int .i64 x)) : ds.all (·.oneCell') = true := by
  rw [Array.all_eq_true]
  intro i hi
  obtain ⟨x, hx⟩ := hd i (by omega)
  rw [Array.getElem?_eq_getElem hi] at hx
  rw [Option.some.inj hx]; rfl
/-- The number in a cell. -/
def cellN (w : World) (a : Addr) : Int := match w.cell? a with
  | some (.int _ n) => n
  | _ => 0
theorem cellN_of {w : World} {a : Addr} {k : IntKind} {n : Int} (h : w.cell? a = some (.int k n)) : cellN w a = n := by unfold cellN; rw [h]
end Go.Att
namespace Go.Proofs.YtaajjaadlpgbiaaGreatDoor
open Go.RowKit Go.Att
theorem zeroSp : Tryz.zeroCells74 = #[.pointer none] ++ Array.replicate 130 (.int .i64 0) := by kernel_rfl
theorem zeroSp_size : Tryz.zeroCells74.size = 131 := by kernel_rfl
theorem zeroSp_at (k : Nat) (h1 : 1 ≤ k) (h2 : k < 131) : Tryz.zeroCells74[k]? = some (.int .i64 0) := by rw [zeroSp]; exact zero_at 130 k h1 h2

set_option maxRecDepth 100000 in
set_option maxHeartbeats 4000000 in
theorem snew_bad {w : World} {f : Value} {p g : Int} {fs : List Int} (hf : Fld w f p g fs) (h23 : p < 23) :
    Calls Tryz.prog 46 #[f] w (Rd w (.tuple #[.pointer none, errv 3])) := by
  have C := Lib.hid hf; clear hf
  rw [errv_pos (by decide)]
  go_enter Tryz.func46, Tryz.ntmps46
  go_wp2_with (go_at_call 67; refine (p_any C.out).mono ?_; rintro e w' ⟨rfl, m, rfl⟩)
  go_ret2
  exact ⟨rfl, m, rfl⟩

set_option maxRecDepth 100000 in
set_option maxHeartbeats 4000000 in
theorem snew_ok {w : World} {bf : Nat} {p g : Int} {fs : List Int} (hf : Fld w (.pointer (some ⟨bf, 0, none⟩)) p g fs) (h23 : 23 ≤ p) :
    Calls Tryz.prog 46 #[.pointer (some ⟨bf, 0, none⟩)] w (Gives w (NewSp p (.pointer (some ⟨bf, 0, none⟩)))) := by
  have hpr := hf.pr
  have C := Lib.hid hf; clear hf
  have h23' : ¬ p < 23 := by omega
  have HPR := Lib.hid hpr; clear hpr
  go_enter Tryz.func46, Tryz.ntmps46
  go_wp2_with (go_at_call 67; refine (p_any C.out).mono ?_; rintro e w' hrd; obtain ⟨rfl, hx1⟩ := hrd.ext; clear hrd)
  obtain ⟨m, hm⟩ : ∃ m : Nat, p - 1 = m := ⟨(p - 1).toNat, by omega⟩
  have hmt : (p - 1).toNat = m := by omega
  have hp31 : p ≤ 2147483647 := C.out.hi
  have hw1 : IntKind.i64.wrap (p - 1) = (m : Int) := by rw [← hm]; exact IntWalk.i64_in _ (by omega)
  have hm31 : m ≤ 2147483646 := by omega
  have hm22 : 22 ≤ m := by omega
  have HM := Lib.hid hm; have HMT := Lib.hid hmt
  have HS := Lib.hid (SpB.new w' (.pointer (some ⟨bf, 0, none⟩)) Tryz.zeroCells74 74 zeroSp_size zeroSp_at)
  have hxw := hx1.trans (Ext.alloc w' (Obj.cells ((Tryz.zeroCells74.setIfInBounds 0 (.pointer (some ⟨bf, 0, none⟩))).setIfInBounds 1 (.int .i64 2)) 74))
  have hlb : w.heap.size ≤ w'.heap.size := hx1.size
  clear hm hmt
  generalize hB : w'.heap.size = b at *
  generalize w'.alloc (Obj.cells ((Tryz.zeroCells74.setIfInBounds 0 (.pointer (some ⟨bf, 0, none⟩))).setIfInBounds 1 (.int .i64 2)) 74) = w1 at *
  clear hB hx1 h23'
  go_loopw [22] (fun _ wr => ∃ k : Nat, 2 ≤ k ∧ k + 1 ≤ m ∧ Hid (∀ j, 2 ≤ j → j < k → Nat.gcd j m ≠ 1) ∧ SpB wr b (.pointer (some ⟨bf, 0, none⟩)) k 0 (fun _ _ => 0) ∧ Ext w wr) (fun _ wr => m - (cellN wr ⟨b, 1, none⟩).toNat)
  case atStart => exact ⟨2, by omega, by omega, Lib.hid (fun j h1 h2 => by omega), HS.out, hxw⟩
  case round =>
    clear HS hxw
    obtain ⟨k, hk2, hkm, HL, hs, hx⟩ := hrel
    have c1 := hs.c1
    have f1 := hs.f1
    have HS := Lib.hid hs; have HX := Lib.hid hx
    clear hs hx
    by_cases hg : Nat.gcd k m = 1
    · have hb : (((Nat.gcd k m : Nat) : Int) != 1) = false := by rw [hg]; rfl
      have HG := Lib.hid hg
      clear hg
      go_wp2_with fail
      go_quiet ((first | (go_at_call 67; exact p_q (C.out.ext HX.out) _) | (go_at_call 90; exact Calls.quiet_of (gcd_any k m _ (by omega) (by omega)))))
      replace HS := Lib.hid (HS.out.ext (Ext.drewN wr nq))
      replace HX := Lib.hid (HX.out.trans (Ext.drewN wr nq))
      clear c1 f1 hb
      generalize wr.drewN nq = wa at *
      go_wp2_with fail
      have c1 := HS.out.c1
      have c2 := HS.out.c2
      have f2 := HS.out.f2
      go_region_held3 (fun w' => w'.cell? ⟨b, 1, none⟩ = some (.int .i64 k)) (first | go_keep | (rw [World.cell?_setCell_other _ _ _ _ (by simp)]; go_keep)) (first | (go_at_call 67; (first | refine (p_any (C.out.ext (HX.out.trans (Ext.drew wa)))).mono ?_ | refine (p_any (C.out.ext (HX.out.trans (Ext.drewN wa _)))).mono ?_); rintro e w' ⟨rfl, z1, rfl⟩) | (go_at_call 91; refine (inverse_any k m _ (by omega) (by omega) (by omega)).mono ?_; rintro e w' ⟨⟨rt, rfl⟩, z2, rfl⟩))
      have N1 : SpB ((wa.drewN (1 + z1 + z2)).setCell ⟨b, 2, none⟩ (.int .i64 rt)) b (.pointer (some ⟨bf, 0, none⟩)) k rt (fun _ _ => 0) := (HS.out.ext (Ext.drewN _ _)).set2 rt
      have N2 : Ext w ((wa.drewN (1 + z1 + z2)).setCell ⟨b, 2, none⟩ (.int .i64 rt)) := Ext.setC (HX.out.trans (Ext.drewN _ _)) hlb _
      clear HS HX c1 c2 f2
      generalize (wa.drewN (1 + z1 + z2)).setCell ⟨b, 2, none⟩ (.int .i64 rt) = wb at *
      have HS := Lib.hid N1; have HX := Lib.hid N2
      have HPW := Lib.hid (show IsPw p k from ⟨hk2, by rw [HMT.out]; exact HG.out, by rw [HMT.out]; exact HL.out⟩)
      clear N1 N2 hw1 HL HG
      go_wp2_with fail
      go_loopw [5, 6, 41] (fun _ _ x41 wr => ∃ i : Nat, i ≤ 8 ∧ x41 = .int .i64 i ∧ SpB wr b (.pointer (some ⟨bf, 0, none⟩)) k rt (matU p i 0) ∧ Ext w wr) (fun _ _ x41 _ => 8 - (intOf x41).toNat)
      case atStart => exact ⟨0, by omega, rfl, by rw [matU_zero]; exact HS.out, HX.out⟩
      case round =>
        clear HS HX
        obtain ⟨i, hi, rfl, hs, hx⟩ := hrel
        have HS := Lib.hid hs; have HX := Lib.hid hx
        clear hs hx
        by_cases hi8 : i < 8
        · go_wp2_with fail
          go_loopw [6, 44] (fun _ x44 wr => ∃ j : Nat, j ≤ 8 ∧ x44 = .int .i64 j ∧ SpB wr b (.pointer (some ⟨bf, 0, none⟩)) k rt (matU p i j) ∧ Ext w wr) (fun _ x44 _ => 8 - (intOf x44).toNat)
          case atStart => exact ⟨0, by omega, rfl, HS.out, HX.out⟩
          case round =>
            clear HS HX
            obtain ⟨j, hj, rfl, hs, hx⟩ := hrel
            have HS := Lib.hid hs; have HX := Lib.hid hx
            clear hs hx
            by_cases hj8 : j < 8
            · have hi0 : (0 : Int) ≤ (i : Int) := by omega
              have hi88 : (i : Int) < 8 := by omega
              have hj0 : (0 : Int) ≤ (j : Int) := by omega
              have hj88 : (j : Int) < 8 := by omega
              have hs1 : IntKind.i64.wrap ((i : Int) + j) = (i : Int) + j := IntWalk.i64_in _ (by omega)
              have hs2 : IntKind.i64.wrap ((i : Int) + j + 8) = (i : Int) + j + 8 := IntWalk.i64_in _ (by omega)
              obtain ⟨a1, f1⟩ := HS.out.mx i j hi8 hj8
              go_wp2_with fail
              refine wp_region_quiet_tail 13 (by kernel_rfl) (by kernel_rfl) ?_
              simp only [List.take_succ_cons, List.take_zero, List.drop_succ_cons, List.drop_zero]
              repeat (go_big_quiet_step ((go_at_call 73; exact inv_q (C.out.ext HX.out) _ _)))
              refine wpQuiet_nil ?_
              rintro _ ⟨z1, rfl⟩
              go_wp2_with fail
              have N1 : SpB ((wr.drewN z1).setCell ⟨b, 3 + i * 8 + j, none⟩ (.int .i64 (finv p ((i : Int) + j + 8)))) b (.pointer (some ⟨bf, 0, none⟩)) k rt (matU p i (j + 1)) := by rw [← matU_step]; exact (HS.out.ext (Ext.drewN _ _)).setM hi8 hj8 _
              have N2 : Ext w ((wr.drewN z1).setCell ⟨b, 3 + i * 8 + j, none⟩ (.int .i64 (finv p ((i : Int) + j + 8)))) := Ext.setC (HX.out.trans (Ext.drewN _ _)) hlb _
              clear HS HX a1 f1
              generalize (wr.drewN z1).setCell ⟨b, 3 + i * 8 + j, none⟩ (.int .i64 (finv p ((i : Int) + j + 8))) = wc at *
              go_roundw
              case rel => exact ⟨j + 1, by omega, by go_num, N1, N2⟩
              case measure => simp [intOf]; omega
            · obtain rfl : j = 8 := by omega
              have HS := Lib.hid (HS.out.congr (fun r c hr hc => matU_next p i r c hc))
              go_wp2_with fail
              go_roundw
              case rel => exact ⟨i + 1, by omega, by go_num, HS.out, HX.out⟩
              case measure => simp [intOf]; omega
        · have hi8' : i = 8 := by omega
          have HI8 := Lib.hid hi8'
          clear hi8'
          have HS := Lib.hid (HS.out.congr (fun r c hr hc => matU_all p i r c HI8.out hr hc))
          obtain ⟨r3, t67⟩ := HS.out.rows
          have hinf : (Tryz.prog.info? 72).map (·.size) = some 64 := by kernel_rfl
          have hln : ((List.range 64).map fun k => Value.int .i64 (finv p (((k / 8 : Nat) : Int) + ((k % 8 : Nat) : Int) + 8))).length = 64 := by simp
          have HA := Lib.hid (show ∀ r j, r < 8 → j < 8 → (((List.range 64).map fun k => Value.int .i64 (finv p (((k / 8 : Nat) : Int) + ((k % 8 : Nat) : Int) + 8))).toArray)[r * 8 + j]? = some (.int .i64 ((fun r j : Nat => finv p ((r : Int) + j + 8)) r j)) from fun r j hr hj => by rw [List.getElem?_toArray, List.getElem?_map, List.getElem?_range (by omega)]; simp only [Option.map_some]; rw [show (r * 8 + j) / 8 = r by omega, show (r * 8 + j) % 8 = j by omega])
          generalize ((List.range 64).map fun k => Value.int .i64 (finv p (((k / 8 : Nat) : Int) + ((k % 8 : Nat) : Int) + 8))) = cs at *
          have R3 := Lib.hid r3; have HLN := Lib.hid hln; have HINF := Lib.hid hinf
          clear r3 t67 hln hinf
          go_upto_region 16 with (fail)
          refine wp_region_lit (l := [_, _, _, _, _, _, _, _, _, _]) ?_
          iterate 5 (refine wpList_plain rfl (fun K hK => ?_); go_simp; refine hK _ _ ?_; clear hK K)
          refine wpList_load_mid rfl _ _ rfl b 3 rfl cs _ R3.out Tryz.underlying72 rfl (by rw [HLN.out]; exact HINF.out) ?_
          refine wpList_plain rfl (fun K hK => ?_)
          go_simp
          refine (undone_any (C.out.ext HX.out) h23 HPR.out cs.toArray (by rw [List.size_toArray]; exact HLN.out) (fun r j => finv p ((r : Int) + j + 8)) HA.out (fun r j _ _ => rfl)).mono ?_
          rintro e wd ⟨⟨ds, rfl, hds, hdn⟩, hxd⟩
          refine hK _ _ ?_
          clear hK K
          iterate 2 (refine wpList_plain rfl (fun K hK => ?_); go_simp; refine hK _ _ ?_; clear hK K)
          have HS := HS.out.ext hxd
          refine wpList_store_mid rfl _ _ _ rfl b 67 ds rfl rfl (by rw [hds]; exact HS.rows.2) (by rw [hds]; exact HINF.out) (all_of_ints ds hds hdn) ?_
          have HX2 := Lib.hid (Ext.setCells hlb ds.toList 67 _ (HX.out.trans hxd))
          have HS2 := Lib.hid (HS.setO (ds := ds.toList) (by rw [Array.length_toList]; exact hds) (fun k hk => by rw [Array.getElem?_toList]; exact hdn k hk))
          clear HS hdn hds
          generalize wd.setCells b 67 ds.toList = we at *
          go_wp2_with fail
          go_ret2
          exact .mk _ rfl HX2.out ⟨b, k, rt, rfl, HPW.out, HS2.out⟩
    · have hb : (((Nat.gcd k m : Nat) : Int) != 1) = true := by rw [bne_iff_ne]; omega
      have HG := Lib.hid hg
      clear hg
      go_wp2_with fail
      go_quiet ((first | (go_at_call 67; exact p_q (C.out.ext HX.out) _) | (go_at_call 90; exact Calls.quiet_of (gcd_any k m _ (by omega) (by omega)))))
      have hk1 : k + 2 ≤ m := by
        apply Classical.byContradiction
        intro hc
        have e1 : (k : Int) = p - 2 := by have := HM.out; omega
        have e2 : k = (p - 2).toNat := by omega
        have e3 := gcd_last h23
        rw [HMT.out, ← e2] at e3
        exact HG.out e3
      go_wp2_with fail
      have N1 : SpB ((wr.drewN nq).setCell ⟨b, 1, none⟩ (.int .i64 ((k : Int) + 1))) b (.pointer (some ⟨bf, 0, none⟩)) ((k : Int) + 1) 0 (fun _ _ => 0) := (HS.out.ext (Ext.drewN _ _)).set1 _
      have N2 : Ext w ((wr.drewN nq).setCell ⟨b, 1, none⟩ (.int .i64 ((k : Int) + 1))) := Ext.setC (HX.out.trans (Ext.drewN _ _)) hlb _
      have N3 := cellN_of c1
      have N4 := cellN_of N1.c1
      clear HS HX c1 f1 hb
      generalize (wr.drewN nq).setCell ⟨b, 1, none⟩ (.int .i64 ((k : Int) + 1)) = wc at *
      go_roundw
      case rel => exact ⟨k + 1, by omega, by omega, Lib.hid (fun j h1 h2 => (by by_cases e : j = k; exact e ▸ HG.out; exact HL.out j h1 (by omega))), by exact_mod_cast N1, N2⟩
      case measure => rw [N3, N4]; omega
end Go.Proofs.YtaajjaadlpgbiaaGreatDoor
end
section
namespace Go.Att
open Go.RowKit
/-- A sponge over a field. -/
def SpgOf (w : World) (s f : Value) (p : Int) : Prop := ∃ (b k : Nat) (rt : Int), s = .pointer (some ⟨b, 0, none⟩) ∧ IsPw p k ∧ SpB w b f k rt (fun r j => finv p ((r : Int) + j + 8))
theorem SpgOf.ext {w w' : World} {s f : Value} {p : Int} (h : SpgOf w s f p) (hx : Ext w w') : SpgOf w' s f p := by
  obtain ⟨b, k, rt, h1, h2, h3⟩ := h; exact ⟨b, k, rt, h1, h2, h3.ext hx⟩
theorem SpgOf.ptr {w : World} {s f : Value} {p : Int} (h : SpgOf w s f p) : ∃ b, s = .pointer (some ⟨b, 0, none⟩) ∧ w.cell? ⟨b, 0, none⟩ = some f := by
  obtain ⟨b, k, rt, h1, h2, h3⟩ := h; exact ⟨b, h1, h3.c0⟩
def SpgGot (p : Int) (v : Value) (w' : World) : Prop := ∃ s f g, v = .tuple #[s, .bool true] ∧ SpgOf w' s f p ∧ FieldOf w' f p g
end Go.Att
namespace Go.Proofs.YtaajjaadlpgbiaaGreatDoor
open Go.RowKit Go.Att
/-- When things are there. -/
def okT (p n sh : Int) : Prop := okP p ∧ 23 ≤ p ∧ domErr p n sh = 0
def ThingsGot (p n sh : Int) (v : Value) (w' : World) : Prop := ∃ s f g d, v = .tuple #[s, d, .bool true] ∧ SpgOf w' s f p ∧ FieldOf w' f p g ∧ DomOf w' d f n (fof p sh) (froot p g n)

set_option maxRecDepth 100000 in
set_option maxHeartbeats 1000000 in
theorem sfieldof_any {w : World} {b : Nat} {f : Value} (h : w.cell? ⟨b, 0, none⟩ = some f) : Calls Tryz.prog 7 #[.pointer (some ⟨b, 0, none⟩)] w fun e w' => e = .returned f ∧ w = w' := by
  go_enter Tryz.func7, Tryz.ntmps7
  go_wp2
  go_ret
  exact ⟨rfl, rfl⟩

set_option maxRecDepth 100000 in
set_option maxHeartbeats 1000000 in
theorem sspg_bad (p : Int) (w : World) (h : ¬ okP p) (hg : Hnd w) :
    Calls Tryz.prog 18 #[.int .i64 p] w (Gives w fun v _ => v = .tuple #[.pointer none, .bool true]) := by
  have H := Lib.hid h; have HG := Lib.hid hg; clear h hg
  go_enter Tryz.func18, Tryz.ntmps18
  go_wp2_with (go_at_call 45; refine (sfield_bad _ _ H.out HG.out).mono ?_; rintro e w' ⟨v, rfl, hx, rfl⟩)
  go_ret2
  exact .mk _ rfl hx rfl

set_option maxRecDepth 100000 in
set_option maxHeartbeats 1000000 in
theorem sspg_low (p : Int) (w : World) (h : okP p) (h23 : p < 23) (hg : Hnd w) :
    Calls Tryz.prog 18 #[.int .i64 p] w (Gives w fun v _ => v = .tuple #[.pointer none, .bool true]) := by
  have H := Lib.hid h; have HG := Lib.hid hg; clear h hg
  have hev := errv_pos (k := 3) (by decide)
  have h23' : ¬ 23 ≤ p := by omega
  go_enter Tryz.func18, Tryz.ntmps18
  go_wp2_with (first | (go_at_call 45; refine (sfield_ok _ _ H.out HG.out).mono ?_; rintro e w1 ⟨v, rfl, hx, f, g, rfl, hf⟩; obtain ⟨b, rfl⟩ := hf.ptr; obtain ⟨fs, hfs⟩ := hf.fld; have HF := Lib.hid hfs; clear hf hfs) | (go_at_call 46; refine (snew_bad HF.out h23).mono ?_; rw [hev]; rintro e w2 hrd; obtain ⟨rfl, hx2⟩ := hrd.ext; clear hrd) | (go_at_call 9; rw [← hev]; refine (error_any 3 3 _ (HG.out.ext (hx.trans hx2))).mono ?_; rintro e w3 ⟨rfl, hx3⟩))
  go_ret2
  exact .mk _ rfl ((hx.trans hx2).trans hx3) rfl

set_option maxRecDepth 100000 in
set_option maxHeartbeats 1000000 in
theorem sspg_ok (p : Int) (w : World) (h : okP p) (h23 : 23 ≤ p) (hg : Hnd w) :
    Calls Tryz.prog 18 #[.int .i64 p] w (Gives w (SpgGot p)) := by
  have H := Lib.hid h; have HG := Lib.hid hg; clear h hg
  go_enter Tryz.func18, Tryz.ntmps18
  go_wp2_with (first | (go_at_call 45; refine (sfield_ok _ _ H.out HG.out).mono ?_; rintro e w1 ⟨v, rfl, hx, f, g, rfl, hf⟩; obtain ⟨b, rfl⟩ := hf.ptr; obtain ⟨fs, hfs⟩ := hf.fld; have HF := Lib.hid hfs; have HFO := Lib.hid hf; clear hf hfs) | (go_at_call 46; refine (snew_ok HF.out h23).mono ?_; rintro e w2 ⟨v, rfl, hx2, bs, k, rt, rfl, hpw, hsp⟩; have HPW := Lib.hid hpw; have HSP := Lib.hid hsp; clear hpw hsp) | (go_at_call 9; refine (error_any 0 0 _ (HG.out.ext (hx.trans hx2))).mono ?_; rintro e w3 ⟨rfl, hx3⟩))
  go_ret2
  exact .mk _ rfl ((hx.trans hx2).trans hx3) ⟨_, _, g, rfl, ⟨bs, k, rt, rfl, HPW.out, HSP.out.ext hx3⟩, HFO.out.ext (hx2.trans hx3)⟩

set_option maxRecDepth 100000 in
set_option maxHeartbeats 1000000 in
theorem things_bad (p n sh : Int) (w : World) (h : ¬ okT p n sh) (hg : Hnd w) :
    Calls Tryz.prog 6 #[.int .i64 p, .int .i64 n, .int .i64 sh] w (Gives w fun v _ => v = .tuple #[.pointer none, .pointer none, .bool true]) := by
  have HG := Lib.hid hg; clear hg
  by_cases h1 : okP p
  · have hlo := h1.2.1; have hhi := h1.2.2
    have H := Lib.hid h1
    by_cases h2 : p < 23
    · clear h h1
      go_enter Tryz.func6, Tryz.ntmps6
      go_wp2_with (go_at_call 18; refine (sspg_low _ _ H.out h2 HG.out).mono ?_; rintro e w' ⟨v, rfl, hx, rfl⟩)
      go_ret3
      exact .mk _ rfl hx rfl
    · have h23 : 23 ≤ p := by omega
      have hE : domErr p n sh ≠ 0 := fun e => h ⟨h1, h23, e⟩
      have HE := Lib.hid hE
      have hb : (domErr p n sh != 0) = true := by rw [bne_iff_ne]; exact hE
      have hev := errv_pos hE
      clear h h1 hE h2
      go_enter Tryz.func6, Tryz.ntmps6
      go_wp2_with (first | (go_at_call 18; refine (sspg_ok _ _ H.out h23 HG.out).mono ?_; rintro e w1 ⟨v, rfl, hx, s, f, g, rfl, hs, hf⟩; obtain ⟨bs, rfl, hc⟩ := hs.ptr; obtain ⟨b, rfl⟩ := hf.ptr; obtain ⟨fs, hfs⟩ := hf.fld; have HF := Lib.hid hfs; clear hf hfs hs) | (go_at_call 7; refine (sfieldof_any hc).mono ?_; rintro e w' ⟨rfl, rfl⟩) | (go_at_call 24; refine (dnew_bad HF.out _ _ HE.out).mono ?_; rw [hev]; rintro e w2 hrd; obtain ⟨rfl, hx2⟩ := hrd.ext; clear hrd) | (go_at_call 25; refine (rfault_any _ _ _ _ hlo hhi).mono ?_; rintro e w3 ⟨rfl, rfl⟩) | (go_at_call 9; rw [← hev]; refine (error_any _ _ _ (HG.out.ext (hx.trans hx2))).mono ?_; rintro e w3 ⟨rfl, hx3⟩))
      go_ret3
      exact .mk _ rfl ((hx.trans hx2).trans hx3) (by simp)
  · have H := Lib.hid h1
    clear h h1
    go_enter Tryz.func6, Tryz.ntmps6
    go_wp2_with (go_at_call 18; refine (sspg_bad _ _ H.out HG.out).mono ?_; rintro e w' ⟨v, rfl, hx, rfl⟩)
    go_ret3
    exact .mk _ rfl hx rfl

set_option maxRecDepth 100000 in
set_option maxHeartbeats 1000000 in
theorem things_ok (p n sh : Int) (w : World) (h : okT p n sh) (hg : Hnd w) :
    Calls Tryz.prog 6 #[.int .i64 p, .int .i64 n, .int .i64 sh] w (Gives w (ThingsGot p n sh)) := by
  have HG := Lib.hid hg; clear hg
  obtain ⟨h1, h23, hE⟩ := h
  have hlo := h1.2.1; have hhi := h1.2.2
  have H := Lib.hid h1
  have HE := Lib.hid hE
  have hb : (domErr p n sh != 0) = false := by rw [bne_eq_false_iff_eq]; exact hE
  clear h1 hE
  go_enter Tryz.func6, Tryz.ntmps6
  go_wp2_with (first | (go_at_call 18; refine (sspg_ok _ _ H.out h23 HG.out).mono ?_; rintro e w1 ⟨v, rfl, hx, s, f, g, rfl, hs, hf⟩; obtain ⟨bs, rfl, hc⟩ := hs.ptr; obtain ⟨b, rfl⟩ := hf.ptr; have HF := Lib.hid hf; have HS := Lib.hid hs; clear hf hs) | (go_at_call 7; refine (sfieldof_any hc).mono ?_; rintro e w' ⟨rfl, rfl⟩) | (go_at_call 24; refine (dnew_ok HF.out _ _ HE.out).mono ?_; rintro e w2 ⟨v, rfl, hx2, d, rfl, hd⟩; obtain ⟨bd, rfl⟩ := hd.ptr; have HD := Lib.hid hd; clear hd) | (go_at_call 25; refine (rfault_any _ _ _ _ hlo hhi).mono ?_; rintro e w3 ⟨rfl, rfl⟩) | (go_at_call 9; refine (error_any 0 _ _ (HG.out.ext (hx.trans hx2))).mono ?_; rw [HE.out]; rintro e w3 ⟨rfl, hx3⟩))
  go_ret3
  exact .mk _ rfl ((hx.trans hx2).trans hx3) ⟨_, _, g, _, rfl, HS.out.ext (hx2.trans hx3), HF.out.ext (hx2.trans hx3), HD.out.ext hx3⟩
end Go.Proofs.YtaajjaadlpgbiaaGreatDoor
end
section
namespace Go.Att
/-- A sum of the first terms. -/
def dotP (p : Int) (f : Nat → Int) : Nat → Int
  | 0 => 0
  | j + 1 => fadd p (dotP p f j) (f j)
theorem dotP_congr {p : Int} {f g : Nat → Int} : ∀ {n : Nat}, (∀ j, j < n → f j = g j) → dotP p f n = dotP p g n := by
  intro n
  induction n with
  | zero => intro _; rfl
  | succ n ih => intro h; rw [dotP, dotP, ih (fun j hj => h j (by omega)), h n (by omega)]
/-- A state times the matrix. -/
def mixT (p : Int) (x : List Int) : List Int := (List.range 8).map fun (i : Nat) => dotP p (fun j => fmul p (finv p ((i : Int) + j + 8)) (nth x j)) 8
/-- What is added in a round. -/
def cstP (p : Int) (r i : Nat) : Int := fadd p (fpow p (8 * (r : Int) + i + 1) 5) 3
def powP (p : Int) (k r : Nat) (x : List Int) : List Int := (List.range 8).map fun i => fpow p (fadd p (nth x i) (cstP p r i)) k
/-- So many rounds. -/
def permP (p : Int) (k : Nat) (x : List Int) : Nat → List Int
  | 0 => x
  | r + 1 => mixT p (powP p k r (permP p k x r))
theorem mixT_length (p : Int) (x : List Int) : (mixT p x).length = 8 := by simp [mixT]
theorem powP_length (p : Int) (k r : Nat) (x : List Int) : (powP p k r x).length = 8 := by simp [powP]
theorem permP_length (p : Int) (k : Nat) {x : List Int} (h : x.length = 8) (r : Nat) : (permP p k x r).length = 8 := by
  cases r with
  | zero => exact h
  | succ r => exact mixT_length _ _
theorem mixT_nth (p : Int) (x : List Int) {i : Nat} (h : i < 8) : nth (mixT p x) i = dotP p (fun j => fmul p (finv p ((i : Int) + j + 8)) (nth x j)) 8 := by
  rw [nth_eq (by rw [mixT_length]; exact h)]; simp [mixT]
theorem powP_nth (p : Int) (k r : Nat) (x : List Int) {i : Nat} (h : i < 8) : nth (powP p k r x) i = fpow p (fadd p (nth x i) (cstP p r i)) k := by
  rw [nth_eq (by rw [powP_length]; exact h)]; simp [powP]
/-- How many zeros stand behind a list of this length and its 1. -/
def padN (n : Nat) : Nat := (3 - n % 4)
/-- A list with what stands behind it. -/
def padP (p : Int) (l : List Int) : List Int := l.map (fof p) ++ 1 :: List.replicate (padN l.length) 0
theorem padP_length (p : Int) (l : List Int) : (padP p l).length = l.length + 1 + padN l.length := by simp [padP]; omega
theorem padP_four (p : Int) (l : List Int) : (padP p l).length % 4 = 0 := by rw [padP_length]; unfold padN; omega
/-- The parts of four that were taken in. -/
def absP (p : Int) (m : List Int) (c : Nat) (x : List Int) : List Int := (List.range 8).map fun i => if i < 4 then fadd p (nth x i) (nth m (4 * c + i)) else nth x i
def hashS (p : Int) (k : Nat) (m : List Int) : Nat → List Int
  | 0 => List.replicate 8 0
  | c + 1 => permP p k (absP p m c (hashS p k m c)) 8
def hashP (p : Int) (k : Nat) (l : List Int) : List Int := (hashS p k (padP p l) ((padP p l).length / 4)).take 4
theorem absP_length (p : Int) (m : List Int) (c : Nat) (x : List Int) : (absP p m c x).length = 8 := by simp [absP]
theorem absP_nth (p : Int) (m : List Int) (c : Nat) (x : List Int) {i : Nat} (h : i < 8) : nth (absP p m c x) i = if i < 4 then fadd p (nth x i) (nth m (4 * c + i)) else nth x i := by
  rw [nth_eq (by rw [absP_length]; exact h)]; simp [absP]
theorem hashS_length (p : Int) (k : Nat) (m : List Int) (c : Nat) : (hashS p k m c).length = 8 := by
  cases c with
  | zero => simp [hashS]
  | succ c => exact permP_length _ _ (absP_length _ _ _ _) _
theorem hashP_length (p : Int) (k : Nat) (l : List Int) : (hashP p k l).length = 4 := by
  unfold hashP; rw [List.length_take, hashS_length]; rfl
end Go.Att
end
section
namespace Go.Att
open Go.RowKit
/-- A state of eight numbers, as cells and as a value. -/
def c8 (l : List Int) : List Value := [.int .i64 (nth l 0), .int .i64 (nth l 1), .int .i64 (nth l 2), .int .i64 (nth l 3), .int .i64 (nth l 4), .int .i64 (nth l 5), .int .i64 (nth l 6), .int .i64 (nth l 7)]
def st8 (l : List Int) : Value := .agg #[.int .i64 (nth l 0), .int .i64 (nth l 1), .int .i64 (nth l 2), .int .i64 (nth l 3), .int .i64 (nth l 4), .int .i64 (nth l 5), .int .i64 (nth l 6), .int .i64 (nth l 7)]
theorem nth_set (l : List Int) (i j : Nat) (x : Int) (h : i < l.length) : nth (l.set i x) j = if j = i then x else nth l j := by
  unfold nth
  simp only [List.getD_eq_getElem?_getD, List.getElem?_set]
  by_cases e : i = j
  · subst e; simp [h]
  · rw [if_neg e, if_neg (fun h => e h.symm)]
theorem c8_set (l : List Int) (i : Nat) (x : Int) (hl : l.length = 8) (hi : i < 8) : (c8 l).set i (.int .i64 x) = c8 (l.set i x) := by
  unfold c8
  simp only [nth_set _ _ _ _ (show i < l.length by omega)]
  have h8 : i = 0 ∨ i = 1 ∨ i = 2 ∨ i = 3 ∨ i = 4 ∨ i = 5 ∨ i = 6 ∨ i = 7 := by omega
  rcases h8 with rfl | rfl | rfl | rfl | rfl | rfl | rfl | rfl <;> rfl
theorem c8_at (l : List Int) (i : Nat) (hi : i < 8) : (c8 l)[i]? = some (.int .i64 (nth l i)) := by
  have h8 : i = 0 ∨ i = 1 ∨ i = 2 ∨ i = 3 ∨ i = 4 ∨ i = 5 ∨ i = 6 ∨ i = 7 := by omega
  rcases h8 with rfl | rfl | rfl | rfl | rfl | rfl | rfl | rfl <;> rfl
theorem c8_map (l : List Int) (hl : l.length = 8) : c8 l = l.map (Value.int .i64) := by
  apply List.ext_getElem?
  intro i
  by_cases hi : i < 8
  · rw [c8_at l i hi]
    simp [List.getElem?_eq_getElem (show i < l.length by omega), nth_eq (show i < l.length by omega)]
  · rw [List.getElem?_eq_none (by simp [c8]; omega), List.getElem?_eq_none (by simp; omega)]
/-- The rows so far, and of the next one the sum so far. -/
def mixU (p : Int) (M : Nat → Nat → Int) (x : List Int) (i j : Nat) : List Int := (List.range 8).map fun r => if r < i then dotP p (fun k => fmul p (M r k) (nth x k)) 8 else if r = i then dotP p (fun k => fmul p (M r k) (nth x k)) j else 0
theorem mixU_length (p : Int) (M : Nat → Nat → Int) (x : List Int) (i j : Nat) : (mixU p M x i j).length = 8 := by simp [mixU]
theorem mixU_nth (p : Int) (M : Nat → Nat → Int) (x : List Int) (i j : Nat) {r : Nat} (hr : r < 8) : nth (mixU p M x i j) r = if r < i then dotP p (fun k => fmul p (M r k) (nth x k)) 8 else if r = i then dotP p (fun k => fmul p (M r k) (nth x k)) j else 0 := by
  rw [nth_eq (by rw [mixU_length]; exact hr)]; simp [mixU]
theorem mixU_zero (p : Int) (M : Nat → Nat → Int) (x : List Int) : mixU p M x 0 0 = List.replicate 8 0 := by
  apply List.ext_getElem (by simp [mixU])
  intro r h1 h2
  simp only [mixU, List.getElem_map, List.getElem_range, List.getElem_replicate]
  by_cases h : r = 0
  · subst h; simp [dotP]
  · simp [h]
theorem mixU_step (p : Int) (M : Nat → Nat → Int) (x : List Int) (i j : Nat) (hi : i < 8) : (mixU p M x i j).set i (fadd p (nth (mixU p M x i j) i) (fmul p (M i j) (nth x j))) = mixU p M x i (j + 1) := by
  apply List.ext_getElem (by simp [mixU])
  intro r h1 h2
  have hr : r < 8 := by simpa [mixU] using h2
  rw [List.getElem_set]
  by_cases h : i = r
  · subst h
    rw [if_pos rfl, mixU_nth p M x i j hi, if_neg (by omega), if_pos rfl]
    simp [mixU, dotP]
  · rw [if_neg h]
    simp [mixU, show ¬ r = i from fun e => h e.symm]
theorem mixU_next (p : Int) (M : Nat → Nat → Int) (x : List Int) (i : Nat) : mixU p M x i 8 = mixU p M x (i + 1) 0 := by
  unfold mixU
  refine List.map_congr_left fun r _ => ?_
  by_cases h : r < i
  · rw [if_pos h, if_pos (by omega)]
  · rw [if_neg h]
    by_cases h2 : r = i
    · rw [if_pos h2, if_pos (by omega)]
    · rw [if_neg h2, if_neg (by omega)]
      by_cases h3 : r = i + 1
      · rw [if_pos h3]; rfl
      · rw [if_neg h3]
theorem mixU_all (p : Int) (x : List Int) : mixU p (fun r j => finv p ((r : Int) + j + 8)) x 8 0 = mixT p x := by
  unfold mixU mixT
  refine List.map_congr_left fun r hr => ?_
  rw [if_pos (List.mem_range.1 hr)]
end Go.Att
namespace Go.Proofs.YtaajjaadlpgbiaaGreatDoor
open Go.RowKit Go.Att
section
variable {w : World} {b bf : Nat} {p g k rt : Int} {fs : List Int} {M : Nat → Nat → Int}
set_option maxRecDepth 100000 in
set_option maxHeartbeats 4000000 in
theorem constant_any (hs : SpB w b (.pointer (some ⟨bf, 0, none⟩)) k rt M) (hf : Fld w (.pointer (some ⟨bf, 0, none⟩)) p g fs) (r i : Nat) (hr : r < 8) (hi : i < 8) :
    Calls Tryz.prog 164 #[.pointer (some ⟨b, 0, none⟩), .int .i64 r, .int .i64 i] w (Rd w (.int .i64 (cstP p r i))) := by
  have HF := Lib.hid hf
  have c0 := hs.c0
  have hr2 : (r : Int) < 8 := by omega
  have hi2 : (i : Int) < 8 := by omega
  have hr3 : (0 : Int) ≤ r := by omega
  have hi3 : (0 : Int) ≤ i := by omega
  clear hs hf
  go_enter Tryz.func164, Tryz.ntmps164
  go_wp2_with fail
  go_quiet ((first | (go_at_call 30; exact pow_q HF.out _ _ (by omega) (by omega) _) | (go_at_call 70; exact add_q HF.out _ _ _)))
  go_wp2_with fail
  go_ret
  exact .more _ rfl
theorem ptr8_0 (sb off : Nat) (w : World) : (Instr.indexAt 71 (.pointer (some ⟨sb, off, none⟩)) (.int .i64 0)).run Tryz.prog w = .ok (.pointer (some ⟨sb, off + 0, none⟩)) w := by kernel_rfl
theorem ptr8_1 (sb off : Nat) (w : World) : (Instr.indexAt 71 (.pointer (some ⟨sb, off, none⟩)) (.int .i64 1)).run Tryz.prog w = .ok (.pointer (some ⟨sb, off + 1, none⟩)) w := by kernel_rfl
theorem ptr8_2 (sb off : Nat) (w : World) : (Instr.indexAt 71 (.pointer (some ⟨sb, off, none⟩)) (.int .i64 2)).run Tryz.prog w = .ok (.pointer (some ⟨sb, off + 2, none⟩)) w := by kernel_rfl
theorem ptr8_3 (sb off : Nat) (w : World) : (Instr.indexAt 71 (.pointer (some ⟨sb, off, none⟩)) (.int .i64 3)).run Tryz.prog w = .ok (.pointer (some ⟨sb, off + 3, none⟩)) w := by kernel_rfl
theorem ptr8_4 (sb off : Nat) (w : World) : (Instr.indexAt 71 (.pointer (some ⟨sb, off, none⟩)) (.int .i64 4)).run Tryz.prog w = .ok (.pointer (some ⟨sb, off + 4, none⟩)) w := by kernel_rfl
theorem ptr8_5 (sb off : Nat) (w : World) : (Instr.indexAt 71 (.pointer (some ⟨sb, off, none⟩)) (.int .i64 5)).run Tryz.prog w = .ok (.pointer (some ⟨sb, off + 5, none⟩)) w := by kernel_rfl
theorem ptr8_6 (sb off : Nat) (w : World) : (Instr.indexAt 71 (.pointer (some ⟨sb, off, none⟩)) (.int .i64 6)).run Tryz.prog w = .ok (.pointer (some ⟨sb, off + 6, none⟩)) w := by kernel_rfl
theorem ptr8_7 (sb off : Nat) (w : World) : (Instr.indexAt 71 (.pointer (some ⟨sb, off, none⟩)) (.int .i64 7)).run Tryz.prog w = .ok (.pointer (some ⟨sb, off + 7, none⟩)) w := by kernel_rfl
theorem ptr8 (sb off j : Nat) (hj : j < 8) (w : World) : (Instr.indexAt 71 (.pointer (some ⟨sb, off, none⟩)) (.int .i64 (j : Int))).run Tryz.prog w = .ok (.pointer (some ⟨sb, off + j, none⟩)) w := by
  have h8 : j = 0 ∨ j = 1 ∨ j = 2 ∨ j = 3 ∨ j = 4 ∨ j = 5 ∨ j = 6 ∨ j = 7 := by omega
  rcases h8 with rfl | rfl | rfl | rfl | rfl | rfl | rfl | rfl
  · exact ptr8_0 _ _ w
  · exact ptr8_1 _ _ w
  · exact ptr8_2 _ _ w
  · exact ptr8_3 _ _ w
  · exact ptr8_4 _ _ w
  · exact ptr8_5 _ _ w
  · exact ptr8_6 _ _ w
  · exact ptr8_7 _ _ w
end
end Go.Proofs.YtaajjaadlpgbiaaGreatDoor
end
