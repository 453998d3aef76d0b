/- sponge.New: contract. A sponge on both sides; a sponge and a domain: contracts. The digest of a list, plain: stirring, what stands behind a list, chains. No program in sight. The sponge, the program's side: constants; a matrix times a state: contracts. The sponge, the program's side: a matrix times a state: contract. -/
import Derived.Test.YtfepefbehgbjpaaGreatDoorV1
import Derived.Test.YtfepefbehgbjpaaGreatDoorZx2
import Derived.Test.YtfepefbehgbjpaaGreatDoorZx8
section
namespace Go.Att
open Go.RowKit
def MxO (w : World) (b o : Nat) (M : Nat → Nat → Int) : Prop := ∀ r j, r < 8 → j < 8 → w.cell? ⟨b, o + r * 8 + j, none⟩ = some (.int .i64 (M r j)) ∧ w.frozen? ⟨b, o + r * 8 + j, none⟩ = false
theorem frozen_ext {w w' : World} {a : Addr} {v : Value} (hx : Ext w w') (hc : w.cell? a = some v) : w'.frozen? a = w.frozen? a := World.frozen?_of_block (hx.below.block a.block (World.block_lt_of_cell? w a hc))
theorem MxO.ext {w w' : World} {b o : Nat} {M : Nat → Nat → Int} (h : MxO w b o M) (hx : Ext w w') : MxO w' b o M := fun r j hr hj =>
  ⟨hx.cell (h r j hr hj).1, by rw [frozen_ext hx (h r j hr hj).1]; exact (h r j hr hj).2⟩
theorem MxO.set {w : World} {b o : Nat} {M : Nat → Nat → Int} (h : MxO w b o M) {r j : Nat} (hr : r < 8) (hj : j < 8) (x : Int) : MxO (w.setCell ⟨b, o + r * 8 + j, none⟩ (.int .i64 x)) b o (upm M r j x) := fun r' j' hr' hj' => by
  refine ⟨?_, by rw [World.frozen?_setCell]; exact (h r' j' hr' hj').2⟩
  unfold upm
  by_cases e : r' = r ∧ j' = j
  · obtain ⟨rfl, rfl⟩ := e
    rw [if_pos ⟨rfl, rfl⟩]; exact World.cell?_setCell_same _ _ _ (h _ _ hr hj).1
  · rw [if_neg e, World.cell?_setCell_other _ _ _ _ (by simp; try omega)]; exact (h _ _ hr' hj').1
theorem MxO.low {w : World} {b o k : Nat} {M : Nat → Nat → Int} (h : MxO w b o M) (hk : k < o ∨ o + 64 ≤ k) (v : Value) : MxO (w.setCell ⟨b, k, none⟩ v) b o M := fun r j hr hj =>
  ⟨by rw [World.cell?_setCell_other _ _ _ _ (by simp; try omega)]; exact (h r j hr hj).1, by rw [World.frozen?_setCell]; exact (h r j hr hj).2⟩
structure SpB (w : World) (b : Nat) (f : Value) (k rt : Int) (M : Nat → Nat → Int) : Prop where
  c0 : w.cell? ⟨b, 0, none⟩ = some f
  c1 : w.cell? ⟨b, 1, none⟩ = some (.int .i64 k)
  c2 : w.cell? ⟨b, 2, none⟩ = some (.int .i64 rt)
  f1 : w.frozen? ⟨b, 1, none⟩ = false
  f2 : w.frozen? ⟨b, 2, none⟩ = false
  mx : MxO w b 3 M
  oth : ∀ j, j < 64 → (∃ x : Int, w.cell? ⟨b, 67 + j, none⟩ = some (.int .i64 x)) ∧ w.frozen? ⟨b, 67 + j, none⟩ = false
section
variable {w : World} {b : Nat} {f : Value} {k rt : Int} {M : Nat → Nat → Int}
theorem SpB.ext {w' : World} (h : SpB w b f k rt M) (hx : Ext w w') : SpB w' b f k rt M :=
  ⟨hx.cell h.c0, hx.cell h.c1, hx.cell h.c2, by rw [frozen_ext hx h.c1]; exact h.f1, by rw [frozen_ext hx h.c2]; exact h.f2, h.mx.ext hx, fun j hj => ⟨by obtain ⟨x, hc⟩ := (h.oth j hj).1; exact ⟨x, hx.cell hc⟩, by obtain ⟨x, hc⟩ := (h.oth j hj).1; rw [frozen_ext hx hc]; exact (h.oth j hj).2⟩⟩
theorem SpB.set1 (h : SpB w b f k rt M) (k' : Int) : SpB (w.setCell ⟨b, 1, none⟩ (.int .i64 k')) b f k' rt M :=
  ⟨by rw [World.cell?_setCell_other _ _ _ _ (by simp)]; exact h.c0, World.cell?_setCell_same _ _ _ h.c1, by rw [World.cell?_setCell_other _ _ _ _ (by simp)]; exact h.c2, by rw [World.frozen?_setCell]; exact h.f1, by rw [World.frozen?_setCell]; exact h.f2, h.mx.low (by omega) _, fun j hj => ⟨by rw [World.cell?_setCell_other _ _ _ _ (by simp; try omega)]; exact (h.oth j hj).1, by rw [World.frozen?_setCell]; exact (h.oth j hj).2⟩⟩
theorem SpB.set2 (h : SpB w b f k rt M) (k' : Int) : SpB (w.setCell ⟨b, 2, none⟩ (.int .i64 k')) b f k k' M :=
  ⟨by rw [World.cell?_setCell_other _ _ _ _ (by simp)]; exact h.c0, by rw [World.cell?_setCell_other _ _ _ _ (by simp)]; exact h.c1, World.cell?_setCell_same _ _ _ h.c2, by rw [World.frozen?_setCell]; exact h.f1, by rw [World.frozen?_setCell]; exact h.f2, h.mx.low (by omega) _, fun j hj => ⟨by rw [World.cell?_setCell_other _ _ _ _ (by simp; try omega)]; exact (h.oth j hj).1, by rw [World.frozen?_setCell]; exact (h.oth j hj).2⟩⟩
theorem SpB.setM (h : SpB w b f k rt M) {r j : Nat} (hr : r < 8) (hj : j < 8) (x : Int) : SpB (w.setCell ⟨b, 3 + r * 8 + j, none⟩ (.int .i64 x)) b f k rt (upm M r j x) :=
  ⟨by rw [World.cell?_setCell_other _ _ _ _ (by simp; try omega)]; exact h.c0, by rw [World.cell?_setCell_other _ _ _ _ (by simp; try omega)]; exact h.c1, by rw [World.cell?_setCell_other _ _ _ _ (by simp; try omega)]; exact h.c2, by rw [World.frozen?_setCell]; exact h.f1, by rw [World.frozen?_setCell]; exact h.f2, h.mx.set hr hj x, fun q hq => ⟨by rw [World.cell?_setCell_other _ _ _ _ (by simp; try omega)]; exact (h.oth q hq).1, by rw [World.frozen?_setCell]; exact (h.oth q hq).2⟩⟩
theorem SpB.setO (h : SpB w b f k rt M) {ds : List Value} (hl : ds.length = 64) (hd : ∀ k, k < 64 → ∃ x : Int, ds[k]? = some (.int .i64 x)) : SpB (w.setCells b 67 ds) b f k rt M :=
  ⟨by rw [World.cell?_setCells_out _ _ _ _ _ (fun _ _ => .inl (by simp))]; exact h.c0, by rw [World.cell?_setCells_out _ _ _ _ _ (fun _ _ => .inl (by simp))]; exact h.c1, by rw [World.cell?_setCells_out _ _ _ _ _ (fun _ _ => .inl (by simp))]; exact h.c2, by rw [World.frozen?_setCells]; exact h.f1, by rw [World.frozen?_setCells]; exact h.f2,
    fun r j hr hj => ⟨by rw [World.cell?_setCells_out _ _ _ _ _ (fun _ _ => .inl (by simp; try omega))]; exact (h.mx r j hr hj).1, by rw [World.frozen?_setCells]; exact (h.mx r j hr hj).2⟩,
    fun j hj => ⟨by
      obtain ⟨x, hx⟩ := hd j hj
      exact ⟨x, World.rangeAt_setCells_same w b 67 ds (fun i hi => ⟨by obtain ⟨y, hy⟩ := (h.oth i (by omega)).1; rw [hy]; rfl, (h.oth i (by omega)).2⟩) j _ hx⟩, by rw [World.frozen?_setCells]; exact (h.oth j hj).2⟩⟩
end
def IsPw (p : Int) (k : Nat) : Prop := 2 ≤ k ∧ Nat.gcd k (p - 1).toNat = 1 ∧ ∀ j, 2 ≤ j → j < k → Nat.gcd j (p - 1).toNat ≠ 1
def NewSp (p : Int) (f v : Value) (w' : World) : Prop := ∃ (b k : Nat) (rt : Int), v = .tuple #[.pointer (some ⟨b, 0, none⟩), .nilIface] ∧ IsPw p k ∧ SpB w' b f k rt (fun r j => finv p ((r : Int) + j + 8))
theorem gcd_last {p : Int} (h : 23 ≤ p) : Nat.gcd (p - 2).toNat (p - 1).toNat = 1 := by
  rw [show (p - 1).toNat = (p - 2).toNat + 1 by omega, Nat.gcd_self_add_right]; simp
theorem zero_at (n k : Nat) (h1 : 1 ≤ k) (h2 : k < n + 1) : (#[Value.pointer none] ++ Array.replicate n (Value.int .i64 0))[k]? = some (.int .i64 0) := by
  have hs : (#[Value.pointer none]).size = 1 := rfl
  rw [Array.getElem?_append_right (by omega), Array.getElem?_replicate, if_pos (by omega)]
theorem SpB.new (w : World) (f : Value) (z : Array Value) (t : TypeId) (hs : z.size = 131) (hz : ∀ k, 1 ≤ k → k < 131 → z[k]? = some (.int .i64 0)) : SpB (w.alloc (Obj.cells ((z.setIfInBounds 0 f).setIfInBounds 1 (.int .i64 2)) t)) w.heap.size f 2 0 (fun _ _ => 0) := by
  have hc : ∀ k, 2 ≤ k → k < 131 → (w.alloc (Obj.cells ((z.setIfInBounds 0 f).setIfInBounds 1 (.int .i64 2)) t)).cell? ⟨w.heap.size, k, none⟩ = some (.int .i64 0) := fun k h1 h2 => by
    rw [cell_new, Array.getElem?_setIfInBounds_ne (by omega), Array.getElem?_setIfInBounds_ne (by omega), hz k (by omega) h2]
  have hf : ∀ k, (w.alloc (Obj.cells ((z.setIfInBounds 0 f).setIfInBounds 1 (.int .i64 2)) t)).frozen? ⟨w.heap.size, k, none⟩ = false := fun k => by simp
  refine ⟨?_, ?_, hc 2 (by omega) (by omega), hf _, hf _, fun r j hr hj => ⟨hc _ (by omega) (by omega), hf _⟩, fun j hj => ⟨⟨0, hc _ (by omega) (by omega)⟩, hf _⟩⟩
  · rw [cell_new, Array.getElem?_setIfInBounds_ne (by omega), Array.getElem?_setIfInBounds_self_of_lt (by omega)]
  · rw [cell_new, Array.getElem?_setIfInBounds_self_of_lt (by simp; omega)]
theorem SpB.congr {w : World} {b : Nat} {f : Value} {k rt : Int} {M M' : Nat → Nat → Int} (h : SpB w b f k rt M) (he : ∀ r j, r < 8 → j < 8 → M r j = M' r j) : SpB w b f k rt M' :=
  ⟨h.c0, h.c1, h.c2, h.f1, h.f2, fun r j hr hj => by rw [← he r j hr hj]; exact h.mx r j hr hj, h.oth⟩
theorem SpB.rows {w : World} {b : Nat} {f : Value} {k rt : Int} {M : Nat → Nat → Int} (h : SpB w b f k rt M) : w.rangeAt b 3 ((List.range 64).map fun k => .int .i64 (M (k / 8) (k % 8))) ∧ w.there b 67 64 := by
  refine ⟨fun j v hv => ?_, fun j hj => ⟨by obtain ⟨x, hx⟩ := (h.oth j hj).1; rw [hx]; rfl, (h.oth j hj).2⟩⟩
  have hj : j < 64 := by have := (List.getElem?_eq_some_iff.1 hv).1; simpa using this
  have := (h.mx (j / 8) (j % 8) (by omega) (by omega)).1
  rw [show 3 + j / 8 * 8 + j % 8 = 3 + j by omega] at this
  rw [this, ← hv]; simp [hj]
def matU (p : Int) (i j : Nat) : Nat → Nat → Int := fun r c => if r < i ∨ (r = i ∧ c < j) then finv p ((r : Int) + c + 8) else 0
theorem matU_zero (p : Int) : matU p 0 0 = fun _ _ => 0 := by funext r c; simp [matU]
theorem matU_step (p : Int) (i j : Nat) : upm (matU p i j) i j (finv p ((i : Int) + j + 8)) = matU p i (j + 1) := by
  funext r c
  unfold upm matU
  by_cases h : r = i ∧ c = j
  · obtain ⟨rfl, rfl⟩ := h; simp
  · rw [if_neg h]
    by_cases h2 : r < i ∨ (r = i ∧ c < j)
    · rw [if_pos h2, if_pos (by omega)]
    · rw [if_neg h2, if_neg (by omega)]
theorem matU_next (p : Int) (i r c : Nat) (hc : c < 8) : matU p i 8 r c = matU p (i + 1) 0 r c := by
  unfold matU
  by_cases h2 : r < i ∨ (r = i ∧ c < 8)
  · rw [if_pos h2, if_pos (by omega)]
  · rw [if_neg h2, if_neg (by omega)]
theorem matU_all (p : Int) (i r c : Nat) (hi : i = 8) (hr : r < 8) (_hc : c < 8) : matU p i 0 r c = finv p ((r : Int) + c + 8) := by
  unfold matU; rw [if_pos (by omega)]
theorem all_of_ints (ds : Array Value) (h : ds.size = 64) (hd : ∀ k, k < 64 → ∃ x : Int, ds[k]? = some (.int .i64 x)) : ds.all (·.oneCell') = true := by
  rw [Array.all_eq_true]
  intro i hi
  obtain ⟨x, hx⟩ := hd i (by omega)
  rw [Array.getElem?_eq_getElem hi] at hx
  rw [Option.some.inj hx]; rfl
def cellN (w : World) (a : Addr) : Int := match w.cell? a with
  | some (.int _ n) => n
  | _ => 0
theorem cellN_of {w : World} {a : Addr} {k : IntKind} {n : Int} (h : w.cell? a = some (.int k n)) : cellN w a = n := by unfold cellN; rw [h]
end Go.Att
namespace Go.Proofs.YtfepefbehgbjpaaGreatDoor
open Go.RowKit Go.Att
theorem zeroSp : Tryz.zeroCells112 = #[.pointer none] ++ Array.replicate 130 (.int .i64 0) := by kernel_rfl
theorem zeroSp_size : Tryz.zeroCells112.size = 131 := by kernel_rfl
theorem zeroSp_at (k : Nat) (h1 : 1 ≤ k) (h2 : k < 131) : Tryz.zeroCells112[k]? = some (.int .i64 0) := by rw [zeroSp]; exact zero_at 130 k h1 h2

set_option maxRecDepth 100000 in
set_option maxHeartbeats 4000000 in
theorem snew_bad {w : World} {f : Value} {p g : Int} {fs : List Int} (hf : Fld w f p g fs) (h23 : p < 23) :
    Calls Tryz.prog 68 #[f] w (Rd w (.tuple #[.pointer none, errv 3])) := by
  have C := Lib.hid hf; clear hf
  rw [errv_pos (by decide)]
  go_enter Tryz.func68, Tryz.ntmps68
  go_wp2_with (go_at_call 69; refine (p_any C.out).mono ?_; rintro e w' ⟨rfl, m, rfl⟩)
  go_ret2
  exact ⟨rfl, m, rfl⟩

set_option maxRecDepth 100000 in
set_option maxHeartbeats 4000000 in
theorem snew_ok {w : World} {bf : Nat} {p g : Int} {fs : List Int} (hf : Fld w (.pointer (some ⟨bf, 0, none⟩)) p g fs) (h23 : 23 ≤ p) :
    Calls Tryz.prog 68 #[.pointer (some ⟨bf, 0, none⟩)] w (Gives w (NewSp p (.pointer (some ⟨bf, 0, none⟩)))) := by
  have hpr := hf.pr
  have C := Lib.hid hf; clear hf
  have h23' : ¬ p < 23 := by omega
  have HPR := Lib.hid hpr; clear hpr
  go_enter Tryz.func68, Tryz.ntmps68
  go_wp2_with (go_at_call 69; refine (p_any C.out).mono ?_; rintro e w' hrd; obtain ⟨rfl, hx1⟩ := hrd.ext; clear hrd)
  obtain ⟨m, hm⟩ : ∃ m : Nat, p - 1 = m := ⟨(p - 1).toNat, by omega⟩
  have hmt : (p - 1).toNat = m := by omega
  have hp31 : p ≤ 2147483647 := C.out.hi
  have hw1 : IntKind.i64.wrap (p - 1) = (m : Int) := by rw [← hm]; exact IntWalk.i64_in _ (by omega)
  have hm31 : m ≤ 2147483646 := by omega
  have hm22 : 22 ≤ m := by omega
  have HM := Lib.hid hm; have HMT := Lib.hid hmt
  have HS := Lib.hid (SpB.new w' (.pointer (some ⟨bf, 0, none⟩)) Tryz.zeroCells112 112 zeroSp_size zeroSp_at)
  have hxw := hx1.trans (Ext.alloc w' (Obj.cells ((Tryz.zeroCells112.setIfInBounds 0 (.pointer (some ⟨bf, 0, none⟩))).setIfInBounds 1 (.int .i64 2)) 112))
  have hlb : w.heap.size ≤ w'.heap.size := hx1.size
  clear hm hmt
  generalize hB : w'.heap.size = b at *
  generalize w'.alloc (Obj.cells ((Tryz.zeroCells112.setIfInBounds 0 (.pointer (some ⟨bf, 0, none⟩))).setIfInBounds 1 (.int .i64 2)) 112) = w1 at *
  clear hB hx1 h23'
  go_loopw [22] (fun _ wr => ∃ k : Nat, 2 ≤ k ∧ k + 1 ≤ m ∧ Hid (∀ j, 2 ≤ j → j < k → Nat.gcd j m ≠ 1) ∧ SpB wr b (.pointer (some ⟨bf, 0, none⟩)) k 0 (fun _ _ => 0) ∧ Ext w wr) (fun _ wr => m - (cellN wr ⟨b, 1, none⟩).toNat)
  case atStart => exact ⟨2, by omega, by omega, Lib.hid (fun j h1 h2 => by omega), HS.out, hxw⟩
  case round =>
    clear HS hxw
    obtain ⟨k, hk2, hkm, HL, hs, hx⟩ := hrel
    have c1 := hs.c1
    have f1 := hs.f1
    have HS := Lib.hid hs; have HX := Lib.hid hx
    clear hs hx
    by_cases hg : Nat.gcd k m = 1
    · have hb : (((Nat.gcd k m : Nat) : Int) != 1) = false := by rw [hg]; rfl
      have HG := Lib.hid hg
      clear hg
      go_wp2_with fail
      go_quiet ((first | (go_at_call 69; exact p_q (C.out.ext HX.out) _) | (go_at_call 116; exact Calls.quiet_of (gcd_any k m _ (by omega) (by omega)))))
      replace HS := Lib.hid (HS.out.ext (Ext.drewN wr nq))
      replace HX := Lib.hid (HX.out.trans (Ext.drewN wr nq))
      clear c1 f1 hb
      generalize wr.drewN nq = wa at *
      go_wp2_with fail
      have c1 := HS.out.c1
      have c2 := HS.out.c2
      have f2 := HS.out.f2
      go_region_held3 (fun w' => w'.cell? ⟨b, 1, none⟩ = some (.int .i64 k)) (first | go_keep | (rw [World.cell?_setCell_other _ _ _ _ (by simp)]; go_keep)) (first | (go_at_call 69; (first | refine (p_any (C.out.ext (HX.out.trans (Ext.drew wa)))).mono ?_ | refine (p_any (C.out.ext (HX.out.trans (Ext.drewN wa _)))).mono ?_); rintro e w' ⟨rfl, z1, rfl⟩) | (go_at_call 117; refine (inverse_any k m _ (by omega) (by omega) (by omega)).mono ?_; rintro e w' ⟨⟨rt, rfl⟩, z2, rfl⟩))
      have N1 : SpB ((wa.drewN (1 + z1 + z2)).setCell ⟨b, 2, none⟩ (.int .i64 rt)) b (.pointer (some ⟨bf, 0, none⟩)) k rt (fun _ _ => 0) := (HS.out.ext (Ext.drewN _ _)).set2 rt
      have N2 : Ext w ((wa.drewN (1 + z1 + z2)).setCell ⟨b, 2, none⟩ (.int .i64 rt)) := Ext.setC (HX.out.trans (Ext.drewN _ _)) hlb _
      clear HS HX c1 c2 f2
      generalize (wa.drewN (1 + z1 + z2)).setCell ⟨b, 2, none⟩ (.int .i64 rt) = wb at *
      have HS := Lib.hid N1; have HX := Lib.hid N2
      have HPW := Lib.hid (show IsPw p k from ⟨hk2, by rw [HMT.out]; exact HG.out, by rw [HMT.out]; exact HL.out⟩)
      clear N1 N2 hw1 HL HG
      go_wp2_with fail
      go_loopw [5, 6, 41] (fun _ _ x41 wr => ∃ i : Nat, i ≤ 8 ∧ x41 = .int .i64 i ∧ SpB wr b (.pointer (some ⟨bf, 0, none⟩)) k rt (matU p i 0) ∧ Ext w wr) (fun _ _ x41 _ => 8 - (intOf x41).toNat)
      case atStart => exact ⟨0, by omega, rfl, by rw [matU_zero]; exact HS.out, HX.out⟩
      case round =>
        clear HS HX
        obtain ⟨i, hi, rfl, hs, hx⟩ := hrel
        have HS := Lib.hid hs; have HX := Lib.hid hx
        clear hs hx
        by_cases hi8 : i < 8
        · go_wp2_with fail
          go_loopw [6, 44] (fun _ x44 wr => ∃ j : Nat, j ≤ 8 ∧ x44 = .int .i64 j ∧ SpB wr b (.pointer (some ⟨bf, 0, none⟩)) k rt (matU p i j) ∧ Ext w wr) (fun _ x44 _ => 8 - (intOf x44).toNat)
          case atStart => exact ⟨0, by omega, rfl, HS.out, HX.out⟩
          case round =>
            clear HS HX
            obtain ⟨j, hj, rfl, hs, hx⟩ := hrel
            have HS := Lib.hid hs; have HX := Lib.hid hx
            clear hs hx
            by_cases hj8 : j < 8
            · have hi0 : (0 : Int) ≤ (i : Int) := by omega
              have hi88 : (i : Int) < 8 := by omega
              have hj0 : (0 : Int) ≤ (j : Int) := by omega
              have hj88 : (j : Int) < 8 := by omega
              have hs1 : IntKind.i64.wrap ((i : Int) + j) = (i : Int) + j := IntWalk.i64_in _ (by omega)
              have hs2 : IntKind.i64.wrap ((i : Int) + j + 8) = (i : Int) + j + 8 := IntWalk.i64_in _ (by omega)
              obtain ⟨a1, f1⟩ := HS.out.mx i j hi8 hj8
              go_wp2_with fail
              refine wp_region_quiet_tail 13 (by kernel_rfl) (by kernel_rfl) ?_
              simp only [List.take_succ_cons, List.take_zero, List.drop_succ_cons, List.drop_zero]
              repeat (go_big_quiet_step ((go_at_call 81; exact inv_q (C.out.ext HX.out) _ _)))
              refine wpQuiet_nil ?_
              rintro _ ⟨z1, rfl⟩
              go_wp2_with fail
              have N1 : SpB ((wr.drewN z1).setCell ⟨b, 3 + i * 8 + j, none⟩ (.int .i64 (finv p ((i : Int) + j + 8)))) b (.pointer (some ⟨bf, 0, none⟩)) k rt (matU p i (j + 1)) := by rw [← matU_step]; exact (HS.out.ext (Ext.drewN _ _)).setM hi8 hj8 _
              have N2 : Ext w ((wr.drewN z1).setCell ⟨b, 3 + i * 8 + j, none⟩ (.int .i64 (finv p ((i : Int) + j + 8)))) := Ext.setC (HX.out.trans (Ext.drewN _ _)) hlb _
              clear HS HX a1 f1
              generalize (wr.drewN z1).setCell ⟨b, 3 + i * 8 + j, none⟩ (.int .i64 (finv p ((i : Int) + j + 8))) = wc at *
              go_roundw
              case rel => exact ⟨j + 1, by omega, by go_num, N1, N2⟩
              case measure => simp [intOf]; omega
            · obtain rfl : j = 8 := by omega
              have HS := Lib.hid (HS.out.congr (fun r c hr hc => matU_next p i r c hc))
              go_wp2_with fail
              go_roundw
              case rel => exact ⟨i + 1, by omega, by go_num, HS.out, HX.out⟩
              case measure => simp [intOf]; omega
        · have hi8' : i = 8 := by omega
          have HI8 := Lib.hid hi8'
          clear hi8'
          have HS := Lib.hid (HS.out.congr (fun r c hr hc => matU_all p i r c HI8.out hr hc))
          obtain ⟨r3, t67⟩ := HS.out.rows
          have hinf : (Tryz.prog.info? 110).map (·.size) = some 64 := by kernel_rfl
          have hln : ((List.range 64).map fun k => Value.int .i64 (finv p (((k / 8 : Nat) : Int) + ((k % 8 : Nat) : Int) + 8))).length = 64 := by simp
          have HA := Lib.hid (show ∀ r j, r < 8 → j < 8 → (((List.range 64).map fun k => Value.int .i64 (finv p (((k / 8 : Nat) : Int) + ((k % 8 : Nat) : Int) + 8))).toArray)[r * 8 + j]? = some (.int .i64 ((fun r j : Nat => finv p ((r : Int) + j + 8)) r j)) from fun r j hr hj => by rw [List.getElem?_toArray, List.getElem?_map, List.getElem?_range (by omega)]; simp only [Option.map_some]; rw [show (r * 8 + j) / 8 = r by omega, show (r * 8 + j) % 8 = j by omega])
          generalize ((List.range 64).map fun k => Value.int .i64 (finv p (((k / 8 : Nat) : Int) + ((k % 8 : Nat) : Int) + 8))) = cs at *
          have R3 := Lib.hid r3; have HLN := Lib.hid hln; have HINF := Lib.hid hinf
          clear r3 t67 hln hinf
          go_upto_region 16 with (fail)
          refine wp_region_lit (l := [_, _, _, _, _, _, _, _, _, _]) ?_
          iterate 5 (refine wpList_plain rfl (fun K hK => ?_); go_simp; refine hK _ _ ?_; clear hK K)
          refine wpList_load_mid rfl _ _ rfl b 3 rfl cs _ R3.out Tryz.underlying110 rfl (by rw [HLN.out]; exact HINF.out) ?_
          refine wpList_plain rfl (fun K hK => ?_)
          go_simp
          refine (undone_any (C.out.ext HX.out) h23 HPR.out cs.toArray (by rw [List.size_toArray]; exact HLN.out) (fun r j => finv p ((r : Int) + j + 8)) HA.out (fun r j _ _ => rfl)).mono ?_
          rintro e wd ⟨⟨ds, rfl, hds, hdn⟩, hxd⟩
          refine hK _ _ ?_
          clear hK K
          iterate 2 (refine wpList_plain rfl (fun K hK => ?_); go_simp; refine hK _ _ ?_; clear hK K)
          have HS := HS.out.ext hxd
          refine wpList_store_mid rfl _ _ _ rfl b 67 ds rfl rfl (by rw [hds]; exact HS.rows.2) (by rw [hds]; exact HINF.out) (all_of_ints ds hds hdn) ?_
          have HX2 := Lib.hid (Ext.setCells hlb ds.toList 67 _ (HX.out.trans hxd))
          have HS2 := Lib.hid (HS.setO (ds := ds.toList) (by rw [Array.length_toList]; exact hds) (fun k hk => by rw [Array.getElem?_toList]; exact hdn k hk))
          clear HS hdn hds
          generalize wd.setCells b 67 ds.toList = we at *
          go_wp2_with fail
          go_ret2
          exact .mk _ rfl HX2.out ⟨b, k, rt, rfl, HPW.out, HS2.out⟩
    · have hb : (((Nat.gcd k m : Nat) : Int) != 1) = true := by rw [bne_iff_ne]; omega
      have HG := Lib.hid hg
      clear hg
      go_wp2_with fail
      go_quiet ((first | (go_at_call 69; exact p_q (C.out.ext HX.out) _) | (go_at_call 116; exact Calls.quiet_of (gcd_any k m _ (by omega) (by omega)))))
      have hk1 : k + 2 ≤ m := by
        apply Classical.byContradiction
        intro hc
        have e1 : (k : Int) = p - 2 := by have := HM.out; omega
        have e2 : k = (p - 2).toNat := by omega
        have e3 := gcd_last h23
        rw [HMT.out, ← e2] at e3
        exact HG.out e3
      go_wp2_with fail
      have N1 : SpB ((wr.drewN nq).setCell ⟨b, 1, none⟩ (.int .i64 ((k : Int) + 1))) b (.pointer (some ⟨bf, 0, none⟩)) ((k : Int) + 1) 0 (fun _ _ => 0) := (HS.out.ext (Ext.drewN _ _)).set1 _
      have N2 : Ext w ((wr.drewN nq).setCell ⟨b, 1, none⟩ (.int .i64 ((k : Int) + 1))) := Ext.setC (HX.out.trans (Ext.drewN _ _)) hlb _
      have N3 := cellN_of c1
      have N4 := cellN_of N1.c1
      clear HS HX c1 f1 hb
      generalize (wr.drewN nq).setCell ⟨b, 1, none⟩ (.int .i64 ((k : Int) + 1)) = wc at *
      go_roundw
      case rel => exact ⟨k + 1, by omega, by omega, Lib.hid (fun j h1 h2 => (by by_cases e : j = k; exact e ▸ HG.out; exact HL.out j h1 (by omega))), by exact_mod_cast N1, N2⟩
      case measure => rw [N3, N4]; omega
end Go.Proofs.YtfepefbehgbjpaaGreatDoor
end
section
namespace Go.Att
open Go.RowKit
def SpgOf (w : World) (s f : Value) (p : Int) : Prop := ∃ (b k : Nat) (rt : Int), s = .pointer (some ⟨b, 0, none⟩) ∧ IsPw p k ∧ SpB w b f k rt (fun r j => finv p ((r : Int) + j + 8))
theorem SpgOf.ext {w w' : World} {s f : Value} {p : Int} (h : SpgOf w s f p) (hx : Ext w w') : SpgOf w' s f p := by
  obtain ⟨b, k, rt, h1, h2, h3⟩ := h; exact ⟨b, k, rt, h1, h2, h3.ext hx⟩
theorem SpgOf.ptr {w : World} {s f : Value} {p : Int} (h : SpgOf w s f p) : ∃ b, s = .pointer (some ⟨b, 0, none⟩) ∧ w.cell? ⟨b, 0, none⟩ = some f := by
  obtain ⟨b, k, rt, h1, h2, h3⟩ := h; exact ⟨b, h1, h3.c0⟩
def SpgGot (p : Int) (v : Value) (w' : World) : Prop := ∃ s f g, v = .tuple #[s, .bool true] ∧ SpgOf w' s f p ∧ FieldOf w' f p g
end Go.Att
namespace Go.Proofs.YtfepefbehgbjpaaGreatDoor
open Go.RowKit Go.Att
def okT (p n sh : Int) : Prop := okP p ∧ 23 ≤ p ∧ domErr p n sh = 0
def ThingsGot (p n sh : Int) (v : Value) (w' : World) : Prop := ∃ s f g d, v = .tuple #[s, d, .bool true] ∧ SpgOf w' s f p ∧ FieldOf w' f p g ∧ DomOf w' d f n (fof p sh) (froot p g n)

set_option maxRecDepth 100000 in
set_option maxHeartbeats 1000000 in
theorem sfieldof_any {w : World} {b : Nat} {f : Value} (h : w.cell? ⟨b, 0, none⟩ = some f) : Calls Tryz.prog 18 #[.pointer (some ⟨b, 0, none⟩)] w fun e w' => e = .returned f ∧ w = w' := by
  go_enter Tryz.func18, Tryz.ntmps18
  go_wp2
  go_ret
  exact ⟨rfl, rfl⟩

set_option maxRecDepth 100000 in
set_option maxHeartbeats 1000000 in
theorem sspg_bad (p : Int) (w : World) (h : ¬ okP p) (hg : Hnd w) :
    Calls Tryz.prog 19 #[.int .i64 p] w (Gives w fun v _ => v = .tuple #[.pointer none, .bool true]) := by
  have H := Lib.hid h; have HG := Lib.hid hg; clear h hg
  go_enter Tryz.func19, Tryz.ntmps19
  go_wp2_with (go_at_call 67; refine (sfield_bad _ _ H.out HG.out).mono ?_; rintro e w' ⟨v, rfl, hx, rfl⟩)
  go_ret2
  exact .mk _ rfl hx rfl

set_option maxRecDepth 100000 in
set_option maxHeartbeats 1000000 in
theorem sspg_low (p : Int) (w : World) (h : okP p) (h23 : p < 23) (hg : Hnd w) :
    Calls Tryz.prog 19 #[.int .i64 p] w (Gives w fun v _ => v = .tuple #[.pointer none, .bool true]) := by
  have H := Lib.hid h; have HG := Lib.hid hg; clear h hg
  have hev := errv_pos (k := 3) (by decide)
  have h23' : ¬ 23 ≤ p := by omega
  go_enter Tryz.func19, Tryz.ntmps19
  go_wp2_with (first | (go_at_call 67; refine (sfield_ok _ _ H.out HG.out).mono ?_; rintro e w1 ⟨v, rfl, hx, f, g, rfl, hf⟩; obtain ⟨b, rfl⟩ := hf.ptr; obtain ⟨fs, hfs⟩ := hf.fld; have HF := Lib.hid hfs; clear hf hfs) | (go_at_call 68; refine (snew_bad HF.out h23).mono ?_; rw [hev]; rintro e w2 hrd; obtain ⟨rfl, hx2⟩ := hrd.ext; clear hrd) | (go_at_call 10; rw [← hev]; refine (error_any 3 3 _ (HG.out.ext (hx.trans hx2))).mono ?_; rintro e w3 ⟨rfl, hx3⟩))
  go_ret2
  exact .mk _ rfl ((hx.trans hx2).trans hx3) rfl

set_option maxRecDepth 100000 in
set_option maxHeartbeats 1000000 in
theorem sspg_ok (p : Int) (w : World) (h : okP p) (h23 : 23 ≤ p) (hg : Hnd w) :
    Calls Tryz.prog 19 #[.int .i64 p] w (Gives w (SpgGot p)) := by
  have H := Lib.hid h; have HG := Lib.hid hg; clear h hg
  go_enter Tryz.func19, Tryz.ntmps19
  go_wp2_with (first | (go_at_call 67; refine (sfield_ok _ _ H.out HG.out).mono ?_; rintro e w1 ⟨v, rfl, hx, f, g, rfl, hf⟩; obtain ⟨b, rfl⟩ := hf.ptr; obtain ⟨fs, hfs⟩ := hf.fld; have HF := Lib.hid hfs; have HFO := Lib.hid hf; clear hf hfs) | (go_at_call 68; refine (snew_ok HF.out h23).mono ?_; rintro e w2 ⟨v, rfl, hx2, bs, k, rt, rfl, hpw, hsp⟩; have HPW := Lib.hid hpw; have HSP := Lib.hid hsp; clear hpw hsp) | (go_at_call 10; refine (error_any 0 0 _ (HG.out.ext (hx.trans hx2))).mono ?_; rintro e w3 ⟨rfl, hx3⟩))
  go_ret2
  exact .mk _ rfl ((hx.trans hx2).trans hx3) ⟨_, _, g, rfl, ⟨bs, k, rt, rfl, HPW.out, HSP.out.ext hx3⟩, HFO.out.ext (hx2.trans hx3)⟩

set_option maxRecDepth 100000 in
set_option maxHeartbeats 1000000 in
theorem things_bad (p n sh : Int) (w : World) (h : ¬ okT p n sh) (hg : Hnd w) :
    Calls Tryz.prog 4 #[.int .i64 p, .int .i64 n, .int .i64 sh] w (Gives w fun v _ => v = .tuple #[.pointer none, .pointer none, .bool true]) := by
  have HG := Lib.hid hg; clear hg
  by_cases h1 : okP p
  · have hlo := h1.2.1; have hhi := h1.2.2
    have H := Lib.hid h1
    by_cases h2 : p < 23
    · clear h h1
      go_enter Tryz.func4, Tryz.ntmps4
      go_wp2_with (go_at_call 19; refine (sspg_low _ _ H.out h2 HG.out).mono ?_; rintro e w' ⟨v, rfl, hx, rfl⟩)
      go_ret3
      exact .mk _ rfl hx rfl
    · have h23 : 23 ≤ p := by omega
      have hE : domErr p n sh ≠ 0 := fun e => h ⟨h1, h23, e⟩
      have HE := Lib.hid hE
      have hb : (domErr p n sh != 0) = true := by rw [bne_iff_ne]; exact hE
      have hev := errv_pos hE
      clear h h1 hE h2
      go_enter Tryz.func4, Tryz.ntmps4
      go_wp2_with (first | (go_at_call 19; refine (sspg_ok _ _ H.out h23 HG.out).mono ?_; rintro e w1 ⟨v, rfl, hx, s, f, g, rfl, hs, hf⟩; obtain ⟨bs, rfl, hc⟩ := hs.ptr; obtain ⟨b, rfl⟩ := hf.ptr; obtain ⟨fs, hfs⟩ := hf.fld; have HF := Lib.hid hfs; clear hf hfs hs) | (go_at_call 18; refine (sfieldof_any hc).mono ?_; rintro e w' ⟨rfl, rfl⟩) | (go_at_call 20; refine (dnew_bad HF.out _ _ HE.out).mono ?_; rw [hev]; rintro e w2 hrd; obtain ⟨rfl, hx2⟩ := hrd.ext; clear hrd) | (go_at_call 21; refine (rfault_any _ _ _ _ hlo hhi).mono ?_; rintro e w3 ⟨rfl, rfl⟩) | (go_at_call 10; rw [← hev]; refine (error_any _ _ _ (HG.out.ext (hx.trans hx2))).mono ?_; rintro e w3 ⟨rfl, hx3⟩))
      go_ret3
      exact .mk _ rfl ((hx.trans hx2).trans hx3) (by simp)
  · have H := Lib.hid h1
    clear h h1
    go_enter Tryz.func4, Tryz.ntmps4
    go_wp2_with (go_at_call 19; refine (sspg_bad _ _ H.out HG.out).mono ?_; rintro e w' ⟨v, rfl, hx, rfl⟩)
    go_ret3
    exact .mk _ rfl hx rfl

set_option maxRecDepth 100000 in
set_option maxHeartbeats 1000000 in
theorem things_ok (p n sh : Int) (w : World) (h : okT p n sh) (hg : Hnd w) :
    Calls Tryz.prog 4 #[.int .i64 p, .int .i64 n, .int .i64 sh] w (Gives w (ThingsGot p n sh)) := by
  have HG := Lib.hid hg; clear hg
  obtain ⟨h1, h23, hE⟩ := h
  have hlo := h1.2.1; have hhi := h1.2.2
  have H := Lib.hid h1
  have HE := Lib.hid hE
  have hb : (domErr p n sh != 0) = false := by rw [bne_eq_false_iff_eq]; exact hE
  clear h1 hE
  go_enter Tryz.func4, Tryz.ntmps4
  go_wp2_with (first | (go_at_call 19; refine (sspg_ok _ _ H.out h23 HG.out).mono ?_; rintro e w1 ⟨v, rfl, hx, s, f, g, rfl, hs, hf⟩; obtain ⟨bs, rfl, hc⟩ := hs.ptr; obtain ⟨b, rfl⟩ := hf.ptr; have HF := Lib.hid hf; have HS := Lib.hid hs; clear hf hs) | (go_at_call 18; refine (sfieldof_any hc).mono ?_; rintro e w' ⟨rfl, rfl⟩) | (go_at_call 20; refine (dnew_ok HF.out _ _ HE.out).mono ?_; rintro e w2 ⟨v, rfl, hx2, d, rfl, hd⟩; obtain ⟨bd, rfl⟩ := hd.ptr; have HD := Lib.hid hd; clear hd) | (go_at_call 21; refine (rfault_any _ _ _ _ hlo hhi).mono ?_; rintro e w3 ⟨rfl, rfl⟩) | (go_at_call 10; refine (error_any 0 _ _ (HG.out.ext (hx.trans hx2))).mono ?_; rw [HE.out]; rintro e w3 ⟨rfl, hx3⟩))
  go_ret3
  exact .mk _ rfl ((hx.trans hx2).trans hx3) ⟨_, _, g, _, rfl, HS.out.ext (hx2.trans hx3), HF.out.ext (hx2.trans hx3), HD.out.ext hx3⟩
end Go.Proofs.YtfepefbehgbjpaaGreatDoor
end
section
namespace Go.Att
def dotP (p : Int) (f : Nat → Int) : Nat → Int
  | 0 => 0
  | j + 1 => fadd p (dotP p f j) (f j)
def mixT (p : Int) (x : List Int) : List Int := (List.range 8).map fun (i : Nat) => dotP p (fun j => fmul p (finv p ((i : Int) + j + 8)) (nth x j)) 8
def cstP (p : Int) (r i : Nat) : Int := fadd p (fpow p (8 * (r : Int) + i + 1) 5) 3
def powP (p : Int) (k r : Nat) (x : List Int) : List Int := (List.range 8).map fun i => fpow p (fadd p (nth x i) (cstP p r i)) k
def permP (p : Int) (k : Nat) (x : List Int) : Nat → List Int
  | 0 => x
  | r + 1 => mixT p (powP p k r (permP p k x r))
theorem mixT_length (p : Int) (x : List Int) : (mixT p x).length = 8 := by simp [mixT]
theorem powP_length (p : Int) (k r : Nat) (x : List Int) : (powP p k r x).length = 8 := by simp [powP]
theorem permP_length (p : Int) (k : Nat) {x : List Int} (h : x.length = 8) (r : Nat) : (permP p k x r).length = 8 := by
  cases r with
  | zero => exact h
  | succ r => exact mixT_length _ _
theorem mixT_nth (p : Int) (x : List Int) {i : Nat} (h : i < 8) : nth (mixT p x) i = dotP p (fun j => fmul p (finv p ((i : Int) + j + 8)) (nth x j)) 8 := by
  rw [nth_eq (by rw [mixT_length]; exact h)]; simp [mixT]
def padN (n : Nat) : Nat := (3 - n % 4)
def padP (p : Int) (l : List Int) : List Int := l.map (fof p) ++ 1 :: List.replicate (padN l.length) 0
theorem padP_length (p : Int) (l : List Int) : (padP p l).length = l.length + 1 + padN l.length := by simp [padP]; omega
theorem padP_four (p : Int) (l : List Int) : (padP p l).length % 4 = 0 := by rw [padP_length]; unfold padN; omega
def absP (p : Int) (m : List Int) (c : Nat) (x : List Int) : List Int := (List.range 8).map fun i => if i < 4 then fadd p (nth x i) (nth m (4 * c + i)) else nth x i
def hashS (p : Int) (k : Nat) (m : List Int) : Nat → List Int
  | 0 => List.replicate 8 0
  | c + 1 => permP p k (absP p m c (hashS p k m c)) 8
def hashP (p : Int) (k : Nat) (l : List Int) : List Int := (hashS p k (padP p l) ((padP p l).length / 4)).take 4
theorem absP_length (p : Int) (m : List Int) (c : Nat) (x : List Int) : (absP p m c x).length = 8 := by simp [absP]
theorem hashS_length (p : Int) (k : Nat) (m : List Int) (c : Nat) : (hashS p k m c).length = 8 := by
  cases c with
  | zero => simp [hashS]
  | succ c => exact permP_length _ _ (absP_length _ _ _ _) _
theorem hashP_length (p : Int) (k : Nat) (l : List Int) : (hashP p k l).length = 4 := by
  unfold hashP; rw [List.length_take, hashS_length]; rfl
end Go.Att
end
section
namespace Go.Att
open Go.RowKit
def c8 (l : List Int) : List Value := [.int .i64 (nth l 0), .int .i64 (nth l 1), .int .i64 (nth l 2), .int .i64 (nth l 3), .int .i64 (nth l 4), .int .i64 (nth l 5), .int .i64 (nth l 6), .int .i64 (nth l 7)]
def st8 (l : List Int) : Value := .agg #[.int .i64 (nth l 0), .int .i64 (nth l 1), .int .i64 (nth l 2), .int .i64 (nth l 3), .int .i64 (nth l 4), .int .i64 (nth l 5), .int .i64 (nth l 6), .int .i64 (nth l 7)]
theorem nth_set (l : List Int) (i j : Nat) (x : Int) (h : i < l.length) : nth (l.set i x) j = if j = i then x else nth l j := by
  unfold nth
  simp only [List.getD_eq_getElem?_getD, List.getElem?_set]
  by_cases e : i = j
  · subst e; simp [h]
  · rw [if_neg e, if_neg (fun h => e h.symm)]
theorem c8_set (l : List Int) (i : Nat) (x : Int) (hl : l.length = 8) (hi : i < 8) : (c8 l).set i (.int .i64 x) = c8 (l.set i x) := by
  unfold c8
  simp only [nth_set _ _ _ _ (show i < l.length by omega)]
  have h8 : i = 0 ∨ i = 1 ∨ i = 2 ∨ i = 3 ∨ i = 4 ∨ i = 5 ∨ i = 6 ∨ i = 7 := by omega
  rcases h8 with rfl | rfl | rfl | rfl | rfl | rfl | rfl | rfl <;> rfl
theorem c8_at (l : List Int) (i : Nat) (hi : i < 8) : (c8 l)[i]? = some (.int .i64 (nth l i)) := by
  have h8 : i = 0 ∨ i = 1 ∨ i = 2 ∨ i = 3 ∨ i = 4 ∨ i = 5 ∨ i = 6 ∨ i = 7 := by omega
  rcases h8 with rfl | rfl | rfl | rfl | rfl | rfl | rfl | rfl <;> rfl
def mixU (p : Int) (M : Nat → Nat → Int) (x : List Int) (i j : Nat) : List Int := (List.range 8).map fun r => if r < i then dotP p (fun k => fmul p (M r k) (nth x k)) 8 else if r = i then dotP p (fun k => fmul p (M r k) (nth x k)) j else 0
theorem mixU_length (p : Int) (M : Nat → Nat → Int) (x : List Int) (i j : Nat) : (mixU p M x i j).length = 8 := by simp [mixU]
theorem mixU_nth (p : Int) (M : Nat → Nat → Int) (x : List Int) (i j : Nat) {r : Nat} (hr : r < 8) : nth (mixU p M x i j) r = if r < i then dotP p (fun k => fmul p (M r k) (nth x k)) 8 else if r = i then dotP p (fun k => fmul p (M r k) (nth x k)) j else 0 := by
  rw [nth_eq (by rw [mixU_length]; exact hr)]; simp [mixU]
theorem mixU_zero (p : Int) (M : Nat → Nat → Int) (x : List Int) : mixU p M x 0 0 = List.replicate 8 0 := by
  apply List.ext_getElem (by simp [mixU])
  intro r h1 h2
  simp only [mixU, List.getElem_map, List.getElem_range, List.getElem_replicate]
  by_cases h : r = 0
  · subst h; simp [dotP]
  · simp [h]
theorem mixU_step (p : Int) (M : Nat → Nat → Int) (x : List Int) (i j : Nat) (hi : i < 8) : (mixU p M x i j).set i (fadd p (nth (mixU p M x i j) i) (fmul p (M i j) (nth x j))) = mixU p M x i (j + 1) := by
  apply List.ext_getElem (by simp [mixU])
  intro r h1 h2
  have hr : r < 8 := by simpa [mixU] using h2
  rw [List.getElem_set]
  by_cases h : i = r
  · subst h
    rw [if_pos rfl, mixU_nth p M x i j hi, if_neg (by omega), if_pos rfl]
    simp [mixU, dotP]
  · rw [if_neg h]
    simp [mixU, show ¬ r = i from fun e => h e.symm]
theorem mixU_next (p : Int) (M : Nat → Nat → Int) (x : List Int) (i : Nat) : mixU p M x i 8 = mixU p M x (i + 1) 0 := by
  unfold mixU
  refine List.map_congr_left fun r _ => ?_
  by_cases h : r < i
  · rw [if_pos h, if_pos (by omega)]
  · rw [if_neg h]
    by_cases h2 : r = i
    · rw [if_pos h2, if_pos (by omega)]
    · rw [if_neg h2, if_neg (by omega)]
      by_cases h3 : r = i + 1
      · rw [if_pos h3]; rfl
      · rw [if_neg h3]
theorem mixU_all (p : Int) (x : List Int) : mixU p (fun r j => finv p ((r : Int) + j + 8)) x 8 0 = mixT p x := by
  unfold mixU mixT
  refine List.map_congr_left fun r hr => ?_
  rw [if_pos (List.mem_range.1 hr)]
end Go.Att
namespace Go.Proofs.YtfepefbehgbjpaaGreatDoor
open Go.RowKit Go.Att
section
variable {w : World} {b bf : Nat} {p g k rt : Int} {fs : List Int} {M : Nat → Nat → Int}
set_option maxRecDepth 100000 in
set_option maxHeartbeats 4000000 in
theorem constant_any (hs : SpB w b (.pointer (some ⟨bf, 0, none⟩)) k rt M) (hf : Fld w (.pointer (some ⟨bf, 0, none⟩)) p g fs) (r i : Nat) (hr : r < 8) (hi : i < 8) :
    Calls Tryz.prog 150 #[.pointer (some ⟨b, 0, none⟩), .int .i64 r, .int .i64 i] w (Rd w (.int .i64 (cstP p r i))) := by
  have HF := Lib.hid hf
  have c0 := hs.c0
  have hr2 : (r : Int) < 8 := by omega
  have hi2 : (i : Int) < 8 := by omega
  have hr3 : (0 : Int) ≤ r := by omega
  have hi3 : (0 : Int) ≤ i := by omega
  clear hs hf
  go_enter Tryz.func150, Tryz.ntmps150
  go_wp2_with fail
  go_quiet ((first | (go_at_call 32; exact pow_q HF.out _ _ (by omega) (by omega) _) | (go_at_call 78; exact add_q HF.out _ _ _)))
  go_wp2_with fail
  go_ret
  exact .more _ rfl
theorem ptr8_0 (sb off : Nat) (w : World) : (Instr.indexAt 109 (.pointer (some ⟨sb, off, none⟩)) (.int .i64 0)).run Tryz.prog w = .ok (.pointer (some ⟨sb, off + 0, none⟩)) w := by kernel_rfl
theorem ptr8_1 (sb off : Nat) (w : World) : (Instr.indexAt 109 (.pointer (some ⟨sb, off, none⟩)) (.int .i64 1)).run Tryz.prog w = .ok (.pointer (some ⟨sb, off + 1, none⟩)) w := by kernel_rfl
theorem ptr8_2 (sb off : Nat) (w : World) : (Instr.indexAt 109 (.pointer (some ⟨sb, off, none⟩)) (.int .i64 2)).run Tryz.prog w = .ok (.pointer (some ⟨sb, off + 2, none⟩)) w := by kernel_rfl
theorem ptr8_3 (sb off : Nat) (w : World) : (Instr.indexAt 109 (.pointer (some ⟨sb, off, none⟩)) (.int .i64 3)).run Tryz.prog w = .ok (.pointer (some ⟨sb, off + 3, none⟩)) w := by kernel_rfl
theorem ptr8_4 (sb off : Nat) (w : World) : (Instr.indexAt 109 (.pointer (some ⟨sb, off, none⟩)) (.int .i64 4)).run Tryz.prog w = .ok (.pointer (some ⟨sb, off + 4, none⟩)) w := by kernel_rfl
theorem ptr8_5 (sb off : Nat) (w : World) : (Instr.indexAt 109 (.pointer (some ⟨sb, off, none⟩)) (.int .i64 5)).run Tryz.prog w = .ok (.pointer (some ⟨sb, off + 5, none⟩)) w := by kernel_rfl
theorem ptr8_6 (sb off : Nat) (w : World) : (Instr.indexAt 109 (.pointer (some ⟨sb, off, none⟩)) (.int .i64 6)).run Tryz.prog w = .ok (.pointer (some ⟨sb, off + 6, none⟩)) w := by kernel_rfl
theorem ptr8_7 (sb off : Nat) (w : World) : (Instr.indexAt 109 (.pointer (some ⟨sb, off, none⟩)) (.int .i64 7)).run Tryz.prog w = .ok (.pointer (some ⟨sb, off + 7, none⟩)) w := by kernel_rfl
theorem ptr8 (sb off j : Nat) (hj : j < 8) (w : World) : (Instr.indexAt 109 (.pointer (some ⟨sb, off, none⟩)) (.int .i64 (j : Int))).run Tryz.prog w = .ok (.pointer (some ⟨sb, off + j, none⟩)) w := by
  have h8 : j = 0 ∨ j = 1 ∨ j = 2 ∨ j = 3 ∨ j = 4 ∨ j = 5 ∨ j = 6 ∨ j = 7 := by omega
  rcases h8 with rfl | rfl | rfl | rfl | rfl | rfl | rfl | rfl
  · exact ptr8_0 _ _ w
  · exact ptr8_1 _ _ w
  · exact ptr8_2 _ _ w
  · exact ptr8_3 _ _ w
  · exact ptr8_4 _ _ w
  · exact ptr8_5 _ _ w
  · exact ptr8_6 _ _ w
  · exact ptr8_7 _ _ w
end
end Go.Proofs.YtfepefbehgbjpaaGreatDoor
end
section
namespace Go.Proofs.YtfepefbehgbjpaaGreatDoor
open Go.RowKit Go.Att
theorem ptr64_0 (sb off : Nat) (w : World) : (Instr.indexAt 110 (.pointer (some ⟨sb, off, none⟩)) (.int .i64 0)).run Tryz.prog w = .ok (.pointer (some ⟨sb, off + 0, none⟩)) w := by kernel_rfl
theorem ptr64_1 (sb off : Nat) (w : World) : (Instr.indexAt 110 (.pointer (some ⟨sb, off, none⟩)) (.int .i64 1)).run Tryz.prog w = .ok (.pointer (some ⟨sb, off + 8, none⟩)) w := by kernel_rfl
theorem ptr64_2 (sb off : Nat) (w : World) : (Instr.indexAt 110 (.pointer (some ⟨sb, off, none⟩)) (.int .i64 2)).run Tryz.prog w = .ok (.pointer (some ⟨sb, off + 16, none⟩)) w := by kernel_rfl
theorem ptr64_3 (sb off : Nat) (w : World) : (Instr.indexAt 110 (.pointer (some ⟨sb, off, none⟩)) (.int .i64 3)).run Tryz.prog w = .ok (.pointer (some ⟨sb, off + 24, none⟩)) w := by kernel_rfl
theorem ptr64_4 (sb off : Nat) (w : World) : (Instr.indexAt 110 (.pointer (some ⟨sb, off, none⟩)) (.int .i64 4)).run Tryz.prog w = .ok (.pointer (some ⟨sb, off + 32, none⟩)) w := by kernel_rfl
theorem ptr64_5 (sb off : Nat) (w : World) : (Instr.indexAt 110 (.pointer (some ⟨sb, off, none⟩)) (.int .i64 5)).run Tryz.prog w = .ok (.pointer (some ⟨sb, off + 40, none⟩)) w := by kernel_rfl
theorem ptr64_6 (sb off : Nat) (w : World) : (Instr.indexAt 110 (.pointer (some ⟨sb, off, none⟩)) (.int .i64 6)).run Tryz.prog w = .ok (.pointer (some ⟨sb, off + 48, none⟩)) w := by kernel_rfl
theorem ptr64_7 (sb off : Nat) (w : World) : (Instr.indexAt 110 (.pointer (some ⟨sb, off, none⟩)) (.int .i64 7)).run Tryz.prog w = .ok (.pointer (some ⟨sb, off + 56, none⟩)) w := by kernel_rfl
theorem ptr64 (sb off i : Nat) (hi : i < 8) (w : World) : (Instr.indexAt 110 (.pointer (some ⟨sb, off, none⟩)) (.int .i64 (i : Int))).run Tryz.prog w = .ok (.pointer (some ⟨sb, off + i * 8, none⟩)) w := by
  have h8 : i = 0 ∨ i = 1 ∨ i = 2 ∨ i = 3 ∨ i = 4 ∨ i = 5 ∨ i = 6 ∨ i = 7 := by omega
  rcases h8 with rfl | rfl | rfl | rfl | rfl | rfl | rfl | rfl
  · exact ptr64_0 _ _ w
  · exact ptr64_1 _ _ w
  · exact ptr64_2 _ _ w
  · exact ptr64_3 _ _ w
  · exact ptr64_4 _ _ w
  · exact ptr64_5 _ _ w
  · exact ptr64_6 _ _ w
  · exact ptr64_7 _ _ w
theorem ix8_0 (f : Nat → Int) (w : World) : (Instr.index 109 (.agg #[.int .i64 (f 0), .int .i64 (f 1), .int .i64 (f 2), .int .i64 (f 3), .int .i64 (f 4), .int .i64 (f 5), .int .i64 (f 6), .int .i64 (f 7)]) (.int .i64 0)).run Tryz.prog w = .ok (.int .i64 (f 0)) w := by kernel_rfl
theorem ix8_1 (f : Nat → Int) (w : World) : (Instr.index 109 (.agg #[.int .i64 (f 0), .int .i64 (f 1), .int .i64 (f 2), .int .i64 (f 3), .int .i64 (f 4), .int .i64 (f 5), .int .i64 (f 6), .int .i64 (f 7)]) (.int .i64 1)).run Tryz.prog w = .ok (.int .i64 (f 1)) w := by kernel_rfl
theorem ix8_2 (f : Nat → Int) (w : World) : (Instr.index 109 (.agg #[.int .i64 (f 0), .int .i64 (f 1), .int .i64 (f 2), .int .i64 (f 3), .int .i64 (f 4), .int .i64 (f 5), .int .i64 (f 6), .int .i64 (f 7)]) (.int .i64 2)).run Tryz.prog w = .ok (.int .i64 (f 2)) w := by kernel_rfl
theorem ix8_3 (f : Nat → Int) (w : World) : (Instr.index 109 (.agg #[.int .i64 (f 0), .int .i64 (f 1), .int .i64 (f 2), .int .i64 (f 3), .int .i64 (f 4), .int .i64 (f 5), .int .i64 (f 6), .int .i64 (f 7)]) (.int .i64 3)).run Tryz.prog w = .ok (.int .i64 (f 3)) w := by kernel_rfl
theorem ix8_4 (f : Nat → Int) (w : World) : (Instr.index 109 (.agg #[.int .i64 (f 0), .int .i64 (f 1), .int .i64 (f 2), .int .i64 (f 3), .int .i64 (f 4), .int .i64 (f 5), .int .i64 (f 6), .int .i64 (f 7)]) (.int .i64 4)).run Tryz.prog w = .ok (.int .i64 (f 4)) w := by kernel_rfl
theorem ix8_5 (f : Nat → Int) (w : World) : (Instr.index 109 (.agg #[.int .i64 (f 0), .int .i64 (f 1), .int .i64 (f 2), .int .i64 (f 3), .int .i64 (f 4), .int .i64 (f 5), .int .i64 (f 6), .int .i64 (f 7)]) (.int .i64 5)).run Tryz.prog w = .ok (.int .i64 (f 5)) w := by kernel_rfl
theorem ix8_6 (f : Nat → Int) (w : World) : (Instr.index 109 (.agg #[.int .i64 (f 0), .int .i64 (f 1), .int .i64 (f 2), .int .i64 (f 3), .int .i64 (f 4), .int .i64 (f 5), .int .i64 (f 6), .int .i64 (f 7)]) (.int .i64 6)).run Tryz.prog w = .ok (.int .i64 (f 6)) w := by kernel_rfl
theorem ix8_7 (f : Nat → Int) (w : World) : (Instr.index 109 (.agg #[.int .i64 (f 0), .int .i64 (f 1), .int .i64 (f 2), .int .i64 (f 3), .int .i64 (f 4), .int .i64 (f 5), .int .i64 (f 6), .int .i64 (f 7)]) (.int .i64 7)).run Tryz.prog w = .ok (.int .i64 (f 7)) w := by kernel_rfl
theorem ix8 (f : Nat → Int) (j : Nat) (hj : j < 8) (w : World) : (Instr.index 109 (.agg #[.int .i64 (f 0), .int .i64 (f 1), .int .i64 (f 2), .int .i64 (f 3), .int .i64 (f 4), .int .i64 (f 5), .int .i64 (f 6), .int .i64 (f 7)]) (.int .i64 (j : Int))).run Tryz.prog w = .ok (.int .i64 (f j)) w := by
  have h8 : j = 0 ∨ j = 1 ∨ j = 2 ∨ j = 3 ∨ j = 4 ∨ j = 5 ∨ j = 6 ∨ j = 7 := by omega
  rcases h8 with rfl | rfl | rfl | rfl | rfl | rfl | rfl | rfl
  · exact ix8_0 f w
  · exact ix8_1 f w
  · exact ix8_2 f w
  · exact ix8_3 f w
  · exact ix8_4 f w
  · exact ix8_5 f w
  · exact ix8_6 f w
  · exact ix8_7 f w
theorem hm1 {w wr : World} {bm o : Nat} {M : Nat → Nat → Int} (hm : MxO w bm o M) (hx : Ext w wr) (i : Nat) (hi : i < 8) (j : Nat) (hj : j < 8) : wr.cell? ⟨bm, o + i * 8 + j, none⟩ = some (.int .i64 (M i j)) := hx.cell (hm i j hi hj).1
theorem blk8 {w : World} {b : Nat} {l : List Int} {t : TypeId} (h : BlkOf w b (c8 l) t) : w.cell? ⟨b, 0, none⟩ = some (.int .i64 (nth l 0)) ∧ w.cell? ⟨b, 1, none⟩ = some (.int .i64 (nth l 1)) ∧ w.cell? ⟨b, 2, none⟩ = some (.int .i64 (nth l 2)) ∧ w.cell? ⟨b, 3, none⟩ = some (.int .i64 (nth l 3)) ∧ w.cell? ⟨b, 4, none⟩ = some (.int .i64 (nth l 4)) ∧ w.cell? ⟨b, 5, none⟩ = some (.int .i64 (nth l 5)) ∧ w.cell? ⟨b, 6, none⟩ = some (.int .i64 (nth l 6)) ∧ w.cell? ⟨b, 7, none⟩ = some (.int .i64 (nth l 7)) :=
  ⟨h.cell 0, h.cell 1, h.cell 2, h.cell 3, h.cell 4, h.cell 5, h.cell 6, h.cell 7⟩
theorem at_row8 {w W : World} {b : Nat} {cs : List Value} {t : TypeId} (h : BlkOf W b cs t) (a0 a1 a2 a3 a4 a5 a6 a7 : Int) (hb : w.heap.size ≤ b) (hx : Ext w W) :
    BlkOf ((((((((W.setCell ⟨b, 0, none⟩ (.int .i64 a0)).setCell ⟨b, 1, none⟩ (.int .i64 a1)).setCell ⟨b, 2, none⟩ (.int .i64 a2)).setCell ⟨b, 3, none⟩ (.int .i64 a3)).setCell ⟨b, 4, none⟩ (.int .i64 a4)).setCell ⟨b, 5, none⟩ (.int .i64 a5)).setCell ⟨b, 6, none⟩ (.int .i64 a6)).setCell ⟨b, 7, none⟩ (.int .i64 a7)) b
      ((((((((cs.set 0 (.int .i64 a0)).set 1 (.int .i64 a1)).set 2 (.int .i64 a2)).set 3 (.int .i64 a3)).set 4 (.int .i64 a4)).set 5 (.int .i64 a5)).set 6 (.int .i64 a6)).set 7 (.int .i64 a7)) t ∧
    Ext w ((((((((W.setCell ⟨b, 0, none⟩ (.int .i64 a0)).setCell ⟨b, 1, none⟩ (.int .i64 a1)).setCell ⟨b, 2, none⟩ (.int .i64 a2)).setCell ⟨b, 3, none⟩ (.int .i64 a3)).setCell ⟨b, 4, none⟩ (.int .i64 a4)).setCell ⟨b, 5, none⟩ (.int .i64 a5)).setCell ⟨b, 6, none⟩ (.int .i64 a6)).setCell ⟨b, 7, none⟩ (.int .i64 a7)) :=
  ⟨(((((((h.set 0 _).set 1 _).set 2 _).set 3 _).set 4 _).set 5 _).set 6 _).set 7 _, Below.setCell (Below.setCell (Below.setCell (Below.setCell (Below.setCell (Below.setCell (Below.setCell (Below.setCell hx hb _) hb _) hb _) hb _) hb _) hb _) hb _) hb _⟩
section
variable {w : World} {b bf bm o : Nat} {p g : Int} {fs : List Int} {M : Nat → Nat → Int}
set_option maxRecDepth 100000 in
set_option maxHeartbeats 4000000 in
theorem times_any (hc : w.cell? ⟨b, 0, none⟩ = some (.pointer (some ⟨bf, 0, none⟩))) (hf : Fld w (.pointer (some ⟨bf, 0, none⟩)) p g fs) (hm : MxO w bm o M) (x : List Int) :
    Calls Tryz.prog 151 #[.pointer (some ⟨b, 0, none⟩), .pointer (some ⟨bm, o, none⟩), st8 x] w (Gives w fun u _ => u = st8 (mixU p M x 8 0)) := by
  have HF := Lib.hid hf; have HM := Lib.hid hm
  clear hf hm
  unfold st8
  go_enter Tryz.func151, Tryz.ntmps151
  go_wp2_with fail
  obtain ⟨W0, hW0⟩ : ∃ W0, W0 = (((w.alloc (Obj.cells #[.int .i64 (nth x 0), .int .i64 (nth x 1), .int .i64 (nth x 2), .int .i64 (nth x 3), .int .i64 (nth x 4), .int .i64 (nth x 5), .int .i64 (nth x 6), .int .i64 (nth x 7)] 109)).alloc (Obj.cells #[.int .i64 0, .int .i64 0, .int .i64 0, .int .i64 0, .int .i64 0, .int .i64 0, .int .i64 0, .int .i64 0] 109)).alloc (Obj.cells #[.int .i64 0, .int .i64 0, .int .i64 0, .int .i64 0, .int .i64 0, .int .i64 0, .int .i64 0, .int .i64 0] 109)) := ⟨_, rfl⟩
  rw [← hW0]
  have HX0 := Lib.hid (show Ext w W0 from by rw [hW0]; exact ((Ext.alloc w _).trans (Ext.alloc _ _)).trans (Ext.alloc _ _))
  have HBX := Lib.hid (show BlkOf W0 w.heap.size (c8 x) 109 from by rw [hW0]; exact ((BlkOf.new w (c8 x) 109).ext (Ext.alloc _ _)).ext (Ext.alloc _ _))
  have HBR := Lib.hid (show BlkOf W0 (w.heap.size + 1) (c8 (List.replicate 8 0)) 109 from by rw [hW0]; have h := (BlkOf.new (w.alloc (Obj.cells (c8 x).toArray 109)) (c8 (List.replicate 8 0)) 109).ext (Ext.alloc _ (Obj.cells (c8 (List.replicate 8 0)).toArray 109)); rw [show (w.alloc (Obj.cells (c8 x).toArray 109)).heap.size = w.heap.size + 1 from by simp] at h; exact h)
  have HBO := Lib.hid (show BlkOf W0 (w.heap.size + 1 + 1) (c8 (mixU p M x 0 0)) 109 from by rw [mixU_zero, hW0]; have h := (BlkOf.new ((w.alloc (Obj.cells (c8 x).toArray 109)).alloc (Obj.cells (c8 (List.replicate 8 0)).toArray 109)) (c8 (List.replicate 8 0)) 109); rw [show ((w.alloc (Obj.cells (c8 x).toArray 109)).alloc (Obj.cells (c8 (List.replicate 8 0)).toArray 109)).heap.size = w.heap.size + 1 + 1 from by simp] at h; exact h)
  have hsz : w.heap.size + 1 + 1 < W0.heap.size := HBO.out.lt
  clear hW0
  go_loopw [8, 9, 10, 11, 14] (fun _ _ _ _ x14 wr => ∃ i : Nat, i ≤ 8 ∧ x14 = .int .i64 i ∧ Hid (BlkOf wr w.heap.size (c8 x) 109) ∧ Hid (BlkOf wr (w.heap.size + 1) (c8 (List.replicate 8 0)) 109) ∧ Hid (BlkOf wr (w.heap.size + 1 + 1) (c8 (mixU p M x i 0)) 109) ∧ Hid (Ext w wr)) (fun _ _ _ _ x14 _ => 8 - (intOf x14).toNat)
  case atStart => exact ⟨0, by omega, rfl, HBX, HBR, HBO, HX0⟩
  case round =>
    clear HBX HBR HBO HX0
    obtain ⟨i, hi, rfl, HBX, HBR, HBO, HX⟩ := hrel
    by_cases hi8 : i < 8
    · have hi88 : (i : Int) < 8 := by omega
      have hpt := fun w' => ptr64 (w := w') bm o i hi8
      have k0 : wr.cell? ⟨bm, o + i * 8, none⟩ = some (.int .i64 (M i 0)) := hm1 HM.out HX.out i hi8 0 (by omega)
      have k1 := hm1 HM.out HX.out i hi8 1 (by omega)
      have k2 := hm1 HM.out HX.out i hi8 2 (by omega)
      have k3 := hm1 HM.out HX.out i hi8 3 (by omega)
      have k4 := hm1 HM.out HX.out i hi8 4 (by omega)
      have k5 := hm1 HM.out HX.out i hi8 5 (by omega)
      have k6 := hm1 HM.out HX.out i hi8 6 (by omega)
      have k7 := hm1 HM.out HX.out i hi8 7 (by omega)
      have hbm : bm < wr.heap.size := World.block_lt_of_cell? wr _ k0
      have hne : ¬ bm = wr.heap.size := by omega
      have hne' : ¬ wr.heap.size = bm := by omega
      go_wp2_with fail
      go_region
      have hxr := (Ext.alloc wr (Obj.cells #[.int .i64 (M i 0), .int .i64 (M i 1), .int .i64 (M i 2), .int .i64 (M i 3), .int .i64 (M i 4), .int .i64 (M i 5), .int .i64 (M i 6), .int .i64 (M i 7)] 109)).trans (Ext.drew _)
      have hrw := (BlkOf.new wr (c8 [M i 0, M i 1, M i 2, M i 3, M i 4, M i 5, M i 6, M i 7]) 109).ext (Ext.drew _)
      obtain ⟨m0, m1, m2, m3, m4, m5, m6, m7⟩ := blk8 hrw
      generalize hW4 : (wr.alloc (Obj.cells #[.int .i64 (M i 0), .int .i64 (M i 1), .int .i64 (M i 2), .int .i64 (M i 3), .int .i64 (M i 4), .int .i64 (M i 5), .int .i64 (M i 6), .int .i64 (M i 7)] 109)).drew = W4 at *
      replace m0 : W4.cell? ⟨wr.heap.size, 0, none⟩ = some (.int .i64 (M i 0)) := by rw [← hW4]; exact m0
      replace m1 : W4.cell? ⟨wr.heap.size, 1, none⟩ = some (.int .i64 (M i 1)) := by rw [← hW4]; exact m1
      replace m2 : W4.cell? ⟨wr.heap.size, 2, none⟩ = some (.int .i64 (M i 2)) := by rw [← hW4]; exact m2
      replace m3 : W4.cell? ⟨wr.heap.size, 3, none⟩ = some (.int .i64 (M i 3)) := by rw [← hW4]; exact m3
      replace m4 : W4.cell? ⟨wr.heap.size, 4, none⟩ = some (.int .i64 (M i 4)) := by rw [← hW4]; exact m4
      replace m5 : W4.cell? ⟨wr.heap.size, 5, none⟩ = some (.int .i64 (M i 5)) := by rw [← hW4]; exact m5
      replace m6 : W4.cell? ⟨wr.heap.size, 6, none⟩ = some (.int .i64 (M i 6)) := by rw [← hW4]; exact m6
      replace m7 : W4.cell? ⟨wr.heap.size, 7, none⟩ = some (.int .i64 (M i 7)) := by rw [← hW4]; exact m7
      clear hW4 hrw
      have HX4 := Lib.hid (HX.out.trans hxr)
      have HBX4 := Lib.hid (HBX.out.ext hxr)
      have HBR4 := Lib.hid (HBR.out.ext hxr)
      have HBO4 := Lib.hid (HBO.out.ext hxr)
      clear hxr HX HBX HBR HBO k0 k1 k2 k3 k4 k5 k6 k7 hpt
      go_wp2_with fail
      go_loopw [10, 11, 21] (fun _ _ x21 wq => ∃ j : Nat, j ≤ 8 ∧ x21 = .int .i64 j ∧ Hid (BlkOf wq w.heap.size (c8 x) 109) ∧ Hid (BlkOf wq (w.heap.size + 1) (c8 (List.replicate 8 0)) 109) ∧ Hid (BlkOf wq (w.heap.size + 1 + 1) (c8 (mixU p M x i j)) 109) ∧ Hid (Ext w wq)) (fun _ _ x21 _ => 8 - (intOf x21).toNat)
      case atStart => exact ⟨0, by omega, rfl, HBX4, HBR4, HBO4, HX4⟩
      case round =>
        clear HBX4 HBR4 HBO4 HX4 m0 m1 m2 m3 m4 m5 m6 m7
        obtain ⟨j, hj, rfl, HBX, HBR, HBO, HX⟩ := hrel
        by_cases hj8 : j < 8
        · have hj88 : (j : Int) < 8 := by omega
          have hix := fun w' => ix8 (fun j => M i j) j hj8 w'
          have hp1 := fun w' => ptr8 w.heap.size 0 j hj8 w'
          have hp2 := fun w' => ptr8 (w.heap.size + 1 + 1) 0 i hi8 w'
          simp only [Nat.zero_add] at hp1 hp2
          have d1 : wr.cell? ⟨w.heap.size, j, none⟩ = some (.int .i64 (nth x j)) := (HBX.out.cell j).trans (c8_at x j hj8)
          have d2 : wr.cell? ⟨w.heap.size + 1 + 1, i, none⟩ = some (.int .i64 (nth (mixU p M x i j) i)) := (HBO.out.cell i).trans (c8_at _ i hi8)
          have d3 := HBO.out.free i
          have d0 := HX.out.cell hc
          have HFW := Lib.hid (HF.out.ext HX.out)
          have HST := Lib.hid (mixU_step p M x i j hi8)
          have HC8 := Lib.hid (fun v => c8_set (mixU p M x i j) i v (mixU_length p M x i j) hi8)
          generalize nth (mixU p M x i j) i = s0 at *
          generalize nth x j = xj at *
          generalize M i j = mij at *
          go_wp2_with fail
          refine wp_region_quiet_tail 19 (by kernel_rfl) (by kernel_rfl) ?_
          simp only [List.take_succ_cons, List.take_zero, List.drop_succ_cons, List.drop_zero]
          repeat (go_big_quiet_step (first | (go_at_call 79; exact mul_q HFW.out _ _ _) | (go_at_call 78; exact add_q HFW.out _ _ _)))
          refine wpQuiet_nil ?_
          rintro _ ⟨nq, rfl⟩
          have HX5 := Lib.hid (HX.out.trans (Ext.drewN wr nq))
          have HBX5 := Lib.hid (HBX.out.ext (Ext.drewN wr nq))
          have HBR5 := Lib.hid (HBR.out.ext (Ext.drewN wr nq))
          have HBO5 := Lib.hid (HBO.out.ext (Ext.drewN wr nq))
          clear hix hp1 hp2 d0 d1 HX HBX HBR HBO
          go_wp2_with fail
          go_roundw
          case rel => exact ⟨j + 1, by omega, by go_num, Lib.hid (HBX5.out.grown (setCell_grown _ _ _ _) (by simp <;> omega)), Lib.hid (HBR5.out.grown (setCell_grown _ _ _ _) (by simp)), Lib.hid (by have h := HBO5.out.set i (.int .i64 (fadd p s0 (fmul p mij xj))); rw [HC8.out, HST.out] at h; exact h), Lib.hid (Below.setCell HX5.out (by show w.heap.size ≤ w.heap.size + 1 + 1; omega) _)⟩
          case measure => simp [intOf]; omega
        · obtain rfl : j = 8 := by omega
          have HBO2 := Lib.hid (show BlkOf wr (w.heap.size + 1 + 1) (c8 (mixU p M x (i + 1) 0)) 109 from by rw [← mixU_next]; exact HBO.out)
          go_wp2_with fail
          go_roundw
          case rel => exact ⟨i + 1, by omega, by go_num, HBX, HBR, HBO2, HX⟩
          case measure => simp [intOf]; omega
    · obtain rfl : i = 8 := by omega
      obtain ⟨m0, m1, m2, m3, m4, m5, m6, m7⟩ := blk8 HBO.out
      obtain ⟨r0, r1, r2, r3, r4, r5, r6, r7⟩ := blk8 HBR.out
      have s0 := HBR.out.free 0
      have s1 := HBR.out.free 1
      have s2 := HBR.out.free 2
      have s3 := HBR.out.free 3
      have s4 := HBR.out.free 4
      have s5 := HBR.out.free 5
      have s6 := HBR.out.free 6
      have s7 := HBR.out.free 7
      go_wp2_with fail
      obtain ⟨hb, hx⟩ := at_row8 HBR.out (nth (mixU p M x 8 0) 0) (nth (mixU p M x 8 0) 1) (nth (mixU p M x 8 0) 2) (nth (mixU p M x 8 0) 3) (nth (mixU p M x 8 0) 4) (nth (mixU p M x 8 0) 5) (nth (mixU p M x 8 0) 6) (nth (mixU p M x 8 0) 7) (by omega) HX.out
      refine bodyPost_ret (results_cell_row rfl _ _ (w.heap.size + 1) 109 _ _ _ rfl hb Tryz.underlying109 rfl (by kernel_rfl)) rfl ?_
      exact .mk _ rfl hx rfl
end
end Go.Proofs.YtfepefbehgbjpaaGreatDoor
end
