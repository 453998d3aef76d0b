/- A layer's sum, the program's side: one side of a wire. A layer's sum, the program's side: the sum over the wires. A layer's sum, the program's side: Part with its faults. What a table is at a point, the program's side: Extend. A circuit of one gate, built in place. -/
import Derived.Test.YtcpnidomdkaefaaGreatDoorZx3
import Derived.Test.YtcpnidomdkaefaaGreatDoorZx6
import Derived.Deep.RegionWith
section
namespace Go.Att
open Go.RowKit
theorem idx_cast {P : Program} {t : TypeId} {v r : Value} {k k' : Int} (h : ∀ w', (Instr.indexAt t v (.int .i64 k)).run P w' = .ok r w') (e : k' = k) : ∀ w', (Instr.indexAt t v (.int .i64 k')).run P w' = .ok r w' := e ▸ h
theorem fixAll_step (p : Int) (T s : List Int) {k : Nat} (h : k < s.length) : fixAll p T (s.take (k + 1)) = fixL p (fixAll p T (s.take k)) (nth s k) := by
  rw [List.take_succ_eq_append_getElem h, fixAll_snoc]
  congr 1
  simp [nth, h]
theorem and_mask : ∀ r : Nat, r < 7 → ∀ A : Nat, A < 64 → bits BinOp.and IntKind.i64 (A : Int) ((2 : Int) ^ r - 1) = ((A % 2 ^ r : Nat) : Int) := by decide +kernel
theorem vrow_two {p wd : Int} {Ls : List (List Tri)} {inp : List Int} {n i : Nat} (hE : cirErr wd Ls = 0) (hin : (inp.length : Int) = 2 ^ wd.toNat) (hi : i < Ls.length) (hn : beneath wd Ls i = n) : (vrow p Ls inp i).length = 2 ^ n := by
  have h1 := vrow_length (p := p) (Ls := Ls) hin i
  have h2 := below_pow (cirErr_ok hE).1 hi
  rw [hn, Int.toNat_natCast] at h2
  rw [h2] at h1
  exact_mod_cast h1
end Go.Att
namespace Go.Proofs.YtcpnidomdkaefaaGreatDoor
open Go.RowKit Go.Att

end Go.Proofs.YtcpnidomdkaefaaGreatDoor
end
section
namespace Go.Att
open Go.RowKit
theorem partS_step (_p : Int) (l : List Tri) (n : Nat) (t z xs : List Int) (k : Nat) : partS l n t z xs (k + 1) = partS l n t z xs k + partT n t z xs k (nthT l k) := rfl
theorem fapp_gop {p k va vb X Y : Int} (h1 : va % p = X % p) (h2 : vb % p = Y % p) : fapp p k va vb = gop k X Y % p := by
  unfold fapp gop
  split
  · exact mmul h1 h2
  · exact madd h1 h2
theorem wpart_step {p S wz s1 s2 k va vb X Y : Int} (h1 : va % p = X % p) (h2 : vb % p = Y % p) : fadd p (S % p) (fmul p (fmul p (wz % p) (fmul p (s1 % p) (s2 % p))) (fapp p k va vb)) = (S + wz * (s1 * s2) * gop k X Y) % p := by
  rw [fapp_gop h1 h2]
  simp only [fadd, fmul, em_l, em_r, ea_l, ea_r]
end Go.Att
namespace Go.Proofs.YtcpnidomdkaefaaGreatDoor
open Go.RowKit Go.Att

end Go.Proofs.YtcpnidomdkaefaaGreatDoor
end
section
namespace Go.Att
open Go.RowKit
open Classical in
/-- What is wrong with a layer, with so many numbers of two points. -/
noncomputable def partErr (wd : Int) (Ls : List (List Tri)) (m : Nat) (layer : Int) (lz lx : Nat) : Int :=
  if walkErr wd Ls m = 0 then (if layB layer Ls.length = true then (if (lz : Int) = wideOf (nthY Ls layer.toNat).length ∧ (lx : Int) ≤ 2 * beneath wd Ls layer.toNat then 0 else 2) else 3) else walkErr wd Ls m
/-- The sum. -/
noncomputable def partV (p wd : Int) (Ls : List (List Tri)) (inp : List Int) (i : Nat) (z xs : List Int) : Int := partS (nthY Ls i) (beneath wd Ls i).toNat (vrow p Ls inp i) z xs (nthY Ls i).length % p
/-- .. 0 where something is wrong. -/
noncomputable def partR (p wd : Int) (Ls : List (List Tri)) (inp : List Int) (layer : Int) (z xs : List Int) : Int := if partErr wd Ls inp.length layer z.length xs.length = 0 then partV p wd Ls inp layer.toNat z xs else 0
theorem partErr_ok {wd : Int} {Ls : List (List Tri)} {m : Nat} {layer : Int} {lz lx : Nat} (h : partErr wd Ls m layer lz lx = 0) : walkErr wd Ls m = 0 ∧ layB layer Ls.length = true ∧ (lz : Int) = wideOf (nthY Ls layer.toNat).length ∧ (lx : Int) ≤ 2 * beneath wd Ls layer.toNat := by
  unfold partErr at h
  by_cases h1 : walkErr wd Ls m = 0
  · rw [if_pos h1] at h
    by_cases h2 : layB layer Ls.length = true
    · rw [if_pos h2] at h
      by_cases h3 : (lz : Int) = wideOf (nthY Ls layer.toNat).length ∧ (lx : Int) ≤ 2 * beneath wd Ls layer.toNat
      · exact ⟨h1, h2, h3.1, h3.2⟩
      · rw [if_neg h3] at h; omega
    · rw [if_neg h2] at h; omega
  · rw [if_neg h1] at h; exact absurd h h1
theorem partErr_mk {wd : Int} {Ls : List (List Tri)} {m : Nat} {layer : Int} {lz lx : Nat} (h1 : walkErr wd Ls m = 0) (h2 : layB layer Ls.length = true) (h3 : (lz : Int) = wideOf (nthY Ls layer.toNat).length) (h4 : (lx : Int) ≤ 2 * beneath wd Ls layer.toNat) : partErr wd Ls m layer lz lx = 0 := by
  unfold partErr; rw [if_pos h1, if_pos h2, if_pos ⟨h3, h4⟩]
theorem partErr_1 {wd : Int} {Ls : List (List Tri)} {m : Nat} {layer : Int} {lz lx : Nat} (h : walkErr wd Ls m ≠ 0) : partErr wd Ls m layer lz lx = walkErr wd Ls m := by unfold partErr; rw [if_neg h]
theorem partErr_3 {wd : Int} {Ls : List (List Tri)} {m : Nat} {layer : Int} {lz lx : Nat} (h : walkErr wd Ls m = 0) (h2 : layB layer Ls.length = false) : partErr wd Ls m layer lz lx = 3 := by unfold partErr; rw [if_pos h, if_neg (by rw [h2]; decide)]
theorem partErr_2 {wd : Int} {Ls : List (List Tri)} {m : Nat} {layer : Int} {lz lx : Nat} (h : walkErr wd Ls m = 0) (h2 : layB layer Ls.length = true) (h3 : ¬ ((lz : Int) = wideOf (nthY Ls layer.toNat).length ∧ (lx : Int) ≤ 2 * beneath wd Ls layer.toNat)) : partErr wd Ls m layer lz lx = 2 := by unfold partErr; rw [if_pos h, if_pos h2, if_neg h3]
end Go.Att
namespace Go.Proofs.YtcpnidomdkaefaaGreatDoor
open Go.RowKit Go.Att

end Go.Proofs.YtcpnidomdkaefaaGreatDoor
end
section
namespace Go.Att
open Go.RowKit
theorem ext_end (p : Int) (t at_ : List Int) (k : Nat) (hl : t.length = 2 ^ k) (hla : at_.length = k) : fof p (nth (fixAll p t at_) 0) = ext t at_ % p := by
  have := half_is p t at_ k 0 (by omega) hl
  rw [hla, Nat.sub_self] at this
  simpa [bitsL, fof] using this
/-- A circuit of one gate that multiplies. -/
def oneC : List (List Tri) := [[(1, 0, 0)]]
theorem oneC_err : cirErr 0 oneC = 0 := by
  refine cirErr_zero ⟨by decide, by decide, by decide, by decide, fun i hi => ?_⟩ fun i hi k hk => ?_
  · have : i = 0 := by simp [oneC] at hi; exact hi
    subst this; decide
  · have : i = 0 := by simp [oneC] at hi; exact hi
    subst this
    have : k = 0 := by simp [oneC, nthY] at hk; exact hk
    subst this
    simp [gateOk, oneC, nthY, nthT, below]
theorem oneC_walk : walkErr 0 oneC ([1] : List Int).length = 0 := by unfold walkErr; rw [if_pos oneC_err]; rfl
theorem oneC_row {p : Int} (hp : 2 ≤ p) : vrow p oneC [1] 1 = [1] := by
  have h1 : (1 : Int) % p = 1 := one_mod hp
  simp [vrow, oneC, nthY, gval, nth, fmul, fof, h1]
theorem lys_one (w : World) (tg tl : TypeId) : LysAt ((w.alloc (Obj.cells #[.int .i64 1, .int .i64 0, .int .i64 0] tg)).alloc (Obj.cells #[.slice (some ⟨w.heap.size, 0, none⟩) 1 1] tl)) (.slice (some ⟨w.heap.size + 1, 0, none⟩) 1 1) oneC (fun _ => .slice (some ⟨w.heap.size, 0, none⟩) 1 1) := by
  refine ⟨⟨_, _, rfl, rfl, Nat.le_refl _, by unfold maxLen; omega, fun i hi => ?_⟩, fun i hi => ?_⟩
  · have h0 : i = 0 := by simpa [oneC] using hi
    subst h0
    have := cell_new (w.alloc (Obj.cells #[.int .i64 1, .int .i64 0, .int .i64 0] tg)) #[.slice (some ⟨w.heap.size, 0, none⟩) 1 1] tl 0
    have hs : (w.alloc (Obj.cells #[.int .i64 1, .int .i64 0, .int .i64 0] tg)).heap.size = w.heap.size + 1 := by simp
    rw [hs] at this
    exact ⟨_, _, rfl, this⟩
  · have h0 : i = 0 := by simpa [oneC] using hi
    subst h0
    have hx := Ext.alloc (w.alloc (Obj.cells #[.int .i64 1, .int .i64 0, .int .i64 0] tg)) (Obj.cells #[.slice (some ⟨w.heap.size, 0, none⟩) 1 1] tl)
    refine Trs.ext (w := w.alloc (Obj.cells #[.int .i64 1, .int .i64 0, .int .i64 0] tg)) ⟨_, _, rfl, rfl, Nat.le_refl _, by unfold maxLen; omega, fun j hj => ?_⟩ hx
    have h3 : j = 0 ∨ j = 1 ∨ j = 2 := by simp [flatT, oneC, nthY] at hj; omega
    rcases h3 with rfl | rfl | rfl
    · exact ⟨_, _, rfl, cell_new w #[.int .i64 1, .int .i64 0, .int .i64 0] tg 0⟩
    · exact ⟨_, _, rfl, cell_new w #[.int .i64 1, .int .i64 0, .int .i64 0] tg 1⟩
    · exact ⟨_, _, rfl, cell_new w #[.int .i64 1, .int .i64 0, .int .i64 0] tg 2⟩
theorem own_grown {w w' : World} {B e sz n : Nat} {v : Value} {xs : List Value} {r : Option Nat} (h : w.ownsRow B e sz v n xs) (hg : w.grownBy w' r) (hne : ∀ k, v.ownBlock = some k → some k ≠ r) : w'.ownsRow B e sz v n xs := by
  refine ⟨h.1, ?_⟩
  rcases h.2 with h2 | ⟨g, cap, cur, hv, hb, hgt, hr⟩
  · exact .inl h2
  · exact .inr ⟨g, cap, cur, hv, hb, by rw [hg.block g (Array.getElem?_eq_some_iff.1 hgt).1 (hne g (by rw [hv]; rfl))]; exact hgt, hr⟩
theorem ints_cs (l : List Int) : ∀ u ∈ l.map (Value.int .i64), u.oneCell' = true := by
  intro u hu; obtain ⟨x, -, rfl⟩ := List.mem_map.1 hu; rfl
/-- A list of one number, built in place. -/
theorem ints_lit (w : World) (x : Int) (ti : TypeId) : Ints (w.alloc (Obj.cells #[.int .i64 x] ti)) (.slice (some ⟨w.heap.size, 0, none⟩) 1 1) [x] := by
  refine ⟨_, _, rfl, rfl, Nat.le_refl _, by unfold maxLen; omega, fun i hi => ?_⟩
  have h0 : i = 0 := by simpa using hi
  subst h0
  exact ⟨_, _, rfl, cell_new w #[.int .i64 x] ti 0⟩
end Go.Att
namespace Go.Att
open Go.RowKit
theorem partR_bad {p wd : Int} {Ls : List (List Tri)} {inp z xs : List Int} {layer E : Int} (h : partErr wd Ls inp.length layer z.length xs.length = E) (hE : E ≠ 0) : partR p wd Ls inp layer z xs = 0 := by unfold partR; rw [h, if_neg hE]
theorem partR_ok {p wd : Int} {Ls : List (List Tri)} {inp z xs : List Int} {i : Nat} (h : partErr wd Ls inp.length i z.length xs.length = 0) : partR p wd Ls inp i z xs = partV p wd Ls inp i z xs := by unfold partR; rw [if_pos h, Int.toNat_natCast]
theorem gval_gop (p : Int) (row : List Int) (g : Tri) : gval p row g = gop g.1 (nth row g.2.1.toNat) (nth row g.2.2.toNat) % p := by
  unfold gval gop; split <;> rfl
theorem nth_map_tri (f : Tri → Int) (l : List Tri) (k : Nat) (h : k < l.length) : nth (l.map f) k = f (nthT l k) := by
  rw [nthT_eq h]; simp [nth, h]
/-- A layer is the sum over its wires. -/
theorem layer_sum {p wd : Int} {Ls : List (List Tri)} {inp : List Int} (hE : cirErr wd Ls = 0) (hin : (inp.length : Int) = 2 ^ wd.toNat) {i : Nat} (hi : i < Ls.length) (z : List Int) : partV p wd Ls inp i z [] = ext (vrow p Ls inp (i + 1)) z % p := by
  have hbd := beneath_bd (cirErr_ok hE).1 hi
  obtain ⟨n, hn⟩ := Int.eq_ofNat_of_zero_le hbd.1
  have hbp := below_pow (cirErr_ok hE).1 hi
  rw [hn, Int.toNat_natCast] at hbp
  unfold partV
  rw [hn, Int.toNat_natCast]
  refine partS_nil p (nthY Ls i) n (vrow p Ls inp i) z (vrow p Ls inp (i + 1)) (vrow_two hE hin hi hn) (fun k hk => ?_) (by simp [vrow]) (fun k hk => ?_)
  · have hok := (cirErr_ok hE).2 i hi k hk
    rw [hbp] at hok
    obtain ⟨o1, o2, o3, o4, o5, o6⟩ := hok
    have e1 : ((2 ^ n : Nat) : Int) = (2 : Int) ^ n := by simp
    show (nthT (nthY Ls i) k).2.1.toNat < 2 ^ n ∧ (nthT (nthY Ls i) k).2.2.toNat < 2 ^ n
    omega
  · show nth ((nthY Ls i).map (gval p (vrow p Ls inp i))) k = _
    rw [nth_map_tri _ _ _ hk, gval_gop]; rfl
/-- What a variable makes of it. -/
theorem layer_snoc (p wd : Int) (Ls : List (List Tri)) (inp : List Int) (i : Nat) (z xs : List Int) (h : (xs.length : Int) < 2 * beneath wd Ls i) : partV p wd Ls inp i z xs = fadd p (partV p wd Ls inp i z (xs ++ [0])) (partV p wd Ls inp i z (xs ++ [1])) := by
  unfold partV
  rw [partS_snoc _ _ _ _ _ _ (by omega)]
  simp only [fadd, ea_l, ea_r]
end Go.Att
namespace Go.Proofs.YtcpnidomdkaefaaGreatDoor
open Go.RowKit Go.Att
section
variable {w : World} {f : Value} {p g : Int} {fs : List Int}
set_option maxRecDepth 100000 in
set_option maxHeartbeats 1000000 in
theorem sExtend_ok (hf : Fld w f p g fs) (vt va : Value) (t at_ : List Int) (ht : Ints w vt t) (ha : Ints w va at_) (k : Nat) (hk : k ≤ 12) (hl : t.length = 2 ^ k) (hla : at_.length = k) :
    Calls Tryz.prog 25 #[f, vt, va] w fun e w' => e = .returned (.tuple #[.int .i64 (ext t at_ % p), .nilIface]) ∧ Ext w w' := by
  have e : varOf t.length = k := by rw [hl, Int.natCast_pow]; exact varOf_of k hk
  have hlen : (2 : Nat) ^ k ≤ 2 ^ 12 := Nat.pow_le_pow_right (by decide) hk
  have h12 : (2 : Nat) ^ 12 = 4096 := by decide
  have HP2 := Lib.hid (show (2 : Nat) ^ k ≤ 1048576 by omega)
  have hlv := ha.run_len (P := Tryz.prog) slInts
  have HT := Lib.hid ht; have HA := Lib.hid ha; have C := Lib.hid hf; have E := Lib.hid e; have HL := Lib.hid hl; have EE := Lib.hid (ext_end p t at_ k hl hla)
  have b1 : ((at_.length : Int) != (k : Int)) = false := by rw [bne_eq_false_iff_eq]; omega
  clear ht ha hf hl e hlen h12
  go_enter Tryz.func25, Tryz.ntmps25
  go_wp2_with (go_at_call 81; refine (svars_any _ _ _ HT.out).mono ?_; rw [E.out]; rintro e w' ⟨rfl, rfl⟩)
  go_loopw [1, 10, 24] (fun x1 _ x24 wr => ∃ j : Nat, j ≤ at_.length ∧ x24 = .int .i64 j ∧ Ints wr x1 (fixAll p t (at_.take j)) ∧ Ext w wr) (fun _ _ x24 _ => at_.length - (intOf x24).toNat)
  case atStart => exact ⟨0, Nat.zero_le _, rfl, HT.out, Ext.refl _⟩
  case round =>
    obtain ⟨j, hj, rfl, hT, hx⟩ := hrel
    have HTJ := Lib.hid hT; clear hT
    by_cases hjl : j < at_.length
    · have hix := HA.out.run_index (P := Tryz.prog) slInts j hjl
      have hc := (HA.out.ext hx).cell j hjl
      have ST := Lib.hid (fixAll_step p t at_ hjl)
      have HLN := Lib.hid (show (fixAll p t (at_.take j)).length ≤ 1048576 by
        rw [fixAll_length p t (at_.take j) (k - j) (by rw [HL.out, List.length_take]; congr 1; omega)]
        exact Nat.le_trans (Nat.pow_le_pow_right (by decide) (Nat.sub_le k j)) HP2.out)
      go_wp2_with (go_at_call 82; refine (sfixed_any (C.out.ext hx) _ _ _ HTJ.out HLN.out).mono ?_; rintro e w3 ⟨v, rfl, hx3, hu⟩; have HU := Lib.hid hu; clear hu)
      go_roundw
      case rel => exact ⟨j + 1, by omega, by go_num, by rw [ST.out]; exact HU.out, hx.trans hx3⟩
      case measure => simp [intOf]; omega
    · obtain rfl : j = at_.length := by omega
      rw [List.take_length] at HTJ
      have h1 : 0 < (fixAll p t at_).length := by rw [fixAll_length p t at_ 0 (by rw [HL.out, hla]; rfl)]; decide
      have hix := HTJ.out.run_index (P := Tryz.prog) slInts 0 h1
      have hc := HTJ.out.cell 0 h1
      rw [show ((0 : Nat) : Int) = 0 from rfl] at hix
      clear h1
      go_wp2_with (go_at_call 83; refine (of_any (C.out.ext hx) _).mono ?_; rw [EE.out]; rintro e w4 hrd; obtain ⟨rfl, hx4⟩ := hrd.ext; clear hrd)
      go_ret2
      exact ⟨rfl, hx.trans hx4⟩
end
end Go.Proofs.YtcpnidomdkaefaaGreatDoor
end
