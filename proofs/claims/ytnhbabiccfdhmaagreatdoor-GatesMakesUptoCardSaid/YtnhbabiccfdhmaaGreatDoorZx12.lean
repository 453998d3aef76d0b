/- One word of several, the program's side: contract. What the gates of a circuit are, the document's side: contracts. -/
import Derived.Test.YtnhbabiccfdhmaaGreatDoorHb
import Derived.Test.YtnhbabiccfdhmaaGreatDoorC3
import Derived.Test.YtnhbabiccfdhmaaGreatDoorVc
import Derived.Test.YtnhbabiccfdhmaaGreatDoorZx2
import Derived.Test.YtnhbabiccfdhmaaGreatDoorZx1
import Derived.Deep.RegionWith
section
/-! One word of several, the program's side: contract. -/
namespace Go.Att
open Go.RowKit
/-- Does no word differ in length from n? -/
def fitB (n : Int) (L : List (List Int)) : Bool := L.all fun l => (l.length : Int) == n
theorem fitB_nth {n : Int} {L : List (List Int)} (h : fitB n L = true) {i : Nat} (hi : i < L.length) : ((nthL L i).length : Int) = n := by
  rw [nthL_eq hi]
  have := List.all_eq_true.1 h L[i] (List.getElem_mem hi)
  simpa using this
theorem fitB_not {n : Int} {L : List (List Int)} {i : Nat} (hi : i < L.length) (h : ((nthL L i).length : Int) ≠ n) : fitB n L = false := by
  rw [Bool.eq_false_iff]
  intro hc
  exact h (fitB_nth hc hi)
theorem fitB_of {n : Int} {L : List (List Int)} (h : ∀ i, i < L.length → ((nthL L i).length : Int) = n) : fitB n L = true := by
  refine List.all_eq_true.2 fun l hl => ?_
  obtain ⟨i, hi, rfl⟩ := List.getElem_of_mem hl
  have := h i hi
  rw [nthL_eq hi] at this
  simpa using this
/-- The numbers at a place of all words. -/
def col (L : List (List Int)) (i : Nat) : List Int := L.map fun l => nth l i
theorem col_length (L : List (List Int)) (i : Nat) : (col L i).length = L.length := by simp [col]
theorem col_step {L : List (List Int)} {j : Nat} (i : Nat) (h : j < L.length) : (col (L.take (j + 1)) i).map (Value.int .i64) = (col (L.take j) i).map (Value.int .i64) ++ [.int .i64 (nth (nthL L j) i)] := by
  rw [List.take_succ_eq_append_getElem h, ← nthL_eq h]; simp [col]
def batchAt (p n sh r g : Int) (first : List Int) (L : List (List Int)) (i : Nat) : Int := batched p (nth first i) g (ptAt p sh r i ^ (3 * n / 8).toNat) (col L i)
def batchL (p n sh r g : Int) (first : List Int) (L : List (List Int)) (m : Nat) : List Int := (List.range m).map (batchAt p n sh r g first L)
theorem batchL_length (p n sh r g : Int) (first : List Int) (L : List (List Int)) (m : Nat) : (batchL p n sh r g first L m).length = m := by simp [batchL]
theorem batchL_nth (p n sh r g : Int) (first : List Int) (L : List (List Int)) {m i : Nat} (h : i < m) : nth (batchL p n sh r g first L m) i = batchAt p n sh r g first L i := by rw [nth_eq (by rw [batchL_length]; exact h)]; simp [batchL]
theorem batchL_succ (p n sh r g : Int) (first : List Int) (L : List (List Int)) (m : Nat) : (batchL p n sh r g first L (m + 1)).map (Value.int .i64) = (batchL p n sh r g first L m).map (Value.int .i64) ++ [.int .i64 (batchAt p n sh r g first L m)] := by simp [batchL, List.range_succ]
end Go.Att
namespace Go.Proofs.YtnhbabiccfdhmaaGreatDoor
open Go.RowKit Go.Att

theorem slRows : SlT Tryz.prog 22 23 1 24 (.slice none 0 0) := .mk' Tryz.underlying22 (by kernel_rfl) (by decide)

/-- Is a batch refused? -/
def batBad (n : Int) (l1 : List Int) (L : List (List Int)) : Bool := decide (n < 8) || ((l1.length : Int) != n) || !fitB n L

end Go.Proofs.YtnhbabiccfdhmaaGreatDoor
/-! One word of several, the program's side: the words that fit. -/
namespace Go.Proofs.YtnhbabiccfdhmaaGreatDoor
open Go.RowKit Go.Att

end Go.Proofs.YtnhbabiccfdhmaaGreatDoor
end
section
namespace Go.Att
open Go.RowKit
/-- What a gate is, over the values beneath. -/
def gval (p : Int) (row : List Int) (g : Tri) : Int := if g.1 = 1 then fmul p (nth row g.2.1.toNat) (nth row g.2.2.toNat) else fadd p (nth row g.2.1.toNat) (nth row g.2.2.toNat)
def vrow (p : Int) (Ls : List (List Tri)) (inp : List Int) : Nat → List Int
  | 0 => inp.map (fof p)
  | i + 1 => (nthY Ls i).map (gval p (vrow p Ls inp i))
/-- All rows up to one. -/
def vals (p : Int) (Ls : List (List Tri)) (inp : List Int) (n : Nat) : List (List Int) := (List.range (n + 1)).map (vrow p Ls inp)
theorem vals_length (p : Int) (Ls : List (List Tri)) (inp : List Int) (n : Nat) : (vals p Ls inp n).length = n + 1 := by simp [vals]
theorem vals_succ (p : Int) (Ls : List (List Tri)) (inp : List Int) (n : Nat) : vals p Ls inp (n + 1) = vals p Ls inp n ++ [vrow p Ls inp (n + 1)] := by unfold vals; rw [List.range_succ, List.map_append]; rfl
theorem vals_nth (p : Int) (Ls : List (List Tri)) (inp : List Int) {n i : Nat} (h : i ≤ n) : nthL (vals p Ls inp n) i = vrow p Ls inp i := by rw [nthL_eq (by rw [vals_length]; omega)]; simp [vals]
theorem vrow_length {p wd : Int} {Ls : List (List Tri)} {inp : List Int} (h : (inp.length : Int) = 2 ^ wd.toNat) (i : Nat) : ((vrow p Ls inp i).length : Int) = below wd Ls i := by
  cases i with
  | zero => simp [vrow, below, h]
  | succ i => simp [vrow, below]
theorem vrow_step (p : Int) (row : List Int) {l : List Tri} {k : Nat} (h : k < l.length) : ((l.take (k + 1)).map (gval p row)).map (Value.int .i64) = ((l.take k).map (gval p row)).map (Value.int .i64) ++ [.int .i64 (gval p row (nthT l k))] := by
  rw [List.take_succ_eq_append_getElem h, ← nthT_eq h]; simp
theorem gval_mul {p : Int} {row : List Int} {a b : Nat} : gval p row (1, a, b) = fmul p (nth row a) (nth row b) := by simp [gval]
theorem gval_add {p : Int} {row : List Int} {k : Int} {a b : Nat} (h : k ≠ 1) : gval p row (k, a, b) = fadd p (nth row a) (nth row b) := by simp [gval, h]
end Go.Att
namespace Go.Proofs.YtnhbabiccfdhmaaGreatDoor
open Go.RowKit Go.Att

set_option maxRecDepth 100000 in
set_option maxHeartbeats 4000000 in
theorem rvalues_any (p wd : Int) (lv vi : Value) (Ls : List (List Tri)) (R : Nat → Value) (inp : List Int) (w : World) (hp : 2 ≤ p) (hp2 : p ≤ 2147483647) (hv : LysAt w lv Ls R) (hi : Ints w vi inp) (hE : cirErr wd Ls = 0) (hin : (inp.length : Int) = 2 ^ wd.toNat) :
    Calls Tryz.prog 73 #[.int .i64 p, .agg #[.int .i64 wd, lv], vi] w (Gives w fun v w' => Rws w' v (vals p Ls inp Ls.length)) := by
  obtain ⟨hS, hG⟩ := cirErr_ok hE
  obtain ⟨ao, cap, rfl⟩ := hv.shape
  have hlen : (Ls.length : Int) ≤ 8 := by have := hS.2.2.2.1; omega
  have hil : inp.length ≤ 64 := by
    have h6 : wd.toNat ≤ 6 := by have := hS.2.1; omega
    have := pow2_small h6; omega
  have hll := hv.run_len (P := Tryz.prog) slLayers
  have HV := Lib.hid hv; have HI := Lib.hid hi; have HS := Lib.hid hS; have HG := Lib.hid hG; have HIN := Lib.hid hin
  clear hv hi hS hG hE hin
  go_enter Tryz.func73, Tryz.ntmps73
  go_wp2_with (go_at_call 147; generalize hW : World.alloc w _ = W1; have hx1 : Ext w W1 := (hW ▸ Ext.alloc _ _); have c1 : W1.cell? ⟨w.heap.size, 1, none⟩ = some (.slice ao Ls.length cap) := (by rw [← hW]; simp); clear hW; refine (rall_any p vi inp W1 (HI.out.ext hx1) hp hp2 (by omega)).mono ?_; rintro e w2 ⟨v1, rfl, hx2, hv1, hn1, ho1⟩; obtain ⟨ao1, cap1, hsh⟩ := hv1.shape; rw [List.length_map] at hsh; subst hsh)
  generalize hV1 : Value.slice ao1 inp.length cap1 = v1 at *
  clear hV1 ao1 cap1
  have hgrid : Grid W1.heap.size (w2.alloc (Obj.cells #[v1] 23)) 23 (.slice (some ⟨w2.heap.size, 0, none⟩) 1 1) (vals p Ls inp 0) (fun _ => v1) := by
    refine ⟨⟨by simp [vals], .inr ⟨w2.heap.size, 1, #[v1], by simp [vals], hx2.size, heap_alloc_new _ _, by simp [vals], by unfold maxLen; omega, rfl, by simp [vals]⟩⟩, fun i hi => ?_, fun i hi k hk => ?_⟩
    · have h0 : i = 0 := by rw [vals_length] at hi; omega
      subst h0
      rw [vals_nth _ _ _ (Nat.zero_le _)]
      exact hv1.ext (Ext.alloc _ _)
    · have := ho1 k hk
      refine ⟨hn1 k hk, by simp; omega, fun hc => ?_⟩
      have := Option.some.inj hc
      simp at this; omega
  have hv1' := hv1.ext (Ext.alloc w2 (Obj.cells #[v1] 23))
  have HX2 := Lib.hid (hx2.trans (Ext.alloc w2 (Obj.cells #[v1] 23)))
  generalize hW2 : World.alloc w2 _ = W2 at *
  clear hW2 hv1 hn1 ho1 hx2
  go_loopw [7, 8, 9, 10, 11, 12, 13] (fun x7 x8 x9 _ _ _ _ wr => ∃ (i : Nat) (S : Nat → Value), i ≤ Ls.length ∧ x9 = .int .i64 i ∧ Grid W1.heap.size wr 23 x8 (vals p Ls inp i) S ∧ Ints wr x7 (vrow p Ls inp i) ∧ Ext W1 wr) (fun _ _ x9 _ _ _ _ _ => Ls.length - (intOf x9).toNat)
  case atStart => exact ⟨0, _, Nat.zero_le _, rfl, hgrid, hv1', HX2.out⟩
  case round =>
    obtain ⟨i, S, hi, rfl, hgr, hrw, hx⟩ := hrel
    have HGR := Lib.hid hgr; have HRW := Lib.hid hrw; clear hgr hrw
    have d1 := hx.cell c1
    by_cases hil2 : i < Ls.length
    · have hV := HV.out.ext (hx1.trans hx)
      have hix := hV.run_index (P := Tryz.prog) slLayers i hil2
      have hc := hV.cell i hil2
      have hrow := hV.row i hil2
      have hln := hrow.run_len (P := Tryz.prog) slGates
      have hl64 := wideOf_le (HS.out.2.2.2.2 i hil2)
      have HROW := Lib.hid hrow
      have hbl := vrow_length (p := p) (Ls := Ls) HIN.out i
      have HOK := Lib.hid (HG.out i hil2)
      clear hV hrow
      go_wp2_with fail
      go_loopw [10, 11, 12, 13] (fun x10 x11 _ _ ws => ∃ k : Nat, k ≤ (nthY Ls i).length ∧ x11 = .int .i64 k ∧ ws.ownsRow wr.heap.size 3 1 x10 k ((((nthY Ls i).take k).map (gval p (vrow p Ls inp i))).map (Value.int .i64)) ∧ Ext wr ws) (fun _ x11 _ _ _ => (nthY Ls i).length - (intOf x11).toNat)
      case atStart => exact ⟨0, Nat.zero_le _, rfl, World.ownsRow_nil _ _ _ _, Ext.refl _⟩
      case round =>
        obtain ⟨k, hk, rfl, hown, hxs⟩ := hrel
        have e1 := hxs.cell d1
        have e2 := hxs.cell hc
        by_cases hkl : k < (nthY Ls i).length
        · have hrow := HROW.out.ext hxs
          have hix2 := hrow.run_index (P := Tryz.prog) slGates k hkl
          have g0 := hrow.c0 k hkl
          have g1 := hrow.c1 k hkl
          have g2 := hrow.c2 k hkl
          have hok := HOK.out k hkl
          rw [← hbl] at hok
          have HST := Lib.hid (vrow_step p (vrow p Ls inp i) hkl)
          clear hrow
          generalize hg : nthT (nthY Ls i) k = G at g0 g1 g2 hok HST
          obtain ⟨gk, ga, gb⟩ := G
          have HGG := Lib.hid hg; clear hg
          simp only [gateOk] at g0 g1 g2 hok
          obtain ⟨o1, o2, o3, o4, o5, o6⟩ := hok
          obtain ⟨a, rfl⟩ := Int.eq_ofNat_of_zero_le o3
          obtain ⟨b, rfl⟩ := Int.eq_ofNat_of_zero_le o5
          have hr := HRW.out.ext hxs
          have hia := hr.run_index (P := Tryz.prog) slInts a (by omega)
          have hib := hr.run_index (P := Tryz.prog) slInts b (by omega)
          have hca := hr.cell a (by omega)
          have hcb := hr.cell b (by omega)
          have hown1 := hown.alloc (Obj.cells #[.int .i64 gk, .int .i64 a, .int .i64 b] 68)
          clear hr
          go_wp2_with fail
          have HQ0 := cell_new wr #[.int .i64 gk, .int .i64 a, .int .i64 b] 68 0
          have HQ1 := cell_new wr #[.int .i64 gk, .int .i64 a, .int .i64 b] 68 1
          have HQ2 := cell_new wr #[.int .i64 gk, .int .i64 a, .int .i64 b] 68 2
          have hx3 := Ext.alloc wr (Obj.cells #[.int .i64 gk, .int .i64 a, .int .i64 b] 68)
          generalize hW3 : World.alloc wr _ = W3 at *
          replace HQ0 : W3.cell? ⟨wr.heap.size, 0, none⟩ = some (.int .i64 gk) := HQ0
          replace HQ1 : W3.cell? ⟨wr.heap.size, 1, none⟩ = some (.int .i64 a) := HQ1
          replace HQ2 : W3.cell? ⟨wr.heap.size, 2, none⟩ = some (.int .i64 b) := HQ2
          replace hca := hx3.cell hca
          replace hcb := hx3.cell hcb
          clear hW3 g0 g1 g2 e1 e2 hix hix2 hc hown d1 c1
          go_quiet ((go_at_call 53; exact radd_q _ _ _ _ _ hp hp2))
          have hx4 := hx3.trans (Ext.drewN W3 nq)
          replace HQ0 : (W3.drewN nq).cell? ⟨wr.heap.size, 0, none⟩ = some (.int .i64 gk) := HQ0
          replace HQ1 : (W3.drewN nq).cell? ⟨wr.heap.size, 1, none⟩ = some (.int .i64 a) := HQ1
          replace HQ2 : (W3.drewN nq).cell? ⟨wr.heap.size, 2, none⟩ = some (.int .i64 b) := HQ2
          replace hca := (Ext.drewN W3 nq).cell hca
          replace hcb := (Ext.drewN W3 nq).cell hcb
          replace hown1 := own_ext hown1 (Ext.drewN W3 nq)
          generalize W3.drewN nq = W4 at *
          by_cases hk1 : gk = 1
          · subst hk1
            go_wp2_with fail
            go_quiet ((go_at_call 52; exact rmul_q _ _ _ _ _ hp hp2))
            have hown4 := own_ext hown1 (Ext.drewN W4 nq)
            have HX4 := hxs.trans (hx4.trans (Ext.drewN W4 nq))
            have EV := Lib.hid (gval_mul (p := p) (row := vrow p Ls inp i) (a := a) (b := b))
            generalize W4.drewN nq = W5 at *
            go_wp2_with (at_builtin; refine wpList_appNw rfl _ _ 23 rfl slInts rfl HX4.size hown4 rfl _ rfl (by intro u hu; simp at hu; subst hu; rfl) rfl (by omega) (by omega) ?_; intro v' w7 HO7 HG7 HW7)
            go_roundw
            case rel => exact ⟨k + 1, by omega, by go_num, by rw [HST.out, EV.out]; exact HO7, Ext.own_grown HX4 hown4 HG7⟩
            case measure => simp [intOf]; omega
          · have hb : (gk == 1) = false := by rw [beq_eq_false_iff_ne]; exact hk1
            have HX4 := hxs.trans hx4
            have EV := Lib.hid (gval_add (p := p) (row := vrow p Ls inp i) (a := a) (b := b) hk1)
            have hown4 := hown1
            go_wp2_with (at_builtin; refine wpList_appNw rfl _ _ 23 rfl slInts rfl HX4.size hown4 rfl _ rfl (by intro u hu; simp at hu; subst hu; rfl) rfl (by omega) (by omega) ?_; intro v' w7 HO7 HG7 HW7)
            go_roundw
            case rel => exact ⟨k + 1, by omega, by go_num, by rw [HST.out, EV.out]; exact HO7, Ext.own_grown HX4 hown4 HG7⟩
            case measure => simp [intOf]; omega
        · obtain rfl : k = (nthY Ls i).length := by omega
          rw [List.take_length] at hown
          have hgr := HGR.out.ext hxs
          have hnx := Ints.of_own hown
          have hfar : ∀ k, Value.ownBlock _ = some k → W1.heap.size ≤ k ∧ k < wr.heap.size ∧ some k ≠ Value.ownBlock _ := fun k hk => ⟨Nat.le_trans hx.size (hown.lt k hk).1, (hown.lt k hk).2, fun hc => by have h1 := (hown.lt k hk).1; have h2 := (HGR.out.own.lt k hc.symm).2; omega⟩
          obtain ⟨ao2, cap2, rfl⟩ := own_shape hown
          have HX5 := hx.trans hxs
          have VS := Lib.hid (vals_succ p Ls inp i)
          have hvl := vals_length p Ls inp i
          clear hown
          go_wp2_with (at_builtin; refine wpList_appNw rfl _ _ 22 rfl slRows rfl HX5.size hgr.own rfl _ rfl (by intro u hu; simp at hu; subst hu; rfl) rfl (by omega) (by omega) ?_; intro v' w7 HO7 HG7 HW7)
          go_roundw
          case rel =>
            have hpush := hgr.push hnx hfar HO7 HG7 HW7
            rw [show vals p Ls inp i ++ [(nthY Ls i).map (gval p (vrow p Ls inp i))] = vals p Ls inp (i + 1) from VS.out.symm] at hpush
            refine ⟨i + 1, _, by omega, by go_num, hpush, ?_, Ext.own_grown HX5 hgr.own HG7⟩
            have := hpush.row (i + 1) (by rw [vals_length]; omega)
            rw [vals_nth _ _ _ (Nat.le_refl _), if_neg (by omega)] at this
            exact this
          case measure => simp [intOf]; omega
    · obtain rfl : i = Ls.length := by omega
      go_wp2_with fail
      go_ret
      exact .mk _ rfl (hx1.trans hx) ⟨S, HGR.out.rws⟩
end Go.Proofs.YtnhbabiccfdhmaaGreatDoor
end
