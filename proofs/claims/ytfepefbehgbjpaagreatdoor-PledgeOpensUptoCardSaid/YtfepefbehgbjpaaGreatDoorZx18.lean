/- A polynomial parted by a linear factor, the program's way: plain laws. No program in sight. The loop of poly.Vanish: what the next list is behind so many steps: plain laws. No program in sight. The loops of poly.Fit and poly.Eval: what stands behind so many steps: plain laws. No program in sight. poly.Vanish: contract. Sums of rows, each times a weight: the program's side: pledge.weighed, pledge.Mix: contracts. Sums of rows, each times a power: the program's side: pledge.Mix: contract. Sums of rows, each times a power: the document's side: Powers, Sum: contracts. A range over a slice from its end: slices.Backward; a polynomial at a point: poly.Eval: contracts. A polynomial at a point: poly.Eval: contract. -/
import Derived.Test.YtfepefbehgbjpaaGreatDoorZx15
import Derived.Test.YtfepefbehgbjpaaGreatDoorZx14
import Derived.Test.YtfepefbehgbjpaaGreatDoorZx9
import Derived.Test.YtfepefbehgbjpaaGreatDoorZx12
import Derived.Test.YtfepefbehgbjpaaGreatDoorZx6
import Derived.Test.YtfepefbehgbjpaaGreatDoorZx11
import Derived.RangeFuncNested
import Derived.RangeFuncBound
import Derived.RangeFuncCalls
import Derived.RangeFuncLeaves
import Derived.Shelf.Abstract
import Derived.Shelf.RegionOpen
import Derived.WalkKit
import Derived.OwnWalkIn
import Derived.TacticsInMore
import Derived.LoopNIn
import Derived.LoopIn
import Derived.Test.YtfepefbehgbjpaaGreatDoorSx
section
namespace Go.Att
def hv (p x : Int) : List Int → Int
  | [] => 0
  | c :: l => (c + hv p x l * x) % p
def hq (p x : Int) : List Int → List Int
  | [] => []
  | _ :: l => hv p x l :: hq p x l
def addc (p c : Int) : List Int → List Int → List Int
  | s :: ss, q :: qs => fadd p s (fmul p c q) :: addc p c ss qs
  | _, _ => []
theorem addc_length (p c : Int) : ∀ s q : List Int, s.length = q.length → (addc p c s q).length = s.length
  | [], [], _ => rfl
  | _ :: ss, _ :: qs, h => by simp [addc, addc_length p c ss qs (by simpa using h)]
theorem addc_ev (p c t : Int) : ∀ s q : List Int, s.length = q.length → ev (addc p c s q) t % p = (ev s t + c * ev q t) % p
  | [], [], _ => by simp [addc, ev]
  | s :: ss, q :: qs, h => by
    have ih := addc_ev p c t ss qs (by simpa using h)
    simp only [addc, ev, fadd, fmul]
    have md : ∀ u : Int, ∃ k, u % p = u + p * k := fun u => ⟨-(u / p), by rw [Int.emod_def, Int.mul_neg]; omega⟩
    generalize ev (addc p c ss qs) t = E at ih ⊢
    generalize ev ss t = a at ih ⊢
    generalize ev qs t = b at ih ⊢
    obtain ⟨k1, h1⟩ := md (c * q)
    obtain ⟨k2, h2⟩ := md (s + c * q % p)
    obtain ⟨k4, h4⟩ := md E
    obtain ⟨k5, h5⟩ := md (a + c * b)
    have hE : E = a + c * b + p * (k5 - k4) := by rw [Int.mul_sub]; omega
    rw [h2, h1, hE, show s + (c * q + p * k1) + p * k2 + t * (a + c * b + p * (k5 - k4)) = s + t * a + c * (q + t * b) + p * (k1 + k2 + t * (k5 - k4)) from ?_, Int.add_mul_emod_self_left]
    have e1 : t * (p * (k5 - k4)) = p * (t * (k5 - k4)) := by rw [← Int.mul_assoc, ← Int.mul_assoc, Int.mul_comm t p]
    have e2 : t * (c * b) = c * (t * b) := by rw [← Int.mul_assoc, ← Int.mul_assoc, Int.mul_comm t c]
    rw [Int.mul_add t, Int.mul_add t, e1, e2, Int.mul_add c, Int.mul_add p, Int.mul_add p]
    omega
end Go.Att
end
section
namespace Go.Att
end Go.Att
end
section
namespace Go.Att
def adRow (p c : Int) (s q : List Int) (k : Nat) : List Int := (List.range s.length).map fun i => if i < k then fadd p (nth s i) (fmul p c (nth q i)) else nth s i
theorem adRow_length (p c : Int) (s q : List Int) (k : Nat) : (adRow p c s q k).length = s.length := by simp [adRow]
theorem adRow_nth (p c : Int) (s q : List Int) (k : Nat) (h : k < s.length) : nth (adRow p c s q k) k = nth s k := by
  unfold adRow
  rw [nth_map_range _ _ _ h, if_neg (by omega)]
theorem adRow_zero (p c : Int) (s q : List Int) : adRow p c s q 0 = s := by
  refine List.ext_getElem (by simp [adRow]) fun k h1 h2 => ?_
  simp [adRow, nth_eq h2]
theorem adRow_step (p c : Int) (s q : List Int) (k : Nat) (_h : k < s.length) : (adRow p c s q k).set k (fadd p (nth s k) (fmul p c (nth q k))) = adRow p c s q (k + 1) := by
  refine List.ext_getElem (by simp [adRow]) fun i h1 h2 => ?_
  simp only [List.getElem_set, adRow, List.getElem_map, List.getElem_range]
  by_cases e : k = i
  · subst e; rw [if_pos rfl, if_pos (by omega)]
  · rw [if_neg e]
    by_cases e2 : i < k
    · rw [if_pos e2, if_pos (by omega)]
    · rw [if_neg e2, if_neg (by omega)]
theorem addc_nth (p c : Int) : ∀ (s q : List Int) (k : Nat), s.length = q.length → k < s.length → nth (addc p c s q) k = fadd p (nth s k) (fmul p c (nth q k))
  | [], _, _, _, h => by simp at h
  | _ :: _, [], _, h, _ => by simp at h
  | s :: ss, q :: qs, 0, _, _ => by simp [addc, nth]
  | s :: ss, q :: qs, k + 1, h, hk => by
    have := addc_nth p c ss qs k (by simpa using h) (by simpa using hk)
    simpa [addc, nth] using this
theorem adRow_last (p c : Int) (s q : List Int) (h : s.length = q.length) : adRow p c s q s.length = addc p c s q := by
  refine List.ext_getElem (by rw [adRow_length, addc_length _ _ _ _ h]) fun k h1 h2 => ?_
  rw [adRow_length] at h1
  have e := addc_nth p c s q k h h1
  rw [nth_eq h2] at e
  rw [e]
  simp only [adRow, List.getElem_map, List.getElem_range]
  rw [if_pos h1]
def downF (c : Nat) : (k : Nat) → k ≤ c → List (Fin c)
  | 0, _ => []
  | k + 1, h => downF c k (by omega) ++ [⟨c - 1 - k, by omega⟩]
theorem downF_length (c : Nat) : ∀ (k : Nat) (h : k ≤ c), (downF c k h).length = k
  | 0, _ => rfl
  | k + 1, h => by rw [downF, List.length_append, downF_length c k]; rfl
def evF (p x : Int) (l : List Int) {c : Nat} (pre : List (Fin c)) : Int := pre.foldl (fun s i => fadd p (fmul p s x) (nth l i.1)) 0
theorem evF_snoc (p x : Int) (l : List Int) {c : Nat} (pre : List (Fin c)) (i : Fin c) : evF p x l (pre ++ [i]) = fadd p (fmul p (evF p x l pre) x) (nth l i.1) := by unfold evF; rw [List.foldl_append]; rfl
theorem evF_downF (p x : Int) (l : List Int) : ∀ (k : Nat) (h : k ≤ l.length), evF p x l (downF l.length k h) = ev (l.drop (l.length - k)) x % p
  | 0, _ => by simp [downF, evF, ev]
  | k + 1, h => by
    have hk : l.length - (k + 1) < l.length := by omega
    rw [downF, evF_snoc, evF_downF p x l k (by omega), List.drop_eq_getElem_cons hk, ev]
    show fadd p (fmul p (ev (l.drop (l.length - k)) x % p) x) (nth l (l.length - 1 - k)) = _
    have e1 : nth l (l.length - 1 - k) = l[l.length - (k + 1)] := by rw [show l.length - 1 - k = l.length - (k + 1) by omega, nth_eq hk]
    rw [e1, show l.length - (k + 1) + 1 = l.length - k by omega]
    simp only [fadd, fmul, em_l, ea_l]
    rw [Int.add_comm, Int.mul_comm]
theorem evF_all (p x : Int) (l : List Int) : evF p x l (downF l.length l.length (Nat.le_refl _)) = ev l x % p := by
  rw [evF_downF, Nat.sub_self, List.drop_zero]
end Go.Att
end
section
namespace Go.Proofs.YtfepefbehgbjpaaGreatDoor
open Go.RowKit Go.Att
section
variable {w : World} {f vx : Value} {p g : Int} {fs : List Int} {xs : List Int}
theorem ints_setC (l : List Int) (i : Nat) (h : i < l.length) (v : Int) : (l.map (Value.int .i64)).take (i * 1) ++ (Value.int .i64 v).cells.toList ++ (l.map (Value.int .i64)).drop (i * 1 + 1) = (l.set i v).map (Value.int .i64) := by
  rw [Nat.mul_one, List.set_eq_take_append_cons_drop, if_pos h]
  simp [Value.cells, List.map_take, List.map_drop]
end
end Go.Proofs.YtfepefbehgbjpaaGreatDoor
end
section
namespace Go.Att
open Go.RowKit
def mxU (p : Int) (f : Nat → Int) (rows : List (List Int)) (m : Nat) : Nat → List Int
  | 0 => List.replicate m 0
  | i + 1 => addc p (f i) (mxU p f rows m i) (nthL rows i)
theorem mxU_length (p : Int) (f : Nat → Int) (rows : List (List Int)) (m : Nat) (h : ∀ i, i < rows.length → (nthL rows i).length = m) : ∀ i, i ≤ rows.length → (mxU p f rows m i).length = m
  | 0, _ => by simp [mxU]
  | i + 1, hi => by
    have h1 := mxU_length p f rows m h i (by omega)
    rw [mxU, addc_length _ _ _ _ (by rw [h1, h i (by omega)]), h1]
theorem mxU_congr (p : Int) {f g : Nat → Int} (rows : List (List Int)) (m : Nat) : ∀ i, (∀ j, j < i → f j = g j) → mxU p f rows m i = mxU p g rows m i
  | 0, _ => rfl
  | i + 1, h => by rw [mxU, mxU, mxU_congr p rows m i (fun j hj => h j (by omega)), h i (by omega)]
end Go.Att
namespace Go.Proofs.YtfepefbehgbjpaaGreatDoor
open Go.RowKit Go.Att
section
variable {w : World} {bf : Nat} {p g : Int} {fs : List Int}
set_option maxRecDepth 100000 in
set_option maxHeartbeats 8000000 in
theorem weighed_any (hf : Fld w (.pointer (some ⟨bf, 0, none⟩)) p g fs) (vr : Value) (rows : List (List Int)) (R : Nat → Value) (hr : RwsAt w vr rows R) (m : Nat) (h0 : 0 < rows.length) (hm : ∀ i, i < rows.length → (nthL rows i).length = m) (hm2 : m ≤ 4294967290) (fid : FuncId) (c1 c2 : Value) (f : Nat → Int) (hfid : ∀ (xs : Array Value) (W : World), (callFunc fid xs).run Tryz.prog W = .ok (.enter fid xs) W)
    (hc : ∀ (W : World) (i : Nat), Ext w W → i < rows.length → Calls Tryz.prog fid #[.int .i64 i, c1, c2] W (Rd W (.int .i64 (f i)))) :
    Calls Tryz.prog 30 #[.pointer (some ⟨bf, 0, none⟩), vr, .func (.func fid) #[] #[c1, c2]] w (Gives w fun u w' => w'.ownsRow w.heap.size 3 1 u m ((mxU p f rows m rows.length).map (Value.int .i64))) := by
  have hlr := hr.run_len (P := Tryz.prog) slRows
  have hrl := hr.len
  have hi0 := hr.run_index (P := Tryz.prog) slRows 0 h0
  have hc0 := hr.cell 0 h0
  have hl0 := (hr.row 0 h0).run_len (P := Tryz.prog) slInts
  rw [hm 0 h0] at hl0
  rw [show ((0 : Nat) : Int) = 0 from rfl] at hi0
  have HF := Lib.hid hf; have HR := Lib.hid hr; have HM := Lib.hid hm; have HC := Lib.hid hc
  have HML := Lib.hid (fun i (hi : i ≤ rows.length) => mxU_length p f rows m hm i hi)
  clear hf hr hm hc
  go_enter Tryz.func30, Tryz.ntmps30
  go_wp2_with (refine wpList_mkn rfl _ _ 22 rfl slInts (Ext.refl _) rfl rfl (by omega) (by omega) (by omega) ?_; intro v7 w7 HN1 HX1 HG1)
  have HO0 := Lib.hid (show w7.ownsRow w.heap.size 3 1 v7 m ((mxU p f rows m 0).map (Value.int .i64)) from by
    rw [Int.toNat_natCast, zeros_made, List.append_nil] at HN1
    exact HN1)
  have HX7 := Lib.hid HX1
  have HVB := Lib.hid (show ∀ q, v7.ownBlock = some q → w.heap.size ≤ q from fun q hq => (HN1.lt q hq).1)
  clear HN1 HX1 HG1 hi0 hc0 hl0
  go_loopw [8, 9, 10, 11, 12, 20] (fun _ _ _ _ _ x20 wr => ∃ i : Nat, i ≤ rows.length ∧ x20 = .int .i64 i ∧ Hid (wr.ownsRow w.heap.size 3 1 v7 m ((mxU p f rows m i).map (Value.int .i64))) ∧ Hid (w7.grownBy wr v7.ownBlock)) (fun _ _ _ _ _ x20 _ => rows.length - (intOf x20).toNat)
  case atStart => exact ⟨0, Nat.zero_le _, rfl, HO0, Lib.hid (World.grownBy.refl _ _)⟩
  case round =>
    obtain ⟨i, hi, rfl, HOW, HXQ⟩ := hrel
    have HXR := Lib.hid (Ext.own_grown HX7.out HO0.out HXQ.out)
    by_cases hin : i < rows.length
    · have hix := HR.out.run_index (P := Tryz.prog) slRows i hin
      have hcx := HXR.out.cell (HR.out.cell i hin)
      have HROW := Lib.hid (HR.out.row i hin)
      have HRL := Lib.hid (HM.out i hin)
      have hln := (HR.out.row i hin).run_len (P := Tryz.prog) slInts
      rw [HRL.out] at hln
      have HUL := Lib.hid (HML.out i hi)
      have HUN := Lib.hid (show mxU p f rows m (i + 1) = addc p (f i) (mxU p f rows m i) (nthL rows i) from rfl)
      have HCI := Lib.hid (HC.out wr i HXR.out hin)
      generalize mxU p f rows m i = sm at *
      generalize nthL rows i = pt at *
      generalize R i = ri at *
      generalize f i = c at *
      go_wp2_with fail
      refine HCI.out.mono ?_
      rintro e w8 ⟨rfl, n8, rfl⟩
      have HX8 := Lib.hid (HXR.out.trans (Ext.drewN wr n8))
      have HO8 := Lib.hid (own_ext HOW.out (Ext.drewN wr n8))
      have HXQ8 := Lib.hid (HXQ.out.trans ((Ext.drewN wr n8).grownBy _))
      have HNE := Lib.hid (show m = 0 ∨ ∀ q, ri.ownBlock = some q → some q ≠ v7.ownBlock from by
        by_cases hm0 : m = 0
        · exact .inl hm0
        · refine .inr fun q hq e => ?_
          have h5 := ints_lt9 HROW.out (by rw [HRL.out]; omega) q hq
          have h6 := HVB.out q e.symm
          omega)
      clear hix hcx HOW HXQ HXR HCI
      generalize wr.drewN n8 = w9 at *
      have HA0 := Lib.hid (show w9.ownsRow w.heap.size 3 1 v7 m ((adRow p c sm pt 0).map (Value.int .i64)) from by rw [adRow_zero]; exact HO8.out)
      go_wp2_with fail
      go_loopw [11, 12, 30] (fun _ _ x30 wq => ∃ t : Nat, t ≤ m ∧ x30 = .int .i64 t ∧ Hid (wq.ownsRow w.heap.size 3 1 v7 m ((adRow p c sm pt t).map (Value.int .i64))) ∧ Hid (w9.grownBy wq v7.ownBlock)) (fun _ _ x30 _ => m - (intOf x30).toNat)
      case atStart => exact ⟨0, Nat.zero_le _, rfl, HA0, Lib.hid (World.grownBy.refl _ _)⟩
      case round =>
        obtain ⟨t, ht, rfl, HOT, HXT⟩ := hrel
        have HXTW := Lib.hid (show Ext w wr from Below.grown HX8.out.below HXT.out HX8.out.size (fun q e => HVB.out q e))
        by_cases htn : t < m
        · have HPW := Lib.hid (HROW.out.ext HXTW.out)
          have hip := HPW.out.run_index (P := Tryz.prog) slInts t (by rw [HRL.out]; exact htn)
          have hcp := HPW.out.cell t (by rw [HRL.out]; exact htn)
          have hlr2 : (adRow p c sm pt t).length = m := by rw [adRow_length]; exact HUL.out
          have HIT := Lib.hid (Ints.of_own HOT.out)
          have his := HIT.out.run_index (P := Tryz.prog) slInts t (by rw [hlr2]; exact htn)
          have hcs := HIT.out.cell t (by rw [hlr2]; exact htn)
          rw [adRow_nth _ _ _ _ _ (by rw [HUL.out]; exact htn)] at hcs
          have HST := Lib.hid (adRow_step p c sm pt t (by rw [HUL.out]; exact htn))
          have HLR := Lib.hid hlr2
          have HFW := Lib.hid (HF.out.ext HXTW.out)
          clear hlr2
          generalize nth pt t = y at *
          generalize nth sm t = sy at *
          go_upto_region 9 with (fail)
          refine wp_region_quiet_tail 13 (by kernel_rfl) (by kernel_rfl) ?_
          simp only [List.take_succ_cons, List.take_zero, List.drop_succ_cons, List.drop_zero]
          repeat (go_big_quiet_step (first | (go_at_call 79; exact mul_q HFW.out _ _ _) | (go_at_call 78; exact add_q HFW.out _ _ _)))
          refine wpQuiet_nil ?_
          rintro _ ⟨nq, rfl⟩
          have HO4 := Lib.hid (own_ext HOT.out (Ext.drewN wr nq))
          have HXT4 := Lib.hid (HXT.out.trans ((Ext.drewN wr nq).grownBy _))
          go_wp2_with (refine wpList_set rfl rfl _ _ 3 rfl slInts HO4.out t htn rfl (.int .i64 (fadd p sy (fmul p c y))) rfl rfl (by intro u hu; simp [Value.cells] at hu; subst hu; rfl) ?_; intro w5 HO5 HG5)
          rw [ints_setC _ _ (by rw [HLR.out]; exact htn), HST.out] at HO5
          have HO5H := Lib.hid HO5
          clear HO5
          go_roundw
          case rel => exact ⟨t + 1, by omega, by go_num, HO5H, Lib.hid (HXT4.out.trans HG5)⟩
          case measure => simp [intOf]; omega
        · obtain rfl : m = t := by omega
          have HSF := Lib.hid (show wr.ownsRow w.heap.size 3 1 v7 m ((mxU p f rows m (i + 1)).map (Value.int .i64)) from by
            have h5 := HOT.out
            have h6 := adRow_last p c sm pt (by rw [HUL.out, HRL.out])
            rw [HUL.out] at h6
            rw [HUN.out, ← h6]; exact h5)
          clear HOT
          go_wp2_with fail
          go_roundw
          case rel => exact ⟨i + 1, by omega, by go_num, HSF, Lib.hid (HXQ8.out.trans HXT.out)⟩
          case measure => simp [intOf]; omega
    · obtain rfl : i = rows.length := by omega
      go_wp2_with fail
      go_ret
      exact .mk _ rfl HXR.out HOW.out
end
end Go.Proofs.YtfepefbehgbjpaaGreatDoor
end
section
namespace Go.Att
open Go.RowKit
end Go.Att
namespace Go.Proofs.YtfepefbehgbjpaaGreatDoor
open Go.RowKit Go.Att
section
variable {w : World} {bf : Nat} {p g : Int} {fs : List Int}
end
end Go.Proofs.YtfepefbehgbjpaaGreatDoor
end
section
namespace Go.Att
open Go.RowKit
def powsL (p r : Int) (n : Nat) : List Int := (List.range n).map fun i => fpow p r i
theorem powsL_length (p r : Int) (n : Nat) : (powsL p r n).length = n := by simp [powsL]
theorem powsL_snoc (p r : Int) (n : Nat) : powsL p r (n + 1) = powsL p r n ++ [fpow p r n] := by simp [powsL, List.range_succ]
theorem powsL_nth (p r : Int) (n i : Nat) (h : i < n) : nth (powsL p r n) i = fpow p r i := nth_map_range _ _ _ h
end Go.Att
namespace Go.Proofs.YtfepefbehgbjpaaGreatDoor
open Go.RowKit Go.Att
section
variable {w : World} {p : Int}
set_option maxRecDepth 100000 in
set_option maxHeartbeats 4000000 in
theorem rpowers_any (hp : 2 ≤ p) (hp2 : p ≤ 2147483647) (r : Int) (n : Nat) (hn : n ≤ 4294967290) :
    Calls Tryz.prog 49 #[.int .i64 p, .int .i64 r, .int .i64 n] w (Gives w fun u w' => Ints w' u (powsL p r n)) := by
  go_enter Tryz.func49, Tryz.ntmps49
  go_wp2_with fail
  go_loopw [7, 8, 9] (fun x7 x8 _ wr => ∃ i : Nat, i ≤ n ∧ x8 = .int .i64 i ∧ Hid (wr.ownsRow w.heap.size 3 1 x7 i ((powsL p r i).map (Value.int .i64))) ∧ Hid (Ext w wr)) (fun _ x8 _ _ => n - (intOf x8).toNat)
  case atStart => exact ⟨0, Nat.zero_le _, rfl, Lib.hid (World.ownsRow_nil _ _ _ _), Lib.hid (Ext.refl _)⟩
  case round =>
    obtain ⟨i, hi, rfl, HO, HX⟩ := hrel
    by_cases hlt : i < n
    · have S := Lib.hid (powsL_snoc p r i)
      go_wp2_with (first | (go_at_call 94; refine (rpow_any p r i _ hp hp2 (by omega)).mono ?_; rintro e w' ⟨rfl, rfl⟩) | (at_builtin; refine wpList_app1 rfl _ _ 22 rfl slInts rfl HX.out HO.out rfl _ rfl rfl (by omega) (by omega) ?_; intro v' w2 HO' HX' _))
      go_roundw
      case rel => exact ⟨i + 1, by omega, by go_num, Lib.hid (by rw [S.out, List.map_append]; exact HO'), Lib.hid HX'⟩
      case measure => simp [intOf]; omega
    · obtain rfl : n = i := by omega
      go_wp2_with fail
      go_ret
      exact .mk _ rfl HX.out (Ints.of_own HO.out)
end
end Go.Proofs.YtfepefbehgbjpaaGreatDoor
end
section
namespace Go.Att
open Go.RowKit
def KpO (B : Nat) (o : Option Nat) (W W' : World) : Prop := W.heap.size ≤ W'.heap.size ∧ ∀ k, (k = B ∨ o = some k) → k < W.heap.size → W'.heap[k]? = W.heap[k]?
theorem KpO.refl (B : Nat) (o : Option Nat) (W : World) : KpO B o W W := ⟨Nat.le_refl _, fun _ _ _ => rfl⟩
theorem KpO.trans {B : Nat} {o : Option Nat} {X Y Z : World} (h : KpO B o X Y) (k : KpO B o Y Z) : KpO B o X Z :=
  ⟨Nat.le_trans h.1 k.1, fun q h2 h3 => (k.2 q h2 (Nat.lt_of_lt_of_le h3 h.1)).trans (h.2 q h2 h3)⟩
theorem KpO.of_ext {B : Nat} {o : Option Nat} {W W' : World} (h : Ext W W') : KpO B o W W' := ⟨h.size, fun q _ h3 => h.below.block q h3⟩
theorem KpO.of_grown {B : Nat} {o : Option Nat} {W W' : World} {b : Option Nat} (h : W.grownBy W' b) (hb : ∀ k, b = some k → k ≠ B ∧ o ≠ some k) : KpO B o W W' :=
  ⟨h.size, fun q h2 h3 => h.block q h3 (fun e => by
    have h4 := hb q e.symm
    rcases h2 with h2 | h2
    · exact h4.1 h2
    · exact h4.2 h2)⟩
theorem KpO.cell {B : Nat} {q : Option Nat} {W W' : World} (h : KpO B q W W') {o : Nat} {v : Value} (hc : W.cell? ⟨B, o, none⟩ = some v) : W'.cell? ⟨B, o, none⟩ = some v := by
  rw [World.cell?_of_block (a := ⟨B, o, none⟩) (h.2 B (.inl rfl) (World.block_lt_of_cell? W _ hc))]; exact hc
theorem KpO.ints' {B : Nat} {W W' : World} {q : Option Nat} {v : Value} {l : List Int} (h : KpO B q W W') (hq : q = v.ownBlock) (hv : Ints W v l) : Ints W' v l := by
  subst hq
  obtain ⟨ao, cap, rfl, h2, h3, h4, h5⟩ := hv
  refine ⟨ao, cap, rfl, h2, h3, h4, fun i hi => ?_⟩
  obtain ⟨b, off, rfl, hc⟩ := h5 i hi
  refine ⟨b, off, rfl, ?_⟩
  rw [World.cell?_of_block (a := ⟨b, off + i, none⟩) (h.2 b (.inr rfl) (World.block_lt_of_cell? W _ hc))]; exact hc
end Go.Att
namespace Go.Proofs.YtfepefbehgbjpaaGreatDoor
open Go.RowKit Go.Att Go.Shelf
attribute [local go_sem] Oper.semAt_some
theorem KpO.putObj {B : Nat} {q : Option Nat} {w : World} (hn : B + 1 ≤ w.heap.size) (hq : ∀ k, q = some k → k < w.heap.size) (W : World) (l : Nat) (o o' : Obj) (hl : w.heap.size ≤ l) (_ : W.heap[l]? = some o) (_ : o.isCells = false) (_ : o.isWalk = false) : KpO B q W (W.putObj l o') :=
  KpO.of_grown (grownBy_putObj' W l o') (fun k e => by cases e; exact ⟨by omega, fun e => by have := hq _ e; omega⟩)
set_option maxRecDepth 100000 in
set_option maxHeartbeats 4000000 in
theorem back_any (ao : Option Addr) (len cap : Nat) (w : World) :
    Calls Tryz.prog 146 #[.slice ao len cap] w fun e w' => e = .returned (.func (.func 169) #[] #[.pointer (some ⟨w.heap.size, 0, none⟩)]) ∧ w' = w.alloc (.cells #[.slice ao len cap] 22) := by
  go_enter Tryz.func146, Tryz.ntmps146
  go_wp2_with fail
  go_ret
  exact ⟨rfl, rfl⟩
set_option maxRecDepth 100000 in
set_option maxHeartbeats 8000000 in
theorem back_stops {w : World} (B c : Nat) (q : Option Nat) (v : Value) (l : List Int) (hlc : l.length = c) (hqv : 0 < c → q = v.ownBlock) (hb : l.length ≤ 4294967296) (hB0 : w.cell? ⟨B, 0, none⟩ = some v) (hv : Ints w v l) (n : Nat) (hn : 1 ≤ n) :
    SeqStopsK Fence.wide n Tryz.prog 169 #[.pointer (some ⟨B, 0, none⟩)] (fun x : Fin c => #[.int .i64 (x.1 : Int), .int .i64 (nth l x.1)]) (KpO B q) (fun xs => xs = downF c c (Nat.le_refl c)) (fun pre => ∃ k, ∃ h : k ≤ c, pre = downF c k h) c w := by
  intro l0 J Jx W hW hJ hJx hY h0
  obtain ⟨ao, cap, hvs⟩ := hv.shape
  rw [hlc] at hvs
  subst hvs
  have HV := Lib.hid hv
  have HQ0 := Lib.hid ((show Ext w W from hW).cell hB0)
  have HVW := Lib.hid (hv.ext (show Ext w W from hW))
  have HJA := Lib.hid hJ
  have HY := Lib.hid hY
  clear hB0 hv hW hJ hJx hY
  have HC := Lib.hid hlc; have HQV := Lib.hid hqv
  have hll := HV.out.run_len (P := Tryz.prog) slInts
  rw [hlc] at hb
  rw [hlc] at hll
  clear hlc hqv
  refine callsIn_of_wp Tryz.func169 rfl trivial ?_ rfl
  simp only [Tryz.ntmps169, List.size_toArray, List.length_cons, List.length_nil, Nat.reduceAdd, Nat.reduceSub, Array.replicate_succ, Array.replicate_zero, List.push_toArray, List.append_toArray, List.nil_append, List.cons_append]
  have hc0 := HQ0.out
  gi_wp2
  gi_loopw [3] (fun x3 wr => ∃ k : Nat, ∃ hk : k ≤ c, x3 = .int .i64 ((c : Int) - 1 - k) ∧ J (downF c k hk) wr ∧ KpO B q W wr) (fun x3 _ => (intOf x3 + 1).toNat)
  case atStart => exact ⟨0, Nat.zero_le _, by simp, h0, KpO.refl _ _ _⟩
  case round =>
    clear hc0
    obtain ⟨k, hk, rfl, hJs, hKW⟩ := hrel
    have HJ := Lib.hid hJs; have HK := Lib.hid hKW
    have hc0 := hKW.cell HQ0.out
    clear hJs hKW
    by_cases hkc : k < c
    · obtain ⟨i, hi⟩ : ∃ i, c - 1 - k = i := ⟨_, rfl⟩
      have hil : i < l.length := by rw [HC.out]; omega
      have e1 : (c : Int) - 1 - (k : Int) = (i : Int) := by omega
      have HVR := Lib.hid (HK.out.ints' (HQV.out (by omega)) HVW.out)
      have hix := HVR.out.run_index (P := Tryz.prog) slInts i hil
      have hci := HVR.out.cell i hil
      have HI := Lib.hid hi
      rw [e1]
      have HIC := Lib.hid (show i < c from by omega)
      have HDF := Lib.hid (show downF c (k + 1) hkc = downF c k hk ++ [⟨i, HIC.out⟩] from by rw [downF]; congr 3)
      have HE2 := Lib.hid (show (i : Int) - 1 = (c : Int) - 1 - ((k + 1 : Nat) : Int) from by omega)
      have hib : i ≤ 4294967296 := by omega
      clear e1 hi
      obtain ⟨fn, tmps, assign, body, hy, hR⟩ := HY.out _ (⟨i, HIC.out⟩ : Fin c) wr HJ.out (by rw [downF_length]; exact hkc)
      dsimp only at hy
      gi_wp2
      refine hR.mono ?_
      rintro e w3 (⟨rfl, hJ3, hk3⟩ | ⟨rfl, hJx3⟩)
      · have HJ3 := Lib.hid hJ3
        have HK3 := Lib.hid (HK.out.trans hk3)
        clear hJ3 hk3 hc0 HJ HK hix hci hy hR
        gi_wp2
        go_roundw
        case rel => exact ⟨k + 1, hkc, by rw [← HE2.out], by rw [HDF.out]; exact HJ3.out, HK3.out⟩
        case measure => simp [intOf]
      · have HJX := Lib.hid hJx3
        clear hJx3 hc0 HJ HK hix hci hy hR
        gi_wp2
        refine bodyPost_ret (results_none rfl _ _ _) rfl ?_
        exact ⟨⟨_, rfl⟩, .inr ⟨_, ⟨k + 1, hkc, HDF.out.symm⟩, HJX.out⟩⟩
    · obtain rfl : k = c := by omega
      gi_wp2
      go_end0
      first | exact ⟨⟨_, rfl⟩, .inl HJ.out⟩ | exact ⟨⟨_, rfl⟩, .inl ⟨_, rfl, HJ.out⟩⟩
end Go.Proofs.YtfepefbehgbjpaaGreatDoor
end
section
namespace Go.Proofs.YtfepefbehgbjpaaGreatDoor
open Go.RowKit Go.Att Go.Shelf
attribute [local go_sem] Oper.semAt_some
section
variable {w : World} {bf : Nat} {p g : Int} {fs : List Int}
set_option maxRecDepth 100000 in
set_option maxHeartbeats 8000000 in
theorem peval_any (hf : Fld w (.pointer (some ⟨bf, 0, none⟩)) p g fs) (v : Value) (l : List Int) (x : Int) (hv : Ints w v l) (hl : l.length ≤ 4294967000) :
    Calls Tryz.prog 112 #[.pointer (some ⟨bf, 0, none⟩), v, .int .i64 x] w (Gives w fun u _w' => u = .int .i64 (ev l x % p)) := by
  obtain ⟨N, hN⟩ : ∃ N, l.length = N := ⟨_, rfl⟩
  obtain ⟨a1, c1, hvs⟩ := hv.shape
  rw [hN] at hvs hl
  subst hvs
  obtain ⟨q, hq, hq2⟩ : ∃ q : Option Nat, (0 < N → q = (Value.slice a1 N c1).ownBlock) ∧ ∀ k, q = some k → k < w.heap.size := by
    by_cases h0 : 0 < N
    · exact ⟨_, fun _ => rfl, ints_lt9 hv (by omega)⟩
    · exact ⟨none, fun h => absurd h h0, fun k e => by cases e⟩
  have HF := Lib.hid hf; have HV := Lib.hid hv; have HQ := Lib.hid hq; have HQ2 := Lib.hid hq2; have HN := Lib.hid hN
  have HPF := Lib.hid (show evF p x l (downF N N (Nat.le_refl N)) = ev l x % p from by subst hN; exact evF_all p x l)
  clear hf hv hq hq2 hN
  obtain ⟨W0, hW0⟩ : ∃ W0, W0 = ((w.alloc (Obj.cells #[.pointer (some ⟨bf, 0, none⟩)] 57)).alloc (Obj.cells #[.int .i64 x] 3)).alloc (Obj.cells #[.int .i64 0] 3) := ⟨_, rfl⟩
  have hs0 : W0.heap.size = w.heap.size + 3 := by rw [hW0]; simp
  have hx0 : Ext w W0 := by rw [hW0]; exact ((Ext.alloc _ _).trans (Ext.alloc _ _)).trans (Ext.alloc _ _)
  have k0 : W0.cell? ⟨w.heap.size, 0, none⟩ = some (.pointer (some ⟨bf, 0, none⟩)) := by rw [hW0]; exact ((Ext.alloc _ _).trans (Ext.alloc _ _)).cell (cell_new w #[.pointer (some ⟨bf, 0, none⟩)] _ 0)
  have k1 : W0.cell? ⟨w.heap.size + 1, 0, none⟩ = some (.int .i64 x) := by rw [hW0]; have := cell_new (w.alloc (Obj.cells #[.pointer (some ⟨bf, 0, none⟩)] 57)) #[.int .i64 x] 3 0; rw [World.size_alloc] at this; exact (Ext.alloc _ _).cell this
  have k2 : BlkOf W0 (w.heap.size + 2) [.int .i64 0] 3 := by rw [hW0]; have := BlkOf.new ((w.alloc (Obj.cells #[.pointer (some ⟨bf, 0, none⟩)] 57)).alloc (Obj.cells #[.int .i64 x] 3)) [.int .i64 0] 3; rw [World.size_alloc, World.size_alloc] at this; exact this
  have HS0 := Lib.hid hs0; have HX0 := Lib.hid hx0; have K0 := Lib.hid k0; have K1 := Lib.hid k1; have K2 := Lib.hid k2
  have HW0 := Lib.hid hW0
  clear hs0 hx0 k0 k1 k2 hW0
  refine (callsIn_wide (n := 3)).1 ?_
  refine callsIn_of_wp_marks Tryz.func112 rfl trivial ?_ rfl
  simp only [Tryz.ntmps112, List.size_toArray, List.length_cons, List.length_nil, Nat.reduceAdd, Nat.reduceSub, Array.replicate_succ, Array.replicate_zero, List.push_toArray, List.append_toArray, List.nil_append, List.cons_append]
  gi_wp2_with (refine ⟨trivial, ?_⟩; gi_at_call 146; refine (callsIn_wide.2 (back_any a1 N c1 _)).mono ?_; rintro e w2 ⟨rfl, hw2⟩; have HW2 := Lib.hid hw2; clear hw2)
  have hw2 := HW2.out
  rw [← HW0.out] at hw2
  have hx2 : Ext W0 w2 := by rw [hw2]; exact Ext.alloc _ _
  have hB0 : w2.cell? ⟨w.heap.size + 3, 0, none⟩ = some (.slice a1 N c1) := by rw [hw2, ← HS0.out]; exact cell_new W0 #[.slice a1 N c1] _ 0
  have hs2 : w2.heap.size = w.heap.size + 4 := by rw [hw2, World.size_alloc, HS0.out]
  clear hw2 HW2 HW0
  have HXX := Lib.hid (HX0.out.trans hx2)
  refine wpIn_rangeFunc_ownF rfl (by omega) (gf := 169) (lb := #[.pointer (some ⟨w.heap.size + 3, 0, none⟩)]) rfl trivial (enters_of Tryz.func169 (by kernel_rfl) rfl)
    (back_stops (w.heap.size + 3) N q (.slice a1 N c1) l HN.out HQ.out (by rw [HN.out]; omega) hB0 (HV.out.ext HXX.out) (3 - 1) (by omega)) (fun h k => KpO.trans h k) (KpO.putObj (by omega) (fun k hk => by have := HQ2.out k hk; omega)) (Below.refl _ _) (fun _ => rfl)
    (fun pre W => W.cell? ⟨w.heap.size, 0, none⟩ = some (.pointer (some ⟨bf, 0, none⟩)) ∧ W.cell? ⟨w.heap.size + 1, 0, none⟩ = some (.int .i64 x) ∧ BlkOf W (w.heap.size + 2) [.int .i64 (evF p x l pre)] 3 ∧ Ext w W)
    (fun _ _ _ => False)
    (ownFrom_of ?own)
    (fun _ _ _ _ _ hs _ _ => hs)
    ⟨hx2.cell K0.out, hx2.cell K1.out, K2.out.ext hx2, HXX.out⟩
    (fun i => { tmps := #[.pointer (some ⟨bf, 0, none⟩), .slice a1 N c1, .int .i64 x, .pointer (some ⟨w.heap.size, 0, none⟩), undef, .pointer (some ⟨w.heap.size + 1, 0, none⟩), .int .i64 0, .pointer (some ⟨w.heap.size + 2, 0, none⟩), undef, .int .i64 (nth l i.1), .slice a1 N c1, .func (.func 169) #[] #[.pointer (some ⟨w.heap.size + 3, 0, none⟩)], .int .i64 (i.1 : Int), .int .i64 (nth l i.1), undef, undef, undef, undef, undef, undef, undef, undef], defers := [] }) ?assign ?body ?done ?stop
  case own =>
    rintro pre A B row ⟨h1, h2, h3, h4⟩ hg hr
    have hne : ∀ k, k < w2.heap.size → some k ≠ row := fun k hk e => by have := hr k e.symm; omega
    exact ⟨hg.cell h1 (hne _ (by show w.heap.size < _; omega)), hg.cell h2 (hne _ (by show w.heap.size + 1 < _; omega)), h3.grown hg (hne _ (by omega)), Below.grown h4.below hg h4.size (fun k e => by have := hr k e; omega)⟩
  case assign =>
    intro l x W K hK
    gi_wp2
    exact hK
  case body =>
    rintro l0 pre i W ⟨h1, h2, h3, h4⟩ hlen
    have h30 : W.cell? ⟨w.heap.size + 2, 0, none⟩ = some (.int .i64 (evF p x l pre)) := h3.cell 0
    have h3f := h3.free 0
    have HSN := Lib.hid (evF_snoc p x l pre i)
    have HFW := Lib.hid (HF.out.ext h4)
    have H1 := Lib.hid h1; have H2 := Lib.hid h2; have H3 := Lib.hid h3; have H4 := Lib.hid h4
    have HCB := Lib.hid (show ∀ o, W.heap[w.heap.size + 2]? = some o → o.isCells = true from fun o ho => by
      have h2' := h3
      unfold BlkOf at h2'
      rw [h2'] at ho
      cases ho; rfl)
    generalize evF p x l pre = E at *
    generalize nth l i.1 = y at *
    clear h3 h4
    gi_wp2
    refine wpIn_region_quiet_tail 7 (by kernel_rfl) (by kernel_rfl) (by kernel_rfl) ?_
    simp only [List.take_succ_cons, List.take_zero, List.drop_succ_cons, List.drop_zero]
    repeat (go_big_quiet_step (first | (go_at_call 78; exact add_q HFW.out _ _ _) | (go_at_call 79; exact mul_q HFW.out _ _ _)))
    refine wpQuiet_nil ?_
    rintro _ ⟨nq, rfl⟩
    have HB5 := Lib.hid ((H3.out.ext (Ext.drewN W nq)).set 0 (.int .i64 (fadd p (fmul p E x) y)))
    gi_wp2
    have hgf := ((Ext.drewN W nq).grownBy (some (w.heap.size + 2))).trans (setCell_grown (W.drewN nq) (w.heap.size + 2) 0 (.int .i64 (fadd p (fmul p E x) y)))
    refine ⟨KeepsOthers.of_grownBy hgf (fun j o e hj => by cases e; exact HCB.out o hj), KpO.of_grown hgf (fun k e => by cases e; exact ⟨by omega, fun e2 => by have := HQ2.out _ e2; omega⟩), hgf.cell H1.out (fun e => by have : w.heap.size = w.heap.size + 2 := Option.some.inj e; omega), hgf.cell H2.out (fun e => by have : w.heap.size + 1 = w.heap.size + 2 := Option.some.inj e; omega), by rw [HSN.out]; exact HB5.out, Below.grown H4.out.below hgf H4.out.size (fun k e => by cases e; omega)⟩
  case done =>
    rintro D xs W hD rfl ⟨h1, h2, h3, h4⟩ hK
    have h30 : W.cell? ⟨w.heap.size + 2, 0, none⟩ = some _ := h3.cell 0
    gi_wp2
    refine ⟨by simp, .inl ⟨_, _, rfl, run_takeDeferred hK, ?_⟩⟩
    have hg := grownBy_putObj' W D (.deferred none)
    exact ⟨_, results_tmp rfl _ _ _, .mk _ rfl (Below.grown h4.below hg h4.size (fun q e => by have := Option.some.inj e; omega)) (by rw [HPF.out]; rfl)⟩
  case stop =>
    rintro D c pre W _ _ h _
    exact h.elim
end
end Go.Proofs.YtfepefbehgbjpaaGreatDoor
end
