/- A polynomial parted by a linear factor, the program's way: plain laws. No program in sight. The loop of poly.Vanish: what the next list is behind so many steps: plain laws. No program in sight. The loops of poly.Fit and poly.Eval: what stands behind so many steps: plain laws. No program in sight. poly.Vanish: contract. A range over a slice from its end: slices.Backward; a polynomial at a point: poly.Eval: contracts. A polynomial at a point: poly.Eval: contract. -/
import Derived.Test.YtcpnidomdkaefaaGreatDoorZx18
import Derived.Test.YtcpnidomdkaefaaGreatDoorZx14
import Derived.Test.YtcpnidomdkaefaaGreatDoorZx13
import Derived.RangeFuncNested
import Derived.RangeFuncBound
import Derived.RangeFuncCalls
import Derived.RangeFuncLeaves
import Derived.Shelf.Abstract
import Derived.Shelf.RegionOpen
import Derived.WalkKit
import Derived.OwnWalkIn
import Derived.TacticsInMore
import Derived.LoopNIn
import Derived.LoopIn
import Derived.Test.YtcpnidomdkaefaaGreatDoorSx
section
namespace Go.Att
/-- What a list is at x, from its top down. -/
def hv (p x : Int) : List Int → Int
  | [] => 0
  | c :: l => (c + hv p x l * x) % p
/-- .. and what is left of the list by its factor. -/
def hq (p x : Int) : List Int → List Int
  | [] => []
  | _ :: l => hv p x l :: hq p x l
/-- A list is added so many times to another. -/
def addc (p c : Int) : List Int → List Int → List Int
  | s :: ss, q :: qs => fadd p s (fmul p c q) :: addc p c ss qs
  | _, _ => []
theorem addc_length (p c : Int) : ∀ s q : List Int, s.length = q.length → (addc p c s q).length = s.length
  | [], [], _ => rfl
  | _ :: ss, _ :: qs, h => by simp [addc, addc_length p c ss qs (by simpa using h)]
end Go.Att
end
section
namespace Go.Att
end Go.Att
end
section
namespace Go.Att
/-- The sum under way: the first k of its places have been added to. -/
def adRow (p c : Int) (s q : List Int) (k : Nat) : List Int := (List.range s.length).map fun i => if i < k then fadd p (nth s i) (fmul p c (nth q i)) else nth s i
theorem adRow_length (p c : Int) (s q : List Int) (k : Nat) : (adRow p c s q k).length = s.length := by simp [adRow]
theorem adRow_nth (p c : Int) (s q : List Int) (k : Nat) (h : k < s.length) : nth (adRow p c s q k) k = nth s k := by
  unfold adRow
  rw [nth_map_range _ _ _ h, if_neg (by omega)]
theorem adRow_zero (p c : Int) (s q : List Int) : adRow p c s q 0 = s := by
  refine List.ext_getElem (by simp [adRow]) fun k h1 h2 => ?_
  simp [adRow, nth_eq h2]
theorem adRow_step (p c : Int) (s q : List Int) (k : Nat) (_h : k < s.length) : (adRow p c s q k).set k (fadd p (nth s k) (fmul p c (nth q k))) = adRow p c s q (k + 1) := by
  refine List.ext_getElem (by simp [adRow]) fun i h1 h2 => ?_
  simp only [List.getElem_set, adRow, List.getElem_map, List.getElem_range]
  by_cases e : k = i
  · subst e; rw [if_pos rfl, if_pos (by omega)]
  · rw [if_neg e]
    by_cases e2 : i < k
    · rw [if_pos e2, if_pos (by omega)]
    · rw [if_neg e2, if_neg (by omega)]
theorem addc_nth (p c : Int) : ∀ (s q : List Int) (k : Nat), s.length = q.length → k < s.length → nth (addc p c s q) k = fadd p (nth s k) (fmul p c (nth q k))
  | [], _, _, _, h => by simp at h
  | _ :: _, [], _, h, _ => by simp at h
  | s :: ss, q :: qs, 0, _, _ => by simp [addc, nth]
  | s :: ss, q :: qs, k + 1, h, hk => by
    have := addc_nth p c ss qs k (by simpa using h) (by simpa using hk)
    simpa [addc, nth] using this
theorem adRow_last (p c : Int) (s q : List Int) (h : s.length = q.length) : adRow p c s q s.length = addc p c s q := by
  refine List.ext_getElem (by rw [adRow_length, addc_length _ _ _ _ h]) fun k h1 h2 => ?_
  rw [adRow_length] at h1
  have e := addc_nth p c s q k h h1
  rw [nth_eq h2] at e
  rw [e]
  simp only [adRow, List.getElem_map, List.getElem_range]
  rw [if_pos h1]
/-- The last k of c places, the last first. -/
def downF (c : Nat) : (k : Nat) → k ≤ c → List (Fin c)
  | 0, _ => []
  | k + 1, h => downF c k (by omega) ++ [⟨c - 1 - k, by omega⟩]
theorem downF_length (c : Nat) : ∀ (k : Nat) (h : k ≤ c), (downF c k h).length = k
  | 0, _ => rfl
  | k + 1, h => by rw [downF, List.length_append, downF_length c k]; rfl
/-- What a polynomial is at x when so many of its places have come. -/
def evF (p x : Int) (l : List Int) {c : Nat} (pre : List (Fin c)) : Int := pre.foldl (fun s i => fadd p (fmul p s x) (nth l i.1)) 0
theorem evF_snoc (p x : Int) (l : List Int) {c : Nat} (pre : List (Fin c)) (i : Fin c) : evF p x l (pre ++ [i]) = fadd p (fmul p (evF p x l pre) x) (nth l i.1) := by unfold evF; rw [List.foldl_append]; rfl
theorem evF_downF (p x : Int) (l : List Int) : ∀ (k : Nat) (h : k ≤ l.length), evF p x l (downF l.length k h) = ev (l.drop (l.length - k)) x % p
  | 0, _ => by simp [downF, evF, ev]
  | k + 1, h => by
    have hk : l.length - (k + 1) < l.length := by omega
    rw [downF, evF_snoc, evF_downF p x l k (by omega), List.drop_eq_getElem_cons hk, ev]
    show fadd p (fmul p (ev (l.drop (l.length - k)) x % p) x) (nth l (l.length - 1 - k)) = _
    have e1 : nth l (l.length - 1 - k) = l[l.length - (k + 1)] := by rw [show l.length - 1 - k = l.length - (k + 1) by omega, nth_eq hk]
    rw [e1, show l.length - (k + 1) + 1 = l.length - k by omega]
    simp only [fadd, fmul, em_l, ea_l]
    rw [Int.add_comm, Int.mul_comm]
theorem evF_all (p x : Int) (l : List Int) : evF p x l (downF l.length l.length (Nat.le_refl _)) = ev l x % p := by
  rw [evF_downF, Nat.sub_self, List.drop_zero]
end Go.Att
end
section
namespace Go.Proofs.YtcpnidomdkaefaaGreatDoor
open Go.RowKit Go.Att
section
variable {w : World} {f vx : Value} {p g : Int} {fs : List Int} {xs : List Int}
theorem ints_setC (l : List Int) (i : Nat) (h : i < l.length) (v : Int) : (l.map (Value.int .i64)).take (i * 1) ++ (Value.int .i64 v).cells.toList ++ (l.map (Value.int .i64)).drop (i * 1 + 1) = (l.set i v).map (Value.int .i64) := by
  rw [Nat.mul_one, List.set_eq_take_append_cons_drop, if_pos h]
  simp [Value.cells, List.map_take, List.map_drop]
end
end Go.Proofs.YtcpnidomdkaefaaGreatDoor
end
section
namespace Go.Att
open Go.RowKit
/-- What a round keeps: the one block of the iterator's own, and a block that is read. -/
def KpO (B : Nat) (o : Option Nat) (W W' : World) : Prop := W.heap.size ≤ W'.heap.size ∧ ∀ k, (k = B ∨ o = some k) → k < W.heap.size → W'.heap[k]? = W.heap[k]?
theorem KpO.refl (B : Nat) (o : Option Nat) (W : World) : KpO B o W W := ⟨Nat.le_refl _, fun _ _ _ => rfl⟩
theorem KpO.trans {B : Nat} {o : Option Nat} {X Y Z : World} (h : KpO B o X Y) (k : KpO B o Y Z) : KpO B o X Z :=
  ⟨Nat.le_trans h.1 k.1, fun q h2 h3 => (k.2 q h2 (Nat.lt_of_lt_of_le h3 h.1)).trans (h.2 q h2 h3)⟩
theorem KpO.of_ext {B : Nat} {o : Option Nat} {W W' : World} (h : Ext W W') : KpO B o W W' := ⟨h.size, fun q _ h3 => h.below.block q h3⟩
theorem KpO.of_grown {B : Nat} {o : Option Nat} {W W' : World} {b : Option Nat} (h : W.grownBy W' b) (hb : ∀ k, b = some k → k ≠ B ∧ o ≠ some k) : KpO B o W W' :=
  ⟨h.size, fun q h2 h3 => h.block q h3 (fun e => by
    have h4 := hb q e.symm
    rcases h2 with h2 | h2
    · exact h4.1 h2
    · exact h4.2 h2)⟩
theorem KpO.cell {B : Nat} {q : Option Nat} {W W' : World} (h : KpO B q W W') {o : Nat} {v : Value} (hc : W.cell? ⟨B, o, none⟩ = some v) : W'.cell? ⟨B, o, none⟩ = some v := by
  rw [World.cell?_of_block (a := ⟨B, o, none⟩) (h.2 B (.inl rfl) (World.block_lt_of_cell? W _ hc))]; exact hc
theorem KpO.ints' {B : Nat} {W W' : World} {q : Option Nat} {v : Value} {l : List Int} (h : KpO B q W W') (hq : q = v.ownBlock) (hv : Ints W v l) : Ints W' v l := by
  subst hq
  obtain ⟨ao, cap, rfl, h2, h3, h4, h5⟩ := hv
  refine ⟨ao, cap, rfl, h2, h3, h4, fun i hi => ?_⟩
  obtain ⟨b, off, rfl, hc⟩ := h5 i hi
  refine ⟨b, off, rfl, ?_⟩
  rw [World.cell?_of_block (a := ⟨b, off + i, none⟩) (h.2 b (.inr rfl) (World.block_lt_of_cell? W _ hc))]; exact hc
end Go.Att
namespace Go.Proofs.YtcpnidomdkaefaaGreatDoor
open Go.RowKit Go.Att Go.Shelf
attribute [local go_sem] Oper.semAt_some
theorem KpO.putObj {B : Nat} {q : Option Nat} {w : World} (hn : B + 1 ≤ w.heap.size) (hq : ∀ k, q = some k → k < w.heap.size) (W : World) (l : Nat) (o o' : Obj) (hl : w.heap.size ≤ l) (_ : W.heap[l]? = some o) (_ : o.isCells = false) (_ : o.isWalk = false) : KpO B q W (W.putObj l o') :=
  KpO.of_grown (grownBy_putObj' W l o') (fun k e => by cases e; exact ⟨by omega, fun e => by have := hq _ e; omega⟩)
set_option maxRecDepth 100000 in
set_option maxHeartbeats 4000000 in
theorem back_any (ao : Option Addr) (len cap : Nat) (w : World) :
    Calls Tryz.prog 142 #[.slice ao len cap] w fun e w' => e = .returned (.func (.func 173) #[] #[.pointer (some ⟨w.heap.size, 0, none⟩)]) ∧ w' = w.alloc (.cells #[.slice ao len cap] 22) := by
  go_enter Tryz.func142, Tryz.ntmps142
  go_wp2_with fail
  go_ret
  exact ⟨rfl, rfl⟩
set_option maxRecDepth 100000 in
set_option maxHeartbeats 8000000 in
theorem back_stops {w : World} (B c : Nat) (q : Option Nat) (v : Value) (l : List Int) (hlc : l.length = c) (hqv : 0 < c → q = v.ownBlock) (hb : l.length ≤ 4294967296) (hB0 : w.cell? ⟨B, 0, none⟩ = some v) (hv : Ints w v l) (n : Nat) (hn : 1 ≤ n) :
    SeqStopsK Fence.wide n Tryz.prog 173 #[.pointer (some ⟨B, 0, none⟩)] (fun x : Fin c => #[.int .i64 (x.1 : Int), .int .i64 (nth l x.1)]) (KpO B q) (fun xs => xs = downF c c (Nat.le_refl c)) (fun pre => ∃ k, ∃ h : k ≤ c, pre = downF c k h) c w := by
  intro l0 J Jx W hW hJ hJx hY h0
  obtain ⟨ao, cap, hvs⟩ := hv.shape
  rw [hlc] at hvs
  subst hvs
  have HV := Lib.hid hv
  have HQ0 := Lib.hid ((show Ext w W from hW).cell hB0)
  have HVW := Lib.hid (hv.ext (show Ext w W from hW))
  have HJA := Lib.hid hJ
  have HY := Lib.hid hY
  clear hB0 hv hW hJ hJx hY
  have HC := Lib.hid hlc; have HQV := Lib.hid hqv
  have hll := HV.out.run_len (P := Tryz.prog) slInts
  rw [hlc] at hb
  rw [hlc] at hll
  clear hlc hqv
  refine callsIn_of_wp Tryz.func173 rfl trivial ?_ rfl
  simp only [Tryz.ntmps173, List.size_toArray, List.length_cons, List.length_nil, Nat.reduceAdd, Nat.reduceSub, Array.replicate_succ, Array.replicate_zero, List.push_toArray, List.append_toArray, List.nil_append, List.cons_append]
  have hc0 := HQ0.out
  gi_wp2
  gi_loopw [3] (fun x3 wr => ∃ k : Nat, ∃ hk : k ≤ c, x3 = .int .i64 ((c : Int) - 1 - k) ∧ J (downF c k hk) wr ∧ KpO B q W wr) (fun x3 _ => (intOf x3 + 1).toNat)
  case atStart => exact ⟨0, Nat.zero_le _, by simp, h0, KpO.refl _ _ _⟩
  case round =>
    clear hc0
    obtain ⟨k, hk, rfl, hJs, hKW⟩ := hrel
    have HJ := Lib.hid hJs; have HK := Lib.hid hKW
    have hc0 := hKW.cell HQ0.out
    clear hJs hKW
    by_cases hkc : k < c
    · obtain ⟨i, hi⟩ : ∃ i, c - 1 - k = i := ⟨_, rfl⟩
      have hil : i < l.length := by rw [HC.out]; omega
      have e1 : (c : Int) - 1 - (k : Int) = (i : Int) := by omega
      have HVR := Lib.hid (HK.out.ints' (HQV.out (by omega)) HVW.out)
      have hix := HVR.out.run_index (P := Tryz.prog) slInts i hil
      have hci := HVR.out.cell i hil
      have HI := Lib.hid hi
      rw [e1]
      have HIC := Lib.hid (show i < c from by omega)
      have HDF := Lib.hid (show downF c (k + 1) hkc = downF c k hk ++ [⟨i, HIC.out⟩] from by rw [downF]; congr 3)
      have HE2 := Lib.hid (show (i : Int) - 1 = (c : Int) - 1 - ((k + 1 : Nat) : Int) from by omega)
      have hib : i ≤ 4294967296 := by omega
      clear e1 hi
      obtain ⟨fn, tmps, assign, body, hy, hR⟩ := HY.out _ (⟨i, HIC.out⟩ : Fin c) wr HJ.out (by rw [downF_length]; exact hkc)
      dsimp only at hy
      gi_wp2
      refine hR.mono ?_
      rintro e w3 (⟨rfl, hJ3, hk3⟩ | ⟨rfl, hJx3⟩)
      · have HJ3 := Lib.hid hJ3
        have HK3 := Lib.hid (HK.out.trans hk3)
        clear hJ3 hk3 hc0 HJ HK hix hci hy hR
        gi_wp2
        go_roundw
        case rel => exact ⟨k + 1, hkc, by rw [← HE2.out], by rw [HDF.out]; exact HJ3.out, HK3.out⟩
        case measure => simp [intOf]
      · have HJX := Lib.hid hJx3
        clear hJx3 hc0 HJ HK hix hci hy hR
        gi_wp2
        refine bodyPost_ret (results_none rfl _ _ _) rfl ?_
        exact ⟨⟨_, rfl⟩, .inr ⟨_, ⟨k + 1, hkc, HDF.out.symm⟩, HJX.out⟩⟩
    · obtain rfl : k = c := by omega
      gi_wp2
      go_end0
      first | exact ⟨⟨_, rfl⟩, .inl HJ.out⟩ | exact ⟨⟨_, rfl⟩, .inl ⟨_, rfl, HJ.out⟩⟩
end Go.Proofs.YtcpnidomdkaefaaGreatDoor
end
section
namespace Go.Proofs.YtcpnidomdkaefaaGreatDoor
open Go.RowKit Go.Att Go.Shelf
attribute [local go_sem] Oper.semAt_some
section
variable {w : World} {bf : Nat} {p g : Int} {fs : List Int}
set_option maxRecDepth 100000 in
set_option maxHeartbeats 8000000 in
theorem peval_any (hf : Fld w (.pointer (some ⟨bf, 0, none⟩)) p g fs) (v : Value) (l : List Int) (x : Int) (hv : Ints w v l) (hl : l.length ≤ 4294967000) :
    Calls Tryz.prog 95 #[.pointer (some ⟨bf, 0, none⟩), v, .int .i64 x] w (Gives w fun u _w' => u = .int .i64 (ev l x % p)) := by
  obtain ⟨N, hN⟩ : ∃ N, l.length = N := ⟨_, rfl⟩
  obtain ⟨a1, c1, hvs⟩ := hv.shape
  rw [hN] at hvs hl
  subst hvs
  obtain ⟨q, hq, hq2⟩ : ∃ q : Option Nat, (0 < N → q = (Value.slice a1 N c1).ownBlock) ∧ ∀ k, q = some k → k < w.heap.size := by
    by_cases h0 : 0 < N
    · exact ⟨_, fun _ => rfl, ints_lt9 hv (by omega)⟩
    · exact ⟨none, fun h => absurd h h0, fun k e => by cases e⟩
  have HF := Lib.hid hf; have HV := Lib.hid hv; have HQ := Lib.hid hq; have HQ2 := Lib.hid hq2; have HN := Lib.hid hN
  have HPF := Lib.hid (show evF p x l (downF N N (Nat.le_refl N)) = ev l x % p from by subst hN; exact evF_all p x l)
  clear hf hv hq hq2 hN
  obtain ⟨W0, hW0⟩ : ∃ W0, W0 = ((w.alloc (Obj.cells #[.pointer (some ⟨bf, 0, none⟩)] 47)).alloc (Obj.cells #[.int .i64 x] 3)).alloc (Obj.cells #[.int .i64 0] 3) := ⟨_, rfl⟩
  have hs0 : W0.heap.size = w.heap.size + 3 := by rw [hW0]; simp
  have hx0 : Ext w W0 := by rw [hW0]; exact ((Ext.alloc _ _).trans (Ext.alloc _ _)).trans (Ext.alloc _ _)
  have k0 : W0.cell? ⟨w.heap.size, 0, none⟩ = some (.pointer (some ⟨bf, 0, none⟩)) := by rw [hW0]; exact ((Ext.alloc _ _).trans (Ext.alloc _ _)).cell (cell_new w #[.pointer (some ⟨bf, 0, none⟩)] _ 0)
  have k1 : W0.cell? ⟨w.heap.size + 1, 0, none⟩ = some (.int .i64 x) := by rw [hW0]; have := cell_new (w.alloc (Obj.cells #[.pointer (some ⟨bf, 0, none⟩)] 47)) #[.int .i64 x] 3 0; rw [World.size_alloc] at this; exact (Ext.alloc _ _).cell this
  have k2 : BlkOf W0 (w.heap.size + 2) [.int .i64 0] 3 := by rw [hW0]; have := BlkOf.new ((w.alloc (Obj.cells #[.pointer (some ⟨bf, 0, none⟩)] 47)).alloc (Obj.cells #[.int .i64 x] 3)) [.int .i64 0] 3; rw [World.size_alloc, World.size_alloc] at this; exact this
  have HS0 := Lib.hid hs0; have HX0 := Lib.hid hx0; have K0 := Lib.hid k0; have K1 := Lib.hid k1; have K2 := Lib.hid k2
  have HW0 := Lib.hid hW0
  clear hs0 hx0 k0 k1 k2 hW0
  refine (callsIn_wide (n := 3)).1 ?_
  refine callsIn_of_wp_marks Tryz.func95 rfl trivial ?_ rfl
  simp only [Tryz.ntmps95, List.size_toArray, List.length_cons, List.length_nil, Nat.reduceAdd, Nat.reduceSub, Array.replicate_succ, Array.replicate_zero, List.push_toArray, List.append_toArray, List.nil_append, List.cons_append]
  gi_wp2_with (refine ⟨trivial, ?_⟩; gi_at_call 142; refine (callsIn_wide.2 (back_any a1 N c1 _)).mono ?_; rintro e w2 ⟨rfl, hw2⟩; have HW2 := Lib.hid hw2; clear hw2)
  have hw2 := HW2.out
  rw [← HW0.out] at hw2
  have hx2 : Ext W0 w2 := by rw [hw2]; exact Ext.alloc _ _
  have hB0 : w2.cell? ⟨w.heap.size + 3, 0, none⟩ = some (.slice a1 N c1) := by rw [hw2, ← HS0.out]; exact cell_new W0 #[.slice a1 N c1] _ 0
  have hs2 : w2.heap.size = w.heap.size + 4 := by rw [hw2, World.size_alloc, HS0.out]
  clear hw2 HW2 HW0
  have HXX := Lib.hid (HX0.out.trans hx2)
  refine wpIn_rangeFunc_ownF rfl (by omega) (gf := 173) (lb := #[.pointer (some ⟨w.heap.size + 3, 0, none⟩)]) rfl trivial (enters_of Tryz.func173 (by kernel_rfl) rfl)
    (back_stops (w.heap.size + 3) N q (.slice a1 N c1) l HN.out HQ.out (by rw [HN.out]; omega) hB0 (HV.out.ext HXX.out) (3 - 1) (by omega)) (fun h k => KpO.trans h k) (KpO.putObj (by omega) (fun k hk => by have := HQ2.out k hk; omega)) (Below.refl _ _) (fun _ => rfl)
    (fun pre W => W.cell? ⟨w.heap.size, 0, none⟩ = some (.pointer (some ⟨bf, 0, none⟩)) ∧ W.cell? ⟨w.heap.size + 1, 0, none⟩ = some (.int .i64 x) ∧ BlkOf W (w.heap.size + 2) [.int .i64 (evF p x l pre)] 3 ∧ Ext w W)
    (fun _ _ _ => False)
    (ownFrom_of ?own)
    (fun _ _ _ _ _ hs _ _ => hs)
    ⟨hx2.cell K0.out, hx2.cell K1.out, K2.out.ext hx2, HXX.out⟩
    (fun i => { tmps := #[.pointer (some ⟨bf, 0, none⟩), .slice a1 N c1, .int .i64 x, .pointer (some ⟨w.heap.size, 0, none⟩), undef, .pointer (some ⟨w.heap.size + 1, 0, none⟩), .int .i64 0, .pointer (some ⟨w.heap.size + 2, 0, none⟩), undef, .int .i64 (nth l i.1), .slice a1 N c1, .func (.func 173) #[] #[.pointer (some ⟨w.heap.size + 3, 0, none⟩)], .int .i64 (i.1 : Int), .int .i64 (nth l i.1), undef, undef, undef, undef, undef, undef, undef, undef], defers := [] }) ?assign ?body ?done ?stop
  case own =>
    rintro pre A B row ⟨h1, h2, h3, h4⟩ hg hr
    have hne : ∀ k, k < w2.heap.size → some k ≠ row := fun k hk e => by have := hr k e.symm; omega
    exact ⟨hg.cell h1 (hne _ (by show w.heap.size < _; omega)), hg.cell h2 (hne _ (by show w.heap.size + 1 < _; omega)), h3.grown hg (hne _ (by omega)), Below.grown h4.below hg h4.size (fun k e => by have := hr k e; omega)⟩
  case assign =>
    intro l x W K hK
    gi_wp2
    exact hK
  case body =>
    rintro l0 pre i W ⟨h1, h2, h3, h4⟩ hlen
    have h30 : W.cell? ⟨w.heap.size + 2, 0, none⟩ = some (.int .i64 (evF p x l pre)) := h3.cell 0
    have h3f := h3.free 0
    have HSN := Lib.hid (evF_snoc p x l pre i)
    have HFW := Lib.hid (HF.out.ext h4)
    have H1 := Lib.hid h1; have H2 := Lib.hid h2; have H3 := Lib.hid h3; have H4 := Lib.hid h4
    have HCB := Lib.hid (show ∀ o, W.heap[w.heap.size + 2]? = some o → o.isCells = true from fun o ho => by
      have h2' := h3
      unfold BlkOf at h2'
      rw [h2'] at ho
      cases ho; rfl)
    generalize evF p x l pre = E at *
    generalize nth l i.1 = y at *
    clear h3 h4
    gi_wp2
    refine wpIn_region_quiet_tail 7 (by kernel_rfl) (by kernel_rfl) (by kernel_rfl) ?_
    simp only [List.take_succ_cons, List.take_zero, List.drop_succ_cons, List.drop_zero]
    repeat (go_big_quiet_step (first | (go_at_call 65; exact add_q HFW.out _ _ _) | (go_at_call 94; exact mul_q HFW.out _ _ _)))
    refine wpQuiet_nil ?_
    rintro _ ⟨nq, rfl⟩
    have HB5 := Lib.hid ((H3.out.ext (Ext.drewN W nq)).set 0 (.int .i64 (fadd p (fmul p E x) y)))
    gi_wp2
    have hgf := ((Ext.drewN W nq).grownBy (some (w.heap.size + 2))).trans (setCell_grown (W.drewN nq) (w.heap.size + 2) 0 (.int .i64 (fadd p (fmul p E x) y)))
    refine ⟨KeepsOthers.of_grownBy hgf (fun j o e hj => by cases e; exact HCB.out o hj), KpO.of_grown hgf (fun k e => by cases e; exact ⟨by omega, fun e2 => by have := HQ2.out _ e2; omega⟩), hgf.cell H1.out (fun e => by have : w.heap.size = w.heap.size + 2 := Option.some.inj e; omega), hgf.cell H2.out (fun e => by have : w.heap.size + 1 = w.heap.size + 2 := Option.some.inj e; omega), by rw [HSN.out]; exact HB5.out, Below.grown H4.out.below hgf H4.out.size (fun k e => by cases e; omega)⟩
  case done =>
    rintro D xs W hD rfl ⟨h1, h2, h3, h4⟩ hK
    have h30 : W.cell? ⟨w.heap.size + 2, 0, none⟩ = some _ := h3.cell 0
    gi_wp2
    refine ⟨by simp, .inl ⟨_, _, rfl, run_takeDeferred hK, ?_⟩⟩
    have hg := grownBy_putObj' W D (.deferred none)
    exact ⟨_, results_tmp rfl _ _ _, .mk _ rfl (Below.grown h4.below hg h4.size (fun q e => by have := Option.some.inj e; omega)) (by rw [HPF.out]; rfl)⟩
  case stop =>
    rintro D c pre W _ _ h _
    exact h.elim
end
end Go.Proofs.YtcpnidomdkaefaaGreatDoor
end
