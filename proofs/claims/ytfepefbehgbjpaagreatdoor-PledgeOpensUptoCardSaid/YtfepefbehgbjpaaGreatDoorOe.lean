/- A slice of slices in a cell, grown in a drawn region; the closure of tree.Open that keeps the nodes; tree.hidden with it: contracts. Printed by wip/mkoe.py. -/
import Derived.Test.YtfepefbehgbjpaaGreatDoorZx16
import Derived.Test.YtfepefbehgbjpaaGreatDoorZx20
import Derived.Test.YtfepefbehgbjpaaGreatDoorZx15
namespace Go.Att
open Go.RowKit
theorem Grid.keep {B : Nat} {w w' : World} {e : TypeId} {v : Value} {L : List (List Int)} {R : Nat → Value} (h : Grid B w e v L R) {b : Option Nat} (hg : w.grownBy w' b) (h1 : ∀ q, v.ownBlock = some q → some q ≠ b) (h2 : ∀ i, i < L.length → ∀ q, (R i).ownBlock = some q → some q ≠ b) : Grid B w' e v L R := by
  refine ⟨⟨h.own.1, ?_⟩, fun i hi => (h.row i hi).grown hg (h2 i hi), fun i hi k hk => ⟨(h.lt i hi k hk).1, Nat.lt_of_lt_of_le (h.lt i hi k hk).2.1 hg.size, (h.lt i hi k hk).2.2⟩⟩
  rcases h.own.2 with h3 | ⟨g, cap, cur, hv, hbg, hgg, hr⟩
  · exact .inl h3
  · exact .inr ⟨g, cap, cur, hv, hbg, by rw [hg.block g (Array.getElem?_eq_some_iff.1 hgg).1 (h1 g (by rw [hv]; rfl))]; exact hgg, hr⟩
section
variable {mb lb : Nat}
theorem not_of {b : Option Nat} {q : Nat} (hb : b = none ∨ b = some lb ∨ b = some mb) (h1 : q ≠ lb) (h2 : q ≠ mb) : some q ≠ b := by
  rcases hb with rfl | rfl | rfl
  · simp
  · exact fun e => h1 (Option.some.inj e)
  · exact fun e => h2 (Option.some.inj e)
def SM.intsB (B : Nat) (l : List Int) : SM mb lb := ⟨⟨fun v W => Ints W v l ∧ ∀ q, v.ownBlock = some q → B ≤ q ∧ q < W.heap.size ∧ q ≠ lb ∧ q ≠ mb⟩, fun _ hb _ _ _ h hg => ⟨h.1.grown hg (fun q hq => not_of hb (h.2 q hq).2.2.1 (h.2 q hq).2.2.2), fun q hq => ⟨(h.2 q hq).1, Nat.lt_of_lt_of_le (h.2 q hq).2.1 hg.size, (h.2 q hq).2.2⟩⟩⟩
def SM.lit (B : Nat) (e : TypeId) (l : List Int) : SM mb lb := ⟨⟨fun v W => ∃ T, Grid B W e v [l] T ∧ (∀ q, v.ownBlock = some q → q ≠ lb ∧ q ≠ mb) ∧ ∀ q, (T 0).ownBlock = some q → q ≠ lb ∧ q ≠ mb⟩, fun _ hb _ _ _ ⟨T, h1, h2, h3⟩ hg => ⟨T, h1.keep hg (fun q hq => not_of hb (h2 q hq).1 (h2 q hq).2) (fun i hi q hq => by
  have hi0 : i = 0 := by simpa using hi
  rw [hi0] at hq
  exact not_of hb (h3 q hq).1 (h3 q hq).2), h2, h3⟩⟩
end
def GrwSta (wA : World) (ob c B : Nat) (e ty : TypeId) (cs : Value → List Value) (v : Value) (L : List (List Int)) (l : List Int) (s : Nat) : Nat → (Nat → Value) → World → Prop
  | 0, _, W => Turned ob c wA W ∧ BlkOf W ob (cs v) ty ∧ ∃ T, Grid B W e v L T
  | 1, _, W => Turned ob c wA W ∧ BlkOf W ob (cs v) ty ∧ ∃ T, Grid B W e v L T
  | 2, vs, W => Turned ob c wA W ∧ BlkOf W ob (cs v) ty ∧ Moved wA v (vs s) ∧ ∃ T, Grid B W e (vs s) (L ++ [l]) T
  | 3, _, W => Turned ob c wA W ∧ ∃ u T, BlkOf W ob (cs u) ty ∧ Grid B W e u (L ++ [l]) T ∧ Moved wA v u
  | _, _, _ => False
def grwB (ob c : Nat) : Nat → Option Nat
  | 1 => some c
  | 2 => some ob
  | _ => none
theorem grwB_in (ob c k : Nat) : grwB ob c k = none ∨ grwB ob c k = some c ∨ grwB ob c k = some ob := by
  unfold grwB; split <;> simp
theorem free_of {W W' : World} (hg : W.grownBy W' none) : Ext W W' := ⟨hg.os, hg.tape, hg.output, hg.size, fun k hk => hg.block k hk (by simp)⟩
theorem turn_none {b c : Nat} {w W W' : World} (h : Turned b c w W) (hg : W.grownBy W' none) : Turned b c w W' := h.trans (Turned.of_ext (free_of hg))
theorem turned_size {b c : Nat} {w W : World} (h : Turned b c w W) : w.heap.size ≤ W.heap.size := h.size
theorem grw_c {W W' : World} {v : Value} {c : Nat} (hc : ∀ q, v.ownBlock = some q → q = c) (hg : W.grownBy W' v.ownBlock) : W.grownBy W' (some c) := by
  cases h : v.ownBlock with
  | none => rw [h] at hg; exact ⟨hg.os, hg.tape, hg.output, hg.size, fun k hk _ => hg.block k hk (by simp)⟩
  | some q => rw [h, hc q h] at hg; exact hg
section
variable {wA W W' : World} {ob c B : Nat} {e ty : TypeId} {cs : Value → List Value} {v : Value} {L : List (List Int)} {l : List Int} {s : Nat} {vs vs' : Nat → Value}
theorem GrwSta.turned : ∀ {k : Nat}, GrwSta wA ob c B e ty cs v L l s k vs W → Turned ob c wA W
  | 0, h => h.1
  | 1, h => h.1
  | 2, h => h.1
  | 3, h => h.1
  | _ + 4, h => h.elim
theorem GrwSta.free (hg : W.grownBy W' none) (e0 : vs' s = vs s) : ∀ {k : Nat}, GrwSta wA ob c B e ty cs v L l s k vs W → GrwSta wA ob c B e ty cs v L l s k vs' W'
  | 0, ⟨h1, h2, T, h3⟩ => ⟨turn_none h1 hg, h2.ext (free_of hg), T, h3.ext (free_of hg)⟩
  | 1, ⟨h1, h2, T, h3⟩ => ⟨turn_none h1 hg, h2.ext (free_of hg), T, h3.ext (free_of hg)⟩
  | 2, ⟨h1, h2, hm, T, h3⟩ => ⟨turn_none h1 hg, h2.ext (free_of hg), by rw [e0]; exact hm, T, by rw [e0]; exact h3.ext (free_of hg)⟩
  | 3, ⟨h1, u, T, h2, h3, hm⟩ => ⟨turn_none h1 hg, u, T, h2.ext (free_of hg), h3.ext (free_of hg), hm⟩
  | _ + 4, h => h.elim
theorem GrwSta.app (h1 : Turned ob c wA W) (h2 : BlkOf W ob (cs v) ty) {v' : Value} {T : Nat → Value} (hg : W.grownBy W' v.ownBlock) (hG : Grid B W' e v' (L ++ [l]) T) (hvs : vs' s = v') (hcv : ∀ q, v.ownBlock = some q → q = c) (hob : ∀ q, v.ownBlock = some q → q ≠ ob) (hm : Moved W v v') : GrwSta wA ob c B e ty cs v L l s 2 vs' W' :=
  ⟨h1.trans (Turned.two (grw_c hcv hg)), h2.grown hg (fun e => hob ob e.symm rfl), by rw [hvs]; exact hm.imp id (fun h q hq => Nat.le_trans h1.size (h q hq)), T, by rw [hvs]; exact hG⟩
theorem GrwSta.sto (h : GrwSta wA ob c B e ty cs v L l s 2 vs W) {o : Nat} (hcs : ∀ u, (cs v).set o u = cs u) (hob : ob < B) : GrwSta wA ob c B e ty cs v L l s 3 vs' (W.setCell ⟨ob, o, none⟩ (vs s)) := by
  obtain ⟨h1, h2, hm, T, h3⟩ := h
  refine ⟨h1.trans (Turned.one (setCell_grown _ _ _ _)), vs s, T, ?_, h3.keep (setCell_grown _ _ _ _) (fun q hq e => ?_) (fun i hi q hq e => ?_), hm⟩
  · rw [← hcs (vs s)]; exact h2.set o _
  · have h4 := (h3.own.lt q hq).1; have := Option.some.inj e; omega
  · have h4 := (h3.lt i hi q hq).1; have := Option.some.inj e; omega
end
structure FrmO (ob : Nat) (v : Value) (W W' : World) : Prop where
  size : W.heap.size ≤ W'.heap.size
  block : ∀ q, q < W.heap.size → q ≠ ob → some q ≠ v.ownBlock → W'.heap[q]? = W.heap[q]?
theorem FrmO.trans {ob : Nat} {v v1 : Value} {W W1 W2 : World} (h : FrmO ob v W W1) (hm : Moved W v v1) (k : FrmO ob v1 W1 W2) : FrmO ob v W W2 :=
  ⟨Nat.le_trans h.size k.size, fun q h1 h2 h3 => by
    rw [k.block q (Nat.lt_of_lt_of_le h1 h.size) h2 (fun e => by
      rcases hm with hm | hm
      · exact h3 (by rw [← hm]; exact e)
      · have := hm q e.symm; omega)]
    exact h.block q h1 h2 h3⟩
theorem FrmO.of_ext {ob : Nat} {v : Value} {W W' : World} (h : Ext W W') : FrmO ob v W W' := ⟨h.size, fun q h1 _ _ => h.below.block q h1⟩
theorem BlkOf.frm {W W' : World} {b ob : Nat} {cs : List Value} {t : TypeId} {v : Value} (h : BlkOf W b cs t) (k : FrmO ob v W W') (h1 : b ≠ ob) (h2 : some b ≠ v.ownBlock) : BlkOf W' b cs t := by
  unfold BlkOf at h ⊢
  rw [k.block b (Array.getElem?_eq_some_iff.1 h).1 h1 h2]; exact h
end Go.Att
namespace Go.Proofs.YtfepefbehgbjpaaGreatDoor
open Go.RowKit Go.Att
section
variable {w0 W0 : World} {bs ob b3 b4 : Nat} {p : Int} {k : Nat} {vr pv rv : Value} {pl : List Int} {rows : List (List Int)} {R : Nat → Value}
set_option maxRecDepth 100000 in
set_option maxHeartbeats 16000000 in
theorem ocl_any (hs : Spg w0 (.pointer (some ⟨bs, 0, none⟩)) p k) (hr : RwsAt w0 vr rows R) (hl : rows.length ≤ 65536) (hrl : ∀ i, i < rows.length → (nthL rows i).length ≤ 4294960000) (h0 : Ext w0 W0) (hob : w0.heap.size ≤ ob) (hoB : ob < W0.heap.size)
    (h3 : w0.cell? ⟨b3, 0, none⟩ = some (.pointer (some ⟨bs, 0, none⟩))) (h4 : w0.cell? ⟨b4, 0, none⟩ = some vr) (n a : Nat) (hn : 1 ≤ n) (ha : a + n ≤ rows.length) (W : World) (nv : Value) (L : List (List Int)) (T : Nat → Value) (hW : W0.grownBy W (some ob)) (hB : BlkOf W ob [pv, rv, nv] 31) (hG : Grid W0.heap.size W 22 nv L T) (hll : L.length ≤ 65536) :
    Calls Tryz.prog 90 #[.agg #[.int .i64 (a : Int), .int .i64 ((a : Int) + n)], .pointer (some ⟨ob, 0, none⟩), .pointer (some ⟨b3, 0, none⟩), .pointer (some ⟨b4, 0, none⟩)] W fun e w' => e = .returned (.tuple #[]) ∧ W0.grownBy w' (some ob) ∧ FrmO ob nv W w' ∧ ∃ nv', BlkOf w' ob [pv, rv, nv'] 31 ∧ Moved W nv nv' ∧ ∃ T', Grid W0.heap.size w' 22 nv' (L ++ [rootF p k n ((rows.drop a).take n)]) T' := by
  have HLL := Lib.hid hll
  have HRL := Lib.hid (show (rootF p k n ((rows.drop a).take n)).length = 4 from by
    obtain ⟨m, rfl⟩ : ∃ m, n = m + 1 := ⟨n - 1, by omega⟩
    simp only [rootF]; split <;> exact hashP_length _ _ _)
  have CR := Lib.hid (fun W' (hx : Ext w0 W') => trootN_any hs hr hl hrl n n a hn (Nat.le_refl _) ha W' hx)
  obtain ⟨rt, hrt⟩ : ∃ rt, rootF p k n ((rows.drop a).take n) = rt := ⟨_, rfl⟩
  rw [hrt] at HRL CR ⊢
  have hx0 : Ext w0 W := Below.grown h0.below hW h0.size (fun q e => by cases e; exact hob)
  have HXA := Lib.hid (hx0.trans (Ext.alloc W (Obj.cells #[.int .i64 (a : Int), .int .i64 ((a : Int) + n)] 127)))
  have HGO := Lib.hid hW
  have HBA := Lib.hid (hB.ext (Ext.alloc W (Obj.cells #[.int .i64 (a : Int), .int .i64 ((a : Int) + n)] 127)))
  have HGA := Lib.hid (hG.ext (Ext.alloc W (Obj.cells #[.int .i64 (a : Int), .int .i64 ((a : Int) + n)] 127)))
  have HBG := Lib.hid (BlkOf.new W [.int .i64 (a : Int), .int .i64 ((a : Int) + n)] 127)
  have HXG := Lib.hid (Ext.alloc W (Obj.cells #[.int .i64 (a : Int), .int .i64 ((a : Int) + n)] 127))
  have HOB := Lib.hid hoB
  have HOW := Lib.hid hob
  obtain ⟨c, hcv, hcw, hcB, hcn⟩ : ∃ c, (∀ q, nv.ownBlock = some q → q = c) ∧ (c = ob ∨ W0.heap.size ≤ c) ∧ c < W.heap.size ∧ (nv.ownBlock = none → c = ob) := by
    cases h : nv.ownBlock with
    | none => exact ⟨ob, (fun q hq => by cases hq), Or.inl rfl, Nat.lt_of_lt_of_le hoB hW.size, fun _ => rfl⟩
    | some q => exact ⟨q, (fun q' hq => (Option.some.inj hq).symm), Or.inr (hG.own.lt q h).1, (hG.own.lt q h).2, fun e => by cases e⟩
  have HCN := Lib.hid hcn
  have HCV := Lib.hid hcv
  have HCW2 := Lib.hid hcw
  have HCW := Lib.hid (show w0.heap.size ≤ c from by have := h0.size; omega)
  have hsg : (W.alloc (Obj.cells #[.int .i64 (a : Int), .int .i64 ((a : Int) + n)] 127)).heap.size = W.heap.size + 1 := World.size_alloc _ _
  have HCA := Lib.hid (show W0.heap.size ≤ (W.alloc (Obj.cells #[.int .i64 (a : Int), .int .i64 ((a : Int) + n)] 127)).heap.size ∧ c < (W.alloc (Obj.cells #[.int .i64 (a : Int), .int .i64 ((a : Int) + n)] 127)).heap.size ∧ ob < (W.alloc (Obj.cells #[.int .i64 (a : Int), .int .i64 ((a : Int) + n)] 127)).heap.size from by have := hW.size; omega)
  have A3 := Lib.hid (HXA.out.cell h3)
  have A4 := Lib.hid (HXA.out.cell h4)
  have hb3 := World.block_lt_of_cell? w0 _ h3
  have hb4 := World.block_lt_of_cell? w0 _ h4
  have HNE := Lib.hid (show (b3 ≠ ob ∧ b3 ≠ c ∧ b4 ≠ ob ∧ b4 ≠ c) from by
    have h5 : b3 < w0.heap.size := hb3
    have h6 : b4 < w0.heap.size := hb4
    have h7 := HCW.out
    refine ⟨?_, ?_, ?_, ?_⟩ <;> omega)
  have HGB := Lib.hid (show (W.heap.size ≠ ob ∧ W.heap.size ≠ c) from by have := hW.size; omega)
  clear hs hr hrl h0 hob hoB h3 h4 hW hB hG hx0 hcv hcw hcB hcn hsg hb3 hb4 hrt hll
  go_enter Tryz.func90, Tryz.ntmps90
  go_upto_region 1 with (fail)
  generalize W.alloc (Obj.cells #[.int .i64 (a : Int), .int .i64 ((a : Int) + n)] 127) = wA at *
  generalize W.heap.size = gb at *
  have AG0 : Hid (wA.cell? ⟨gb, 0, none⟩ = some (.int .i64 (a : Int))) := Lib.hid (HBG.out.cell 0)
  have AG1 : Hid (wA.cell? ⟨gb, 1, none⟩ = some (.int .i64 ((a : Int) + n))) := Lib.hid (HBG.out.cell 1)
  have hne := HNE.out
  have hgb := HGB.out
  refine wp_region_chain 10 rfl (phiM (mb := ob) (lb := c) [SM.eq (.pointer (some ⟨ob, 2, none⟩)), SM.eq nv, SM.eq (.pointer (some ⟨bs, 0, none⟩)), SM.eq vr, SM.eq (.agg #[.int .i64 (a : Int), .int .i64 ((a : Int) + n)]), SM.intsB W0.heap.size rt, SM.lit W0.heap.size 22 rt, SM.top, SM.eq (.pointer (some ⟨ob, 2, none⟩)), SM.top]) [1, 7, 9] (GrwSta wA ob c W0.heap.size 22 31 (fun u => [pv, rv, u]) nv L rt 12) (fun k W W' => W.grownBy W' (grwB ob c k)) (by kernel_rfl) (by kernel_rfl) (by kernel_rfl) (fun j _ u W W' hu hg => by rcases hg with hg | ⟨c, _, hg⟩; exact phiM_stab _ j none (.inl rfl) u W W' hu hg; exact phiM_stab _ j _ (grwB_in _ _ _) u W W' hu hg) (fun j hj hd u W => by have hj2 : j = 1 ∨ j = 7 ∨ j = 9 := (by simpa using hj); rcases hj2 with rfl | rfl | rfl <;> first | trivial | (simp at hd)) (fun k vs vs' W W' h hg hs => h.free hg (hs 1 (by decide) 12 rfl)) ⟨Turned.of_ext (Ext.drew _), HBA.out.ext (Ext.drew _), _, HGA.out.ext (Ext.drew _)⟩ ?_ ?_
  · refine ⟨?_, ?_, ?_, ?_, ?_, ?_, ?_, ?_, ?_, ?_, trivial⟩
    · refine bifF rfl (FreeStep.mk rfl fun vs W hk hd => ?_)
      clear hd
      clear hk
      simp only [fillA, fillL, dstL, List.take_succ_cons, List.take_zero, List.filterMap_cons, List.filterMap_nil, List.contains_cons, List.contains_nil, Nat.reduceAdd, Nat.zero_add, Nat.reduceBEq, Bool.or_false, Bool.or_true, Bool.false_eq_true, ↓reduceIte]
      go_wp2_with fail
      exact ⟨by trivial, World.grownBy.refl _ _, rfl⟩
    · refine bifT rfl (LinkStep.mk rfl fun vs W hS hd => ?_)
      replace hS : GrwSta wA ob c W0.heap.size 22 31 (fun u => [pv, rv, u]) nv L rt 12 0 vs W := hS
      have e5 : vs 5 = (.pointer (some ⟨ob, 2, none⟩)) := hd 0 (by kernel_rfl)
      clear hd
      simp only [fillA, fillL, dstL, List.take_succ_cons, List.take_zero, List.filterMap_cons, List.filterMap_nil, List.contains_cons, List.contains_nil, Nat.reduceAdd, Nat.zero_add, Nat.reduceBEq, Bool.or_false, Bool.or_true, Bool.false_eq_true, ↓reduceIte]
      obtain ⟨hT, hBW, T1, hG1⟩ := hS
      have k2 : W.cell? ⟨ob, 2, none⟩ = some nv := hBW.cell 2
      rw [e5]
      go_wp2_with fail
      first | exact ⟨by trivial, World.grownBy.refl _ _, ⟨hT, hBW, T1, hG1⟩, rfl⟩ | exact ⟨World.grownBy.refl _ _, ⟨hT, hBW, T1, hG1⟩, rfl⟩
    · refine bifF rfl (FreeStep.mk rfl fun vs W hk hd => ?_)
      clear hd
      obtain ⟨kk, hS⟩ := hk
      replace hS := GrwSta.turned hS
      simp only [fillA, fillL, dstL, List.take_succ_cons, List.take_zero, List.filterMap_cons, List.filterMap_nil, List.contains_cons, List.contains_nil, Nat.reduceAdd, Nat.zero_add, Nat.reduceBEq, Bool.or_false, Bool.or_true, Bool.false_eq_true, ↓reduceIte]
      have hk3 := hS.cell A3.out hne.1 hne.2.1
      go_wp2_with fail
      exact ⟨by trivial, World.grownBy.refl _ _, rfl⟩
    · refine bifF rfl (FreeStep.mk rfl fun vs W hk hd => ?_)
      clear hd
      obtain ⟨kk, hS⟩ := hk
      replace hS := GrwSta.turned hS
      simp only [fillA, fillL, dstL, List.take_succ_cons, List.take_zero, List.filterMap_cons, List.filterMap_nil, List.contains_cons, List.contains_nil, Nat.reduceAdd, Nat.zero_add, Nat.reduceBEq, Bool.or_false, Bool.or_true, Bool.false_eq_true, ↓reduceIte]
      have hk4 := hS.cell A4.out hne.2.2.1 hne.2.2.2
      go_wp2_with fail
      exact ⟨by trivial, World.grownBy.refl _ _, rfl⟩
    · refine bifF rfl (FreeStep.mk rfl fun vs W hk hd => ?_)
      clear hd
      obtain ⟨kk, hS⟩ := hk
      replace hS := GrwSta.turned hS
      simp only [fillA, fillL, dstL, List.take_succ_cons, List.take_zero, List.filterMap_cons, List.filterMap_nil, List.contains_cons, List.contains_nil, Nat.reduceAdd, Nat.zero_add, Nat.reduceBEq, Bool.or_false, Bool.or_true, Bool.false_eq_true, ↓reduceIte]
      have hg0 := hS.cell AG0.out hgb.1 hgb.2
      have hg1 := hS.cell AG1.out hgb.1 hgb.2
      go_wp2_with fail
      exact ⟨by trivial, World.grownBy.refl _ _, rfl⟩
    · refine bifF rfl (FreeStep.mk rfl fun vs W hk hd => ?_)
      have e7 : vs 7 = (.pointer (some ⟨bs, 0, none⟩)) := hd 2 (by kernel_rfl)
      have e8 : vs 8 = vr := hd 3 (by kernel_rfl)
      have e9 : vs 9 = (.agg #[.int .i64 (a : Int), .int .i64 ((a : Int) + n)]) := hd 4 (by kernel_rfl)
      clear hd
      obtain ⟨kk, hS⟩ := hk
      replace hS := GrwSta.turned hS
      simp only [fillA, fillL, dstL, List.take_succ_cons, List.take_zero, List.filterMap_cons, List.filterMap_nil, List.contains_cons, List.contains_nil, Nat.reduceAdd, Nat.zero_add, Nat.reduceBEq, Bool.or_false, Bool.or_true, Bool.false_eq_true, ↓reduceIte]
      rw [e7, e8, e9]
      have hxw := hS.ext HXA.out HOW.out HCW.out
      have hsz := turned_size hS
      go_wp2_with (go_at_call 77; refine (CR.out _ hxw).mono ?_; rintro e w3 ⟨v3, rfl, hx3, hi3, hn3⟩)
      exact ⟨by trivial, hx3.grownBy none, hi3, fun q hq => by have h1 := hn3 q hq; have h2 := HCA.out; have h3 := HRL.out; exact ⟨by omega, ints_blk hi3 (by omega) hq, by omega, by omega⟩⟩
    · refine bifF rfl (FreeStep.mk rfl fun vs W hk hd => ?_)
      have h10 : Ints W (vs 10) rt ∧ ∀ q, (vs 10).ownBlock = some q → W0.heap.size ≤ q ∧ q < W.heap.size ∧ q ≠ c ∧ q ≠ ob := hd 5 (by kernel_rfl)
      clear hd
      obtain ⟨kk, hS⟩ := hk
      replace hS := GrwSta.turned hS
      simp only [fillA, fillL, dstL, List.take_succ_cons, List.take_zero, List.filterMap_cons, List.filterMap_nil, List.contains_cons, List.contains_nil, Nat.reduceAdd, Nat.zero_add, Nat.reduceBEq, Bool.or_false, Bool.or_true, Bool.false_eq_true, ↓reduceIte]
      have hsz := turned_size hS
      obtain ⟨h10, h10b⟩ := h10
      obtain ⟨qa, qc, e10⟩ := h10.shape
      rw [e10] at h10 h10b
      rw [e10]
      go_wp2_with fail
      exact ⟨by trivial, (Ext.alloc _ _).grownBy none, _, Grid.one h10 (fun q hq => ⟨(h10b q hq).1, (h10b q hq).2.1⟩) (by have := HCA.out; omega), fun q hq => by have h1 := HCA.out; have h2 : W.heap.size = q := Option.some.inj hq; omega, fun q hq => (h10b q hq).2.2⟩
    · refine bifT rfl (LinkStep.mk rfl fun vs W hS hd => ?_)
      replace hS : GrwSta wA ob c W0.heap.size 22 31 (fun u => [pv, rv, u]) nv L rt 12 1 vs W := hS
      have e6 : vs 6 = nv := hd 1 (by kernel_rfl)
      have h11 : ∃ T, Grid W0.heap.size W 22 (vs 11) [rt] T ∧ (∀ q, (vs 11).ownBlock = some q → q ≠ c ∧ q ≠ ob) ∧ ∀ q, (T 0).ownBlock = some q → q ≠ c ∧ q ≠ ob := hd 6 (by kernel_rfl)
      clear hd
      simp only [fillA, fillL, dstL, List.take_succ_cons, List.take_zero, List.filterMap_cons, List.filterMap_nil, List.contains_cons, List.contains_nil, Nat.reduceAdd, Nat.zero_add, Nat.reduceBEq, Bool.or_false, Bool.or_true, Bool.false_eq_true, ↓reduceIte]
      obtain ⟨T2, hg2, hb2, hc2⟩ := h11
      obtain ⟨hT, hBW, T1, hG1⟩ := hS
      rw [e6]
      go_wp2_with (at_builtin; refine wpList_appGrid rfl _ _ 29 rfl slRows rfl (Nat.le_trans HCA.out.1 (turned_size hT)) hG1 rfl hg2 (Nat.le_refl _) (fun i hi q hq e => by have hi0 : i = 0 := (by simpa using hi); rw [hi0] at hq; exact (hc2 q hq).1 (HCV.out q e.symm)) rfl (by have := HLL.out; simp only [List.length_cons, List.length_nil]; omega) (by omega) ?_; intro v4 w4 T4 hg4 hgr4 hm4)
      first | exact ⟨by trivial, grw_c HCV.out hgr4, GrwSta.app (s := 12) hT hBW hgr4 hg4 rfl HCV.out (fun q hq => by have h1 := (hG1.own.lt q hq).1; have h2 := HOB.out; omega) hm4, trivial⟩ | exact ⟨grw_c HCV.out hgr4, GrwSta.app (s := 12) hT hBW hgr4 hg4 rfl HCV.out (fun q hq => by have h1 := (hG1.own.lt q hq).1; have h2 := HOB.out; omega) hm4, trivial⟩
    · refine bifF rfl (FreeStep.mk rfl fun vs W hk hd => ?_)
      clear hd
      clear hk
      simp only [fillA, fillL, dstL, List.take_succ_cons, List.take_zero, List.filterMap_cons, List.filterMap_nil, List.contains_cons, List.contains_nil, Nat.reduceAdd, Nat.zero_add, Nat.reduceBEq, Bool.or_false, Bool.or_true, Bool.false_eq_true, ↓reduceIte]
      go_wp2_with fail
      exact ⟨by trivial, World.grownBy.refl _ _, rfl⟩
    · refine bifT rfl (LinkStep.mk rfl fun vs W hS hd => ?_)
      replace hS : GrwSta wA ob c W0.heap.size 22 31 (fun u => [pv, rv, u]) nv L rt 12 2 vs W := hS
      have e13 : vs 13 = (.pointer (some ⟨ob, 2, none⟩)) := hd 8 (by kernel_rfl)
      clear hd
      simp only [fillA, fillL, dstL, List.take_succ_cons, List.take_zero, List.filterMap_cons, List.filterMap_nil, List.contains_cons, List.contains_nil, Nat.reduceAdd, Nat.zero_add, Nat.reduceBEq, Bool.or_false, Bool.or_true, Bool.false_eq_true, ↓reduceIte]
      have hS3 := hS.sto (vs' := vs) (o := 2) (fun _ => rfl) HOB.out
      obtain ⟨hT, hBW, -, T4, hG4⟩ := hS
      obtain ⟨qa, qc, e12⟩ := own_shape hG4.own
      rw [e12, List.length_append, List.length_singleton] at hS3
      rw [e12, List.length_append, List.length_singleton]
      have k2 : W.cell? ⟨ob, 2, none⟩ = some nv := hBW.cell 2
      have z2 := hBW.free 2
      rw [e13]
      go_wp2_with fail
      first | exact ⟨by trivial, setCell_grown _ _ _ _, hS3, trivial⟩ | exact ⟨setCell_grown _ _ _ _, hS3, trivial⟩
  · intro vs w5 hall hS
    replace hS : GrwSta wA ob c W0.heap.size 22 31 (fun u => [pv, rv, u]) nv L rt 12 3 vs w5 := hS
    obtain ⟨hT, u, T5, hB5, hG5, hM5⟩ := hS
    have HT := Lib.hid hT; have HB5 := Lib.hid hB5; have HG5 := Lib.hid hG5; have HM5 := Lib.hid hM5
    clear hall hT hB5 hG5 hM5
    simp only [fillA, fillL, dstL, List.take_succ_cons, List.take_zero, List.filterMap_cons, List.filterMap_nil, List.contains_cons, List.contains_nil, Nat.reduceAdd, Nat.zero_add, Nat.reduceBEq, Bool.or_false, Bool.or_true, Bool.false_eq_true, ↓reduceIte]
    go_wp2_with fail
    refine bodyPost_end (results_none rfl _ _ _) rfl ⟨rfl, ?_, ⟨Nat.le_trans HXG.out.size HT.out.size, fun q h1 h2 h3 => ?_⟩, u, HB5.out, HM5.out.imp id (fun h q hq => Nat.le_trans HXG.out.size (h q hq)), T5, HG5.out⟩
    case refine_2 =>
      have hqc : q ≠ c := fun e => by
        cases h : nv.ownBlock with
        | none => exact h2 (by rw [e]; exact HCN.out h)
        | some q' => exact h3 (by rw [h, e, HCV.out q' h])
      rw [HT.out.block q (Nat.lt_of_lt_of_le h1 HXG.out.size) h2 hqc]
      exact HXG.out.below.block q h1
    have t0 := HT.out
    have t1 := t0.os; have t2 := t0.tape; have t3 := t0.output; have t4 := t0.size
    have g1 := grown_ext HGO.out HXG.out
    refine ⟨t1.trans g1.os, t2.trans g1.tape, t3.trans g1.output, Nat.le_trans g1.size t4, fun q hq hne => ?_⟩
    rw [t0.block q (Nat.lt_of_lt_of_le hq g1.size) (fun e => hne (by rw [e])) (fun e => by rcases HCW2.out with h | h; exact hne (by rw [e, h]); omega)]
    exact g1.block q hq hne
set_option maxRecDepth 100000 in
set_option maxHeartbeats 8000000 in
theorem hiddenO_any (hs : Spg w0 (.pointer (some ⟨bs, 0, none⟩)) p k) (hr : RwsAt w0 vr rows R) (hl : rows.length ≤ 65536) (hrl : ∀ i, i < rows.length → (nthL rows i).length ≤ 4294960000) (h0 : Ext w0 W0) (hob : w0.heap.size ≤ ob) (hoB : ob < W0.heap.size)
    (h3 : w0.cell? ⟨b3, 0, none⟩ = some (.pointer (some ⟨bs, 0, none⟩))) (h4 : w0.cell? ⟨b4, 0, none⟩ = some vr) (hp : Ints W0 pv pl) (hpo : ∀ q, pv.ownBlock = some q → q ≠ ob) (hsp : pl.Pairwise (· ≤ ·)) (hpl : pl.length ≤ 1000000) : ∀ (f n a : Nat), 1 ≤ n → n ≤ f → a + n ≤ rows.length → ∀ (W : World) (nv : Value) (L : List (List Int)) (T : Nat → Value), W0.grownBy W (some ob) → BlkOf W ob [pv, rv, nv] 31 → Grid W0.heap.size W 22 nv L T → L.length + n ≤ 65536 →
    Calls Tryz.prog 89 #[.agg #[.int .i64 (a : Int), .int .i64 ((a : Int) + n)], pv, .func (Fn.func 90) #[] #[.pointer (some ⟨ob, 0, none⟩), .pointer (some ⟨b3, 0, none⟩), .pointer (some ⟨b4, 0, none⟩)]] W fun e w' => e = .returned (.tuple #[]) ∧ W0.grownBy w' (some ob) ∧ FrmO ob nv W w' ∧ ∃ nv', BlkOf w' ob [pv, rv, nv'] 31 ∧ Moved W nv nv' ∧ ∃ T', Grid W0.heap.size w' 22 nv' (L ++ nodL p k pl rows f a n) T'
  | 0, n, a, h1, h2, h3', W, nv, L, T, hg, hB, hG, hll => by omega
  | f + 1, n, a, h1, h2, h3', W, nv, L, T, hg, hB, hG, hll => by
    have hx := Ext.alloc W (Obj.cells #[.int .i64 (a : Int), .int .i64 ((a : Int) + n)] 127)
    have hI : ∀ W', W0.grownBy W' (some ob) → Ints W' pv pl := fun W' hg' => hp.grown hg' (fun q hq e => hpo q hq (Option.some.inj e))
    have HII := Lib.hid hI
    have HG0 := Lib.hid hg
    have HX := Lib.hid hx; have HI := Lib.hid ((hI W hg).ext hx); have HB := Lib.hid (hB.ext hx); have HGR := Lib.hid (hG.ext hx); have HGW := Lib.hid (grown_ext hg hx)
    have HK := Lib.hid (BlkOf.new W [.int .i64 (a : Int), .int .i64 ((a : Int) + n)] 127)
    have HH := Lib.hid (show nodL p k pl rows (f + 1) a n = if sho pl a ((a : Int) + n) = true then (if n = 1 then [] else nodL p k pl rows f a (lfN n) ++ nodL p k pl rows f (a + lfN n) (n - lfN n)) else [rootF p k n ((rows.drop a).take n)] from rfl)
    have CS := Lib.hid (fun W (h : Ints W pv pl) => shows_any h hsp hpl (a : Int) ((a : Int) + n))
    have CF := Lib.hid (fun W1 (hg1 : W0.grownBy W1 (some ob)) (hB1 : BlkOf W1 ob [pv, rv, nv] 31) (hG1 : Grid W0.heap.size W1 22 nv L T) => ocl_any hs hr hl hrl h0 hob hoB h3 h4 n a h1 h3' W1 nv L T hg1 hB1 hG1 (by omega))
    have HOB := Lib.hid hoB
    have HLT := Lib.hid (show ∀ q, nv.ownBlock = some q → q < W.heap.size from fun q hq => (hG.own.lt q hq).2)
    have HOW := Lib.hid (show ob < W.heap.size from hB.lt)
    cases sh : sho pl a ((a : Int) + n) with
    | false =>
      rw [sh] at CS HH
      obtain ⟨b, hb⟩ : ∃ b : Int, (a : Int) + n = b := ⟨_, rfl⟩
      rw [hb] at HK CS CF HX HI HB HGR HGW ⊢
      have hab : (a : Int) < b ∧ b ≤ 65536 := by omega
      clear sh hx hB hG hg hI hs hr hrl h0 hob h3 h4 hp hpo hb
      go_enter Tryz.func89, Tryz.ntmps89
      go_upto_region 1 with (fail)
      generalize W.alloc (Obj.cells #[.int .i64 (a : Int), .int .i64 b] 127) = WA at *
      have e0 : WA.cell? ⟨W.heap.size, 0, none⟩ = some (.int .i64 (a : Int)) := HK.out.cell 0
      have e1 : WA.cell? ⟨W.heap.size, 1, none⟩ = some (.int .i64 b) := HK.out.cell 1
      go_wp2_with (first | (go_at_call 130; refine (CS.out _ HI.out).mono ?_; rintro e w1 ⟨rfl, hx1⟩; have HX1 := Lib.hid hx1; have q0 := hx1.cell e0; have q1 := hx1.cell e1; clear hx1) | (go_at_call 90; refine (CF.out _ (grown_ext HGW.out HX1.out) (HB.out.ext HX1.out) (HGR.out.ext HX1.out)).mono ?_; rintro e w2 ⟨rfl, hg2, hf2, nv2, hb2, hm2, T2, hr2⟩))
      refine bodyPost_ret (results_none rfl _ _ _) rfl ⟨rfl, hg2, (FrmO.of_ext (HX.out.trans HX1.out)).trans (Moved.refl _ _) hf2, nv2, hb2, hm2.imp id (fun h q hq => Nat.le_trans (HX.out.trans HX1.out).size (h q hq)), T2, by rw [HH.out, if_neg (by decide)]; exact hr2⟩
    | true =>
      rw [sh] at CS HH
      by_cases hn : n = 1
      · have HHV := Lib.hid (show nodL p k pl rows (f + 1) a n = [] from by rw [HH.out, if_pos rfl, if_pos hn])
        have hba : ¬ (1 : Int) < (a : Int) + n - a := by omega
        obtain ⟨b, hb⟩ : ∃ b : Int, (a : Int) + n = b := ⟨_, rfl⟩
        rw [hb] at hba HK CS HX HI HB HGR HGW ⊢
        have hab : (a : Int) < b ∧ b ≤ 65536 := by omega
        clear sh hx hB hG hg hI hs hr hrl h0 hob h3 h4 hp hpo CF HH hb hn
        go_enter Tryz.func89, Tryz.ntmps89
        go_upto_region 1 with (fail)
        generalize W.alloc (Obj.cells #[.int .i64 (a : Int), .int .i64 b] 127) = WA at *
        have e0 : WA.cell? ⟨W.heap.size, 0, none⟩ = some (.int .i64 (a : Int)) := HK.out.cell 0
        have e1 : WA.cell? ⟨W.heap.size, 1, none⟩ = some (.int .i64 b) := HK.out.cell 1
        go_wp2_with (go_at_call 130; refine (CS.out _ HI.out).mono ?_; rintro e w1 ⟨rfl, hx1⟩; have HX1 := Lib.hid hx1; have q0 := hx1.cell e0; have q1 := hx1.cell e1; clear hx1)
        refine bodyPost_end (results_none rfl _ _ _) rfl ⟨rfl, grown_ext HGW.out HX1.out, FrmO.of_ext (HX.out.trans HX1.out), nv, HB.out.ext HX1.out, Moved.refl _ _, T, by rw [HHV.out, List.append_nil]; exact HGR.out.ext HX1.out⟩
      · have HLB := Lib.hid (lfN_bd (show 2 ≤ n by omega))
        have HHV := Lib.hid (show nodL p k pl rows (f + 1) a n = nodL p k pl rows f a (lfN n) ++ nodL p k pl rows f (a + lfN n) (n - lfN n) from by rw [HH.out, if_pos rfl, if_neg hn])
        have CH := Lib.hid (fun W => thalves_any a n (by omega) (by omega) (w := W))
        have C1 := Lib.hid (fun W2 (hg2 : W0.grownBy W2 (some ob)) (hB2 : BlkOf W2 ob [pv, rv, nv] 31) (hG2 : Grid W0.heap.size W2 22 nv L T) => hiddenO_any hs hr hl hrl h0 hob hoB h3 h4 hp hpo hsp hpl f (lfN n) a HLB.out.1 (by have := HLB.out; omega) (by have := HLB.out; omega) W2 nv L T hg2 hB2 hG2 (by have := HLB.out; omega))
        have hnl := nodL_length p k pl rows f a (lfN n) HLB.out.1 (by have := HLB.out; omega)
        have C2 := Lib.hid (fun W2 nv2 T2 (hg2 : W0.grownBy W2 (some ob)) (hB2 : BlkOf W2 ob [pv, rv, nv2] 31) (hG2 : Grid W0.heap.size W2 22 nv2 (L ++ nodL p k pl rows f a (lfN n)) T2) => hiddenO_any hs hr hl hrl h0 hob hoB h3 h4 hp hpo hsp hpl f (n - lfN n) (a + lfN n) (by have := HLB.out; omega) (by have := HLB.out; omega) (by have := HLB.out; omega) W2 nv2 _ T2 hg2 hB2 hG2 (by have := HLB.out; rw [List.length_append]; omega))
        have hm1 : ((a + lfN n : Nat) : Int) = (a : Int) + lfN n := by omega
        have hm2 : (((a + lfN n : Nat) : Int) + ((n - lfN n : Nat) : Int)) = (a : Int) + n := by have := HLB.out; omega
        rw [hm2, hm1] at C2
        have hba : (1 : Int) < (a : Int) + n - a := by omega
        obtain ⟨mm, hmm⟩ : ∃ mm : Int, (a : Int) + lfN n = mm := ⟨_, rfl⟩
        rw [hmm] at C1 C2 CH
        obtain ⟨b, hb⟩ : ∃ b : Int, (a : Int) + n = b := ⟨_, rfl⟩
        rw [hb] at hba HK CS C2 CH HX HI HB HGR HGW ⊢
        have hab : (a : Int) < b ∧ b ≤ 65536 := by omega
        clear sh hx hB hG hg hI hs hr hrl h0 hob h3 h4 hp hpo CF HH hm1 hm2 hnl hmm hb hn
        go_enter Tryz.func89, Tryz.ntmps89
        go_upto_region 1 with (fail)
        generalize W.alloc (Obj.cells #[.int .i64 (a : Int), .int .i64 b] 127) = WA at *
        have e0 : WA.cell? ⟨W.heap.size, 0, none⟩ = some (.int .i64 (a : Int)) := HK.out.cell 0
        have e1 : WA.cell? ⟨W.heap.size, 1, none⟩ = some (.int .i64 b) := HK.out.cell 1
        go_upto_region 4 with (go_at_call 130; refine (CS.out _ HI.out).mono ?_; rintro e w1 ⟨rfl, hx1⟩; have HX1 := Lib.hid hx1; have q0 := hx1.cell e0; have q1 := hx1.cell e1; clear hx1)
        go_upto_region 5 with (go_at_call 127; refine (CH.out _).mono ?_; rintro e w2 ⟨u2, rfl, hx2, rfl⟩; have HX2 := Lib.hid (HX1.out.trans hx2); clear hx2)
        have hx3 := Ext.alloc w2 (Obj.cells #[.int .i64 (a : Int), .int .i64 mm] 127)
        have HK3 := Lib.hid (BlkOf.new w2 [.int .i64 (a : Int), .int .i64 mm] 127)
        generalize hw3 : w2.alloc (Obj.cells #[.int .i64 (a : Int), .int .i64 mm] 127) = w3 at *
        have hs3 : w3.heap.size = w2.heap.size + 1 := by rw [← hw3]; exact World.size_alloc _ _
        have hx4 := Ext.alloc w3 (Obj.cells #[.int .i64 mm, .int .i64 b] 127)
        have HK4 := Lib.hid (BlkOf.new w3 [.int .i64 mm, .int .i64 b] 127)
        have HK34 := Lib.hid (HK3.out.ext hx4)
        rw [hs3] at HK4
        have HX4 := Lib.hid (HX2.out.trans (hx3.trans hx4))
        have HSW := Lib.hid (show W.heap.size ≤ w2.heap.size from (HX.out.trans HX2.out).size)
        clear hx3 hx4 hw3 hs3 HK3 q0 q1 e0 e1
        generalize w3.alloc (Obj.cells #[.int .i64 mm, .int .i64 b] 127) = w4 at *
        obtain ⟨g1, hg1⟩ : ∃ g1, w2.heap.size = g1 := ⟨_, rfl⟩
        rw [hg1] at HK34 HK4 HSW ⊢
        clear hg1
        have r0 : w4.cell? ⟨g1, 0, none⟩ = some (.int .i64 (a : Int)) := HK34.out.cell 0
        have r1 : w4.cell? ⟨g1, 1, none⟩ = some (.int .i64 mm) := HK34.out.cell 1
        go_wp2_with fail
        refine (C1.out _ (grown_ext HGW.out HX4.out) (HB.out.ext HX4.out) (HGR.out.ext HX4.out)).mono ?_
        rintro e w5 ⟨rfl, hg5, hf5, nv5, hb5, hm5, T5, hr5⟩
        have HG5 := Lib.hid hg5; have HF5 := Lib.hid hf5; have HB5 := Lib.hid hb5; have HM5 := Lib.hid hm5; have HR5 := Lib.hid hr5
        have HK5 := Lib.hid (HK4.out.frm hf5 (by have := HSW.out; have := HOW.out; omega) (fun e => by have h1 := HLT.out _ e.symm; have := HSW.out; omega))
        clear hg5 hf5 hb5 hm5 hr5 r0 r1
        have r0 : w5.cell? ⟨g1 + 1, 0, none⟩ = some (.int .i64 mm) := HK5.out.cell 0
        have r1 : w5.cell? ⟨g1 + 1, 1, none⟩ = some (.int .i64 b) := HK5.out.cell 1
        go_wp2_with fail
        refine (C2.out _ _ _ HG5.out HB5.out HR5.out).mono ?_
        rintro e w6 ⟨rfl, hg6, hf6, nv6, hb6, hm6, T6, hr6⟩
        have HG6 := Lib.hid hg6; have HF6 := Lib.hid hf6; have HB6 := Lib.hid hb6; have HM6 := Lib.hid hm6; have HR6 := Lib.hid hr6
        clear hg6 hf6 hb6 hm6 hr6
        go_wp2_with fail
        have x1 := HX.out.trans HX4.out
        refine bodyPost_end (results_none rfl _ _ _) rfl ⟨rfl, HG6.out, ((FrmO.of_ext x1).trans (Moved.refl _ _) HF5.out).trans ?_ HF6.out, nv6, HB6.out, ?_, T6, by rw [HHV.out, ← List.append_assoc]; exact HR6.out⟩
        · exact HM5.out.imp id (fun h q hq => Nat.le_trans x1.size (h q hq))
        · exact Moved.trans (W := W) (W' := w5) (HM5.out.imp id (fun h q hq => Nat.le_trans x1.size (h q hq))) HM6.out (Nat.le_trans x1.size HF5.out.size)
end
end Go.Proofs.YtfepefbehgbjpaaGreatDoor
