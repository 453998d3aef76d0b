/- Rows of a tree that are shown, the program's side: tree.Open: contract. Printed by wip/mkog.py. -/
import Derived.Test.YtfepefbehgbjpaaGreatDoorZx21
import Derived.Test.YtfepefbehgbjpaaGreatDoorOi
namespace Go.Att
open Go.RowKit
theorem grown_turn {W0 W W' : World} {ob c : Nat} (hg : W0.grownBy W (some ob)) (hT : Turned ob c W W') (hc : c = ob ∨ W0.heap.size ≤ c) : W0.grownBy W' (some ob) :=
  ⟨hT.os.trans hg.os, hT.tape.trans hg.tape, hT.output.trans hg.output, Nat.le_trans hg.size hT.size, fun q hq hne => by
    rw [hT.block q (Nat.lt_of_lt_of_le hq hg.size) (fun e => hne (by rw [e])) (fun e => by
      rcases hc with h | h
      · exact hne (by rw [e, h])
      · omega)]
    exact hg.block q hq hne⟩
structure ClpAll (wA : World) (ob B : Nat) (e : TypeId) (rv nv : Value) (Lr Ln : List (List Int)) (Tr Tn : Nat → Value) (W : World) : Prop where
  t : Turned ob ob wA W
  r : Grid B W e rv Lr Tr
  n : Grid B W e nv Ln Tn
def ClpSta (wA : World) (ob B : Nat) (e ty : TypeId) (pv rv nv rc nc : Value) (Lr Ln : List (List Int)) (Tr Tn : Nat → Value) : Nat → World → Prop
  | 0, W => BlkOf W ob [pv, rv, nv] ty ∧ ClpAll wA ob B e rv nv Lr Ln Tr Tn W
  | 1, W => BlkOf W ob [pv, rc, nv] ty ∧ ClpAll wA ob B e rv nv Lr Ln Tr Tn W
  | 2, W => BlkOf W ob [pv, rc, nc] ty ∧ ClpAll wA ob B e rv nv Lr Ln Tr Tn W
  | _, _ => False
section
variable {wA W W' : World} {ob B : Nat} {e ty : TypeId} {pv rv nv rc nc : Value} {Lr Ln : List (List Int)} {Tr Tn : Nat → Value}
theorem ClpAll.free (h : ClpAll wA ob B e rv nv Lr Ln Tr Tn W) (hg : W.grownBy W' none) : ClpAll wA ob B e rv nv Lr Ln Tr Tn W' := ⟨turn_none h.t hg, h.r.ext (free_of hg), h.n.ext (free_of hg)⟩
theorem ClpAll.sto (h : ClpAll wA ob B e rv nv Lr Ln Tr Tn W) (hob : ob < B) (o : Nat) (x : Value) : ClpAll wA ob B e rv nv Lr Ln Tr Tn (W.setCell ⟨ob, o, none⟩ x) :=
  ⟨h.t.trans (Turned.one (setCell_grown _ _ _ _)), h.r.keep (setCell_grown _ _ _ _) (fun q hq e => by have := (h.r.own.lt q hq).1; have := Option.some.inj e; omega) (fun i hi q hq e => by have := (h.r.lt i hi q hq).1; have := Option.some.inj e; omega),
    h.n.keep (setCell_grown _ _ _ _) (fun q hq e => by have := (h.n.own.lt q hq).1; have := Option.some.inj e; omega) (fun i hi q hq e => by have := (h.n.lt i hi q hq).1; have := Option.some.inj e; omega)⟩
theorem ClpSta.all : ∀ {k : Nat}, ClpSta wA ob B e ty pv rv nv rc nc Lr Ln Tr Tn k W → ClpAll wA ob B e rv nv Lr Ln Tr Tn W
  | 0, h => h.2
  | 1, h => h.2
  | 2, h => h.2
  | _ + 3, h => h.elim
theorem ClpSta.free (hg : W.grownBy W' none) : ∀ {k : Nat}, ClpSta wA ob B e ty pv rv nv rc nc Lr Ln Tr Tn k W → ClpSta wA ob B e ty pv rv nv rc nc Lr Ln Tr Tn k W'
  | 0, h => ⟨h.1.ext (free_of hg), h.2.free hg⟩
  | 1, h => ⟨h.1.ext (free_of hg), h.2.free hg⟩
  | 2, h => ⟨h.1.ext (free_of hg), h.2.free hg⟩
  | _ + 3, h => h.elim
theorem ClpSta.l1 : ∀ {k : Nat}, ClpSta wA ob B e ty pv rv nv rc nc Lr Ln Tr Tn k W → ∃ u, W.cell? ⟨ob, 1, none⟩ = some u ∧ (u = rv ∨ u = rc)
  | 0, h => ⟨rv, h.1.cell 1, .inl rfl⟩
  | 1, h => ⟨rc, h.1.cell 1, .inr rfl⟩
  | 2, h => ⟨rc, h.1.cell 1, .inr rfl⟩
  | _ + 3, h => h.elim
theorem ClpSta.l2 : ∀ {k : Nat}, ClpSta wA ob B e ty pv rv nv rc nc Lr Ln Tr Tn k W → ∃ u, W.cell? ⟨ob, 2, none⟩ = some u ∧ (u = nv ∨ u = nc)
  | 0, h => ⟨nv, h.1.cell 2, .inl rfl⟩
  | 1, h => ⟨nv, h.1.cell 2, .inl rfl⟩
  | 2, h => ⟨nc, h.1.cell 2, .inr rfl⟩
  | _ + 3, h => h.elim
end
theorem clp_or {W : World} {B n : Nat} {e : TypeId} {a : Option Addr} {c : Nat} {L : List (List Int)} {T : Nat → Value} {u : Value} (h : Grid B W e (.slice a n c) L T) (hn : L.length = n) (hu : u = .slice a n c ∨ u = .slice a n n) : Sl W 1 u n ((List.range L.length).map T) ∧ clpV u n = .slice a n n := by
  have h1 : Sl W 1 (.slice a n c) n ((List.range L.length).map T) := by have := Sl.of_own h.own (by omega); rw [hn] at this ⊢; exact this
  rcases hu with rfl | rfl
  · exact ⟨h1, rfl⟩
  · exact ⟨h1.clp, rfl⟩
theorem turn_same {b : Nat} {w W : World} (h : Turned b b w W) : w.grownBy W (some b) := ⟨h.os, h.tape, h.output, h.size, fun q h1 h2 => h.block q h1 (fun e => h2 (by rw [e])) (fun e => h2 (by rw [e]))⟩
theorem Grid.clpN {B : Nat} {w : World} {e : TypeId} {v : Value} {L : List (List Int)} {R : Nat → Value} (h : Grid B w e v L R) : RwsN B w (clpV v L.length) L := ⟨R, h.clp, fun q hq => (h.own.lt q (by rw [clpV_block] at hq; exact hq)).1, fun i hi q hq => (h.lt i hi q hq).1⟩
theorem Grid.cell3 {B : Nat} {w : World} {e : TypeId} {v : Value} {L : List (List Int)} {T : Nat → Value} (h : Grid B w e v L T) {b : Nat} (hb : b < B) (o : Nat) (x : Value) : Grid B (w.setCell ⟨b, o, none⟩ x) e v L T :=
  h.keep (setCell_grown _ _ _ _) (fun q hq e => by have := (h.own.lt q hq).1; have := Option.some.inj e; omega) (fun i hi q hq e => by have := (h.lt i hi q hq).1; have := Option.some.inj e; omega)
theorem Ints.cell3 {w : World} {v : Value} {l : List Int} (h : Ints w v l) {b : Nat} (hb : ∀ q, v.ownBlock = some q → q ≠ b) (o : Nat) (x : Value) : Ints (w.setCell ⟨b, o, none⟩ x) v l := h.grown (setCell_grown _ _ _ _) (fun q hq e => hb q hq (Option.some.inj e))
def SM.or {mb lb : Nat} (x y : Value) : SM mb lb := ⟨⟨fun u _ => u = x ∨ u = y⟩, fun _ _ _ _ _ h _ => h⟩
end Go.Att
namespace Go.Proofs.YtfepefbehgbjpaaGreatDoor
open Go.RowKit Go.Att
section
variable {w : World} {bs : Nat} {p : Int} {k : Nat} {vr pv0 : Value} {pl : List Int} {rows : List (List Int)} {R : Nat → Value}
set_option maxRecDepth 100000 in
set_option maxHeartbeats 16000000 in
theorem topen_any (hs : Spg w (.pointer (some ⟨bs, 0, none⟩)) p k) (hr : RwsAt w vr rows R) (hn1 : 1 ≤ rows.length) (hl : rows.length ≤ 65536) (hrl : ∀ i, i < rows.length → (nthL rows i).length ≤ 4294960000) (hp : Ints w pv0 pl) (hp1 : 1 ≤ pl.length) (hpl : pl.length ≤ 1000000) (hin : ∀ x ∈ pl, 0 ≤ x ∧ x < rows.length) :
    Calls Tryz.prog 35 #[.pointer (some ⟨bs, 0, none⟩), vr, pv0] w (Gives w fun u w' => ∃ a b c, u = .tuple #[.agg #[a, b, c], .nilIface] ∧ Ints w' a (onceL pl) ∧ NewIn w a ∧ RwsN w.heap.size w' b (shoR p rows (onceL pl) (onceL pl).length) ∧ RwsN w.heap.size w' c (nodL p k (onceL pl) rows rows.length 0 rows.length)) := by
  obtain ⟨ra, rc, rfl⟩ := hr.shape
  have hlr := hr.run_len (P := Tryz.prog) slRows
  have hx1 := Ext.alloc w (Obj.cells #[.pointer (some ⟨bs, 0, none⟩)] 23)
  have hx2 := Ext.alloc (w.alloc (Obj.cells #[.pointer (some ⟨bs, 0, none⟩)] 23)) (Obj.cells #[.slice ra rows.length rc] 29)
  have hx3 := Ext.alloc ((w.alloc (Obj.cells #[.pointer (some ⟨bs, 0, none⟩)] 23)).alloc (Obj.cells #[.slice ra rows.length rc] 29)) (Obj.cells #[.slice none 0 0, .slice none 0 0, .slice none 0 0] 31)
  have HX0 := Lib.hid ((hx1.trans hx2).trans hx3)
  have HB3 := Lib.hid ((BlkOf.new w [.pointer (some ⟨bs, 0, none⟩)] 23).ext (hx2.trans hx3))
  have hb4 := BlkOf.new (w.alloc (Obj.cells #[.pointer (some ⟨bs, 0, none⟩)] 23)) [.slice ra rows.length rc] 29
  rw [World.size_alloc] at hb4
  have HB4 := Lib.hid (hb4.ext hx3)
  have hb6 := BlkOf.new ((w.alloc (Obj.cells #[.pointer (some ⟨bs, 0, none⟩)] 23)).alloc (Obj.cells #[.slice ra rows.length rc] 29)) [.slice none 0 0, .slice none 0 0, .slice none 0 0] 31
  rw [World.size_alloc, World.size_alloc] at hb6
  have HB6 := Lib.hid hb6
  have HS := Lib.hid hs; have HR := Lib.hid hr; have HRL := Lib.hid hrl; have HP := Lib.hid hp; have HIN := Lib.hid hin
  clear hx1 hx2 hx3 hb4 hb6 hs hr hrl hp hin
  go_enter Tryz.func35, Tryz.ntmps35
  go_upto_region 1 with (fail)
  generalize ((w.alloc (Obj.cells #[.pointer (some ⟨bs, 0, none⟩)] 23)).alloc (Obj.cells #[.slice ra rows.length rc] 29)).alloc (Obj.cells #[.slice none 0 0, .slice none 0 0, .slice none 0 0] 31) = WZ at *
  obtain ⟨b3, hb3⟩ : ∃ b, w.heap.size = b := ⟨_, rfl⟩
  obtain ⟨b4, hb4⟩ : ∃ b, w.heap.size + 1 = b := ⟨_, rfl⟩
  obtain ⟨b6, hb6⟩ : ∃ b, w.heap.size + 1 + 1 = b := ⟨_, rfl⟩
  have HQ := Lib.hid (show b4 = b3 + 1 ∧ b6 = b3 + 2 ∧ w.heap.size ≤ b3 from by omega)
  rw [hb3] at HB3
  rw [hb4] at HB4
  rw [hb6] at HB6
  rw [hb6, hb4, hb3]
  clear hb3 hb4 hb6
  have k3 : WZ.cell? ⟨b3, 0, none⟩ = some (.pointer (some ⟨bs, 0, none⟩)) := HB3.out.cell 0
  have k4 : WZ.cell? ⟨b4, 0, none⟩ = some (.slice ra rows.length rc) := HB4.out.cell 0
  have CC := Lib.hid (containsN1_any (HP.out.ext HX0.out) 84 (.pointer (some ⟨b4, 0, none⟩)) (fun _ => false) opn1_enter (fun W i hx hi => opn1_any (HR.out.ext (HX0.out.trans hx)) (hx.cell k4) _ (HIN.out _ (nth_mem hi)).1 (HIN.out _ (nth_mem hi)).2))
  rw [show (pl.any fun _ => false) = false by simp] at CC
  go_upto_region 5 with (first | (go_at_call 76; refine (tright_any (w := WZ) rows.length hn1 hl).mono ?_; rintro e w' ⟨rfl, rfl⟩) | (go_at_call 83; refine CC.out.mono ?_; rintro e w1 ⟨rfl, mC, rfl⟩))
  have HXZ := Lib.hid (Ext.drewN WZ mC)
  generalize WZ.drewN mC = w1 at *
  clear CC k3 k4
  have CK := Lib.hid (clone_any (HP.out.ext (HX0.out.trans HXZ.out)) (by omega))
  go_upto_region 6 with (go_at_call 55; refine CK.out.mono ?_; rintro e w2 ⟨v5, rfl, hx5, ho5⟩; obtain ⟨a5, c5, rfl⟩ := own_shape ho5; have HX5 := Lib.hid hx5; have HO5 := Lib.hid ho5; clear hx5 ho5)
  have HB8 := Lib.hid (BlkOf.new w2 [.slice a5 pl.length c5, .slice none 0 0, .slice none 0 0] 31)
  have HX6 := Lib.hid (Ext.alloc w2 (Obj.cells #[.slice a5 pl.length c5, .slice none 0 0, .slice none 0 0] 31))
  have HL5 := Lib.hid (LstI.of_own hp1 (own_ext HO5.out HX6.out))
  have H5 := Lib.hid (show ∀ q, (Value.slice a5 pl.length c5).ownBlock = some q → w1.heap.size ≤ q ∧ q < w2.heap.size from fun q hq => HO5.out.lt q hq)
  obtain ⟨ob, hob⟩ : ∃ ob, w2.heap.size = ob := ⟨_, rfl⟩
  rw [hob] at HB8 H5
  have HW2 := Lib.hid (show WZ.heap.size ≤ w1.heap.size ∧ w1.heap.size ≤ ob from ⟨HXZ.out.size, by rw [← hob]; exact HX5.out.size⟩)
  have HXW3 := Lib.hid (HXZ.out.trans (HX5.out.trans HX6.out))
  rw [hob]
  clear hob CK HO5
  generalize w2.alloc (Obj.cells #[.slice a5 pl.length c5, .slice none 0 0, .slice none 0 0] 31) = w3 at *
  have k0 : w3.cell? ⟨ob, 0, none⟩ = some (.slice a5 pl.length c5) := HB8.out.cell 0
  have CT := Lib.hid (psort_any HL5.out (by omega))
  go_upto_region 7 with (go_at_call 85; refine CT.out.mono ?_; rintro e w4 ⟨rfl, hg4, hl4⟩; have HG4 := Lib.hid hg4; have HL4 := Lib.hid hl4; clear hg4 hl4)
  have HB4o := Lib.hid (HB8.out.grown HG4.out (fun e => by have h1 := H5.out ob e.symm; omega))
  clear k0 CT HL5
  have k0 : w4.cell? ⟨ob, 0, none⟩ = some (.slice a5 pl.length c5) := HB4o.out.cell 0
  have hsl : (pl.mergeSort fun x y => decide (x ≤ y)).length = pl.length := List.length_mergeSort _
  have CP := Lib.hid (pcompact_any HL4.out (by omega))
  have HOL := Lib.hid (show (onceL pl).length ≤ pl.length from once_len pl)
  have HXW4 := Lib.hid (show Ext w1 w4 from Below.grown (HX5.out.trans HX6.out).below HG4.out (HX5.out.trans HX6.out).size (fun q e => (H5.out q e).1))
  clear hsl
  go_upto_region 8 with (first | (go_at_call 87; refine CP.out.mono ?_; rintro e w5 ⟨u5, rfl, hg5, ho5, hl5⟩; have HG5 := Lib.hid hg5; have HL6 := Lib.hid (show Ints w5 u5 (onceL pl) from hl5.ints); have HB5 := Lib.hid (HB4o.out.grown hg5 (fun e => by have h1 := H5.out ob e.symm; omega)); clear hg5 hl5) | (go_at_call 55; refine (clone_any HL6.out (by have := HOL.out; omega)).mono ?_; rintro e w6 ⟨v6, rfl, hx6, ho6⟩; obtain ⟨a6, c6, rfl⟩ := own_shape ho6; have HX7 := Lib.hid hx6; have HO6 := Lib.hid ho6; clear hx6 ho6) | (go_at_call 86; refine (clipI_any (Ints.of_own HO6.out)).mono ?_; rintro e w7 ⟨rfl, rfl⟩; simp only [clpV]; have q0 : w6.cell? ⟨ob, 0, none⟩ = some (.slice a5 pl.length c5) := (HB5.out.ext HX7.out).cell 0; have q1 := (HB5.out.ext HX7.out).free 0))
  have hxw5 : Ext w1 w5 := Below.grown HXW4.out.below HG5.out HXW4.out.size (fun q e => (H5.out q e).1)
  have hobw5 : ob < w5.heap.size := HB5.out.lt
  have HBL : Hid (BlkOf (w6.setCell ⟨ob, 0, none⟩ (.slice a6 (onceL pl).length (onceL pl).length)) ob [.slice a6 (onceL pl).length (onceL pl).length, .slice none 0 0, .slice none 0 0] 31) := Lib.hid ((HB5.out.ext HX7.out).set 0 _)
  have H6 := Lib.hid (show ∀ q, (Value.slice a6 (onceL pl).length (onceL pl).length).ownBlock = some q → q ≠ ob ∧ q ≠ b6 ∧ w.heap.size ≤ q from fun q hq => by
    have h1 := (HO6.out.lt q (by cases a6 <;> exact hq)).1
    have h2 := HB6.out.lt
    have h3 := HW2.out
    have h4 := HX0.out.size
    omega)
  have HPL : Hid (Ints (w6.setCell ⟨ob, 0, none⟩ (.slice a6 (onceL pl).length (onceL pl).length)) (.slice a6 (onceL pl).length (onceL pl).length) (onceL pl)) := Lib.hid (Ints.grown (show Ints w6 (.slice a6 (onceL pl).length (onceL pl).length) (onceL pl) from Sl.clp (Ints.of_own HO6.out)) (setCell_grown _ _ _ _) (fun q hq e => (H6.out q hq).1 (Option.some.inj e)))
  have HXL := Lib.hid (ext_set (o := 0) (v := .slice a6 (onceL pl).length (onceL pl).length) (hxw5.trans HX7.out) HW2.out.2)
  have HXL2 := Lib.hid (HXZ.out.trans HXL.out)
  have HLIN := Lib.hid (show ∀ x ∈ onceL pl, 0 ≤ x ∧ x < rows.length from fun x hx => HIN.out x ((onceL_mem x).1 hx))
  have HLA := Lib.hid (once_asc_le pl)
  have HLM := Lib.hid (show (onceL pl).length ≤ 1000000 from Nat.le_trans HOL.out hpl)
  clear hxw5 hobw5 q0 q1 k0 HB4o CP HG4 HL4 HXW4 HG5 HL6 HB5 HX7 HO6 ho5 HX5 HX6 H5 HXW3 HIN HOL HP hp1 hpl HXL HXZ
  generalize w6.setCell ⟨ob, 0, none⟩ (.slice a6 (onceL pl).length (onceL pl).length) = WL at *
  obtain ⟨L, hL⟩ : ∃ L, onceL pl = L := ⟨_, rfl⟩
  have HLE := Lib.hid hL
  rw [hL] at HBL H6 HPL HLIN HLA HLM ⊢
  clear hL
  obtain ⟨m, hm⟩ : ∃ m, L.length = m := ⟨_, rfl⟩
  rw [hm] at HBL H6 HPL HLM
  have HM := Lib.hid hm
  have k0 : WL.cell? ⟨ob, 0, none⟩ = some (.slice a6 m m) := HBL.out.cell 0
  have hlm := HPL.out.run_len (P := Tryz.prog) slInts
  rw [hm] at hlm ⊢
  clear hm
  go_wp2_with fail
  clear k0
  go_loopw [37] (fun x37 wr => ∃ (i : Nat) (rv : Value) (T : Nat → Value), i ≤ m ∧ x37 = .int .i64 i ∧ Hid (WL.grownBy wr (some ob)) ∧ Hid (BlkOf wr ob [.slice a6 m m, rv, .slice none 0 0] 31) ∧ Hid (Grid WL.heap.size wr 22 rv (shoR p rows L i) T)) (fun x37 _ => m - (intOf x37).toNat)
  case atStart => exact ⟨0, .slice none 0 0, R, Nat.zero_le _, rfl, Lib.hid (World.grownBy.refl _ _), HBL, Lib.hid (by unfold shoR; exact Grid.nil _ _ _ _)⟩
  case round =>
    obtain ⟨i, rv, T, hi, rfl, HGW, HBW, HGR⟩ := hrel
    have HXA := Lib.hid (show Ext WZ wr from Below.grown HXL2.out.below HGW.out HXL2.out.size (fun q e => by cases e; have := HW2.out; omega))
    by_cases him : i < m
    · have HIM := Lib.hid him
      have hmb := HLM.out
      have hpi := HPL.out.grown HGW.out (fun q hq e => (H6.out q hq).1 (Option.some.inj e))
      have hip := hpi.run_index (P := Tryz.prog) slInts i (by rw [HM.out]; exact him)
      have hcp := hpi.cell i (by rw [HM.out]; exact him)
      have hjr := HLIN.out _ (nth_mem (show i < L.length by rw [HM.out]; exact him))
      obtain ⟨j, hj⟩ : ∃ j : Nat, nth L i = (j : Int) := ⟨(nth L i).toNat, by omega⟩
      have HSN := Lib.hid (shoR_snoc (p := p) (rows := rows) (show i < L.length by rw [HM.out]; exact him) hj)
      rw [hj] at hcp hjr
      have hjl : j < rows.length := by omega
      have HIX := Lib.hid ((HR.out.ext HX0.out).run_index (P := Tryz.prog) slRows j hjl)
      have HCX := Lib.hid ((HR.out.ext HX0.out).cell j hjl)
      have HRJ := Lib.hid ((HR.out.ext HX0.out).row j hjl)
      have HRJL := Lib.hid (show (nthL rows j).length ≤ 4294967000 from by have := HRL.out j hjl; omega)
      obtain ⟨rt, hrt⟩ : ∃ rt, (nthL rows j).map (fof p) = rt := ⟨_, rfl⟩
      have HRT := Lib.hid hrt
      rw [hrt] at HSN
      obtain ⟨sb, bf, rtt, g, fs, he, hsp, hf, -⟩ := HS.out
      obtain rfl : bs = sb := by simpa using he
      have HF0 := Lib.hid (hf.ext HX0.out)
      have C0 := Lib.hid (HX0.out.cell hsp.c0)
      obtain ⟨c, hcv, hcw, hcB, hcn⟩ : ∃ c, (∀ q, rv.ownBlock = some q → q = c) ∧ (c = ob ∨ WL.heap.size ≤ c) ∧ c < wr.heap.size ∧ (rv.ownBlock = none → c = ob) := by
        cases h : rv.ownBlock with
        | none => exact ⟨ob, (fun q hq => by cases hq), Or.inl rfl, HBW.out.lt, fun _ => rfl⟩
        | some q => exact ⟨q, (fun q' hq => (Option.some.inj hq).symm), Or.inr (HGR.out.own.lt q h).1, (HGR.out.own.lt q h).2, fun e => by cases e⟩
      have HCV := Lib.hid hcv
      have HCW2 := Lib.hid hcw
      have HOB : Hid (ob < WL.heap.size) := Lib.hid HBL.out.lt
      have HOW := Lib.hid (show WZ.heap.size ≤ ob from by have := HW2.out; omega)
      have HCW := Lib.hid (show WZ.heap.size ≤ c from by have := HXL2.out.size; have := HOW.out; omega)
      have HCA := Lib.hid (show WL.heap.size ≤ wr.heap.size ∧ c < wr.heap.size ∧ ob < wr.heap.size from ⟨HGW.out.size, hcB, HBW.out.lt⟩)
      have A3 := Lib.hid (HXA.out.cell (HB3.out.cell 0))
      have A4 := Lib.hid (HXA.out.cell (HB4.out.cell 0))
      have HNE := Lib.hid (show (b3 ≠ ob ∧ b3 ≠ c ∧ b4 ≠ ob ∧ b4 ≠ c) from by
        have h5 := HB3.out.lt; have h6 := HB4.out.lt; have h7 := HCW.out; have h8 := HOW.out
        refine ⟨?_, ?_, ?_, ?_⟩ <;> omega)
      have HLL := Lib.hid (show (shoR p rows L i).length ≤ 1000000 from by rw [shoR_length (by rw [HM.out]; omega)]; have := HLM.out; omega)
      have HBA := HBW; have HGA := HGR
      clear he hsp hf hcv hcw hcB hcn hpi hj hjl hjr hrt
      go_upto_region 11 with (fail)
      have hne := HNE.out
      refine wp_region_chain 13 rfl (phiM (mb := ob) (lb := c) [SM.eq (.pointer (some ⟨ob, 1, none⟩)), SM.eq rv, SM.eq (.pointer (some ⟨bs, 0, none⟩)), SM.eq (.pointer (some ⟨bf, 0, none⟩)), SM.eq (.slice ra rows.length rc), SM.eq (.int .i64 (j : Int)), SM.eq (.pointer (some (elt (.slice ra rows.length rc) j 1))), SM.eq (R j), SM.intsB WL.heap.size rt, SM.lit WL.heap.size 22 rt, SM.top, SM.eq (.pointer (some ⟨ob, 1, none⟩)), SM.top]) [1, 10, 12] (GrwSta wr ob c WL.heap.size 22 31 (fun u => [.slice a6 m m, u, .slice none 0 0]) rv (shoR p rows L i) rt 51) (fun k W W' => W.grownBy W' (grwB ob c k)) (by kernel_rfl) (by kernel_rfl) (by kernel_rfl) (fun j _ u W W' hu hg => by rcases hg with hg | ⟨c, _, hg⟩; exact phiM_stab _ j none (.inl rfl) u W W' hu hg; exact phiM_stab _ j _ (grwB_in _ _ _) u W W' hu hg) (fun j hj hd u W => by have hj2 : j = 1 ∨ j = 10 ∨ j = 12 := (by simpa using hj); rcases hj2 with rfl | rfl | rfl <;> first | trivial | (simp at hd)) (fun k vs vs' W W' h hg hs => h.free hg (hs 1 (by decide) 51 rfl)) ⟨Turned.of_ext (Ext.drew _), HBA.out.ext (Ext.drew _), _, HGA.out.ext (Ext.drew _)⟩ ?_ ?_
      · refine ⟨?_, ?_, ?_, ?_, ?_, ?_, ?_, ?_, ?_, ?_, ?_, ?_, ?_, trivial⟩
        · refine bifF rfl (FreeStep.mk rfl fun vs W hk hd => ?_)
          clear hd
          clear hk
          simp only [fillA, fillL, dstL, List.take_succ_cons, List.take_zero, List.filterMap_cons, List.filterMap_nil, List.contains_cons, List.contains_nil, Nat.reduceAdd, Nat.zero_add, Nat.reduceBEq, Bool.or_false, Bool.or_true, Bool.false_eq_true, ↓reduceIte]
          go_wp2_with fail
          exact ⟨by trivial, World.grownBy.refl _ _, rfl⟩
        · refine bifT rfl (LinkStep.mk rfl fun vs W hS hd => ?_)
          replace hS : GrwSta wr ob c WL.heap.size 22 31 (fun u => [.slice a6 m m, u, .slice none 0 0]) rv (shoR p rows L i) rt 51 0 vs W := hS
          have e41 : vs 41 = (.pointer (some ⟨ob, 1, none⟩)) := hd 0 (by kernel_rfl)
          clear hd
          simp only [fillA, fillL, dstL, List.take_succ_cons, List.take_zero, List.filterMap_cons, List.filterMap_nil, List.contains_cons, List.contains_nil, Nat.reduceAdd, Nat.zero_add, Nat.reduceBEq, Bool.or_false, Bool.or_true, Bool.false_eq_true, ↓reduceIte]
          obtain ⟨hT, hBW, T1, hG1⟩ := hS
          have k1 : W.cell? ⟨ob, 1, none⟩ = some rv := hBW.cell 1
          rw [e41]
          go_wp2_with fail
          first | exact ⟨by trivial, World.grownBy.refl _ _, ⟨hT, hBW, T1, hG1⟩, rfl⟩ | exact ⟨World.grownBy.refl _ _, ⟨hT, hBW, T1, hG1⟩, rfl⟩
        · refine bifF rfl (FreeStep.mk rfl fun vs W hk hd => ?_)
          clear hd
          obtain ⟨kk, hS⟩ := hk
          replace hS := GrwSta.turned hS
          simp only [fillA, fillL, dstL, List.take_succ_cons, List.take_zero, List.filterMap_cons, List.filterMap_nil, List.contains_cons, List.contains_nil, Nat.reduceAdd, Nat.zero_add, Nat.reduceBEq, Bool.or_false, Bool.or_true, Bool.false_eq_true, ↓reduceIte]
          have hk3 := hS.cell A3.out hne.1 hne.2.1
          go_wp2_with fail
          exact ⟨by trivial, World.grownBy.refl _ _, rfl⟩
        · refine bifF rfl (FreeStep.mk rfl fun vs W hk hd => ?_)
          have e43 : vs 43 = (.pointer (some ⟨bs, 0, none⟩)) := hd 2 (by kernel_rfl)
          clear hd
          obtain ⟨kk, hS⟩ := hk
          replace hS := GrwSta.turned hS
          simp only [fillA, fillL, dstL, List.take_succ_cons, List.take_zero, List.filterMap_cons, List.filterMap_nil, List.contains_cons, List.contains_nil, Nat.reduceAdd, Nat.zero_add, Nat.reduceBEq, Bool.or_false, Bool.or_true, Bool.false_eq_true, ↓reduceIte]
          rw [e43]
          have hxw := hS.ext HXA.out HOW.out HCW.out
          go_wp2_with (go_at_call 18; refine (sfieldof_any (hxw.cell C0.out)).mono ?_; rintro e w3 ⟨rfl, rfl⟩)
          exact ⟨by trivial, World.grownBy.refl _ _, rfl⟩
        · refine bifF rfl (FreeStep.mk rfl fun vs W hk hd => ?_)
          clear hd
          obtain ⟨kk, hS⟩ := hk
          replace hS := GrwSta.turned hS
          simp only [fillA, fillL, dstL, List.take_succ_cons, List.take_zero, List.filterMap_cons, List.filterMap_nil, List.contains_cons, List.contains_nil, Nat.reduceAdd, Nat.zero_add, Nat.reduceBEq, Bool.or_false, Bool.or_true, Bool.false_eq_true, ↓reduceIte]
          have hk4 := hS.cell A4.out hne.2.2.1 hne.2.2.2
          go_wp2_with fail
          exact ⟨by trivial, World.grownBy.refl _ _, rfl⟩
        · refine bifF rfl (FreeStep.mk rfl fun vs W hk hd => ?_)
          clear hd
          clear hk
          simp only [fillA, fillL, dstL, List.take_succ_cons, List.take_zero, List.filterMap_cons, List.filterMap_nil, List.contains_cons, List.contains_nil, Nat.reduceAdd, Nat.zero_add, Nat.reduceBEq, Bool.or_false, Bool.or_true, Bool.false_eq_true, ↓reduceIte]
          go_wp2_with fail
          exact ⟨by trivial, World.grownBy.refl _ _, rfl⟩
        · refine bifF rfl (FreeStep.mk rfl fun vs W hk hd => ?_)
          have e45 : vs 45 = (.slice ra rows.length rc) := hd 4 (by kernel_rfl)
          have e46 : vs 46 = (.int .i64 (j : Int)) := hd 5 (by kernel_rfl)
          clear hd
          clear hk
          simp only [fillA, fillL, dstL, List.take_succ_cons, List.take_zero, List.filterMap_cons, List.filterMap_nil, List.contains_cons, List.contains_nil, Nat.reduceAdd, Nat.zero_add, Nat.reduceBEq, Bool.or_false, Bool.or_true, Bool.false_eq_true, ↓reduceIte]
          have hix := HIX.out
          rw [e45, e46]
          go_wp2_with fail
          exact ⟨by trivial, World.grownBy.refl _ _, rfl⟩
        · refine bifF rfl (FreeStep.mk rfl fun vs W hk hd => ?_)
          have e47 : vs 47 = (.pointer (some (elt (.slice ra rows.length rc) j 1))) := hd 6 (by kernel_rfl)
          clear hd
          obtain ⟨kk, hS⟩ := hk
          replace hS := GrwSta.turned hS
          simp only [fillA, fillL, dstL, List.take_succ_cons, List.take_zero, List.filterMap_cons, List.filterMap_nil, List.contains_cons, List.contains_nil, Nat.reduceAdd, Nat.zero_add, Nat.reduceBEq, Bool.or_false, Bool.or_true, Bool.false_eq_true, ↓reduceIte]
          have hcx := (hS.ext HXA.out HOW.out HCW.out).cell HCX.out
          rw [e47]
          go_wp2_with fail
          exact ⟨by trivial, World.grownBy.refl _ _, rfl⟩
        · refine bifF rfl (FreeStep.mk rfl fun vs W hk hd => ?_)
          have e44 : vs 44 = (.pointer (some ⟨bf, 0, none⟩)) := hd 3 (by kernel_rfl)
          have e48 : vs 48 = (R j) := hd 7 (by kernel_rfl)
          clear hd
          obtain ⟨kk, hS⟩ := hk
          replace hS := GrwSta.turned hS
          simp only [fillA, fillL, dstL, List.take_succ_cons, List.take_zero, List.filterMap_cons, List.filterMap_nil, List.contains_cons, List.contains_nil, Nat.reduceAdd, Nat.zero_add, Nat.reduceBEq, Bool.or_false, Bool.or_true, Bool.false_eq_true, ↓reduceIte]
          rw [e44, e48]
          have hxw := hS.ext HXA.out HOW.out HCW.out
          have hsz := turned_size hS
          go_wp2_with (go_at_call 88; refine (elements_any (HF0.out.ext hxw) (HRJ.out.ext hxw) HRJL.out).mono ?_; rintro e w3 ⟨v3, rfl, hx3, ho3⟩)
          exact ⟨by trivial, hx3.grownBy none, by have := Ints.of_own ho3; rw [HRT.out] at this; exact this, fun q hq => by have h1 := ho3.lt q hq; have h2 := HCA.out; exact ⟨by omega, h1.2, by omega, by omega⟩⟩
        · refine bifF rfl (FreeStep.mk rfl fun vs W hk hd => ?_)
          have h10 : Ints W (vs 49) rt ∧ ∀ q, (vs 49).ownBlock = some q → WL.heap.size ≤ q ∧ q < W.heap.size ∧ q ≠ c ∧ q ≠ ob := hd 8 (by kernel_rfl)
          clear hd
          obtain ⟨kk, hS⟩ := hk
          replace hS := GrwSta.turned hS
          simp only [fillA, fillL, dstL, List.take_succ_cons, List.take_zero, List.filterMap_cons, List.filterMap_nil, List.contains_cons, List.contains_nil, Nat.reduceAdd, Nat.zero_add, Nat.reduceBEq, Bool.or_false, Bool.or_true, Bool.false_eq_true, ↓reduceIte]
          have hsz := turned_size hS
          obtain ⟨h10, h10b⟩ := h10
          obtain ⟨qa, qc, e10⟩ := h10.shape
          rw [e10] at h10 h10b
          rw [e10]
          go_wp2_with fail
          exact ⟨by trivial, (Ext.alloc _ _).grownBy none, _, Grid.one h10 (fun q hq => ⟨(h10b q hq).1, (h10b q hq).2.1⟩) (by have := HCA.out; omega), fun q hq => by have h1 := HCA.out; have h2 : W.heap.size = q := Option.some.inj hq; omega, fun q hq => (h10b q hq).2.2⟩
        · refine bifT rfl (LinkStep.mk rfl fun vs W hS hd => ?_)
          replace hS : GrwSta wr ob c WL.heap.size 22 31 (fun u => [.slice a6 m m, u, .slice none 0 0]) rv (shoR p rows L i) rt 51 1 vs W := hS
          have e42 : vs 42 = rv := hd 1 (by kernel_rfl)
          have h11 : ∃ T, Grid WL.heap.size W 22 (vs 50) [rt] T ∧ (∀ q, (vs 50).ownBlock = some q → q ≠ c ∧ q ≠ ob) ∧ ∀ q, (T 0).ownBlock = some q → q ≠ c ∧ q ≠ ob := hd 9 (by kernel_rfl)
          clear hd
          simp only [fillA, fillL, dstL, List.take_succ_cons, List.take_zero, List.filterMap_cons, List.filterMap_nil, List.contains_cons, List.contains_nil, Nat.reduceAdd, Nat.zero_add, Nat.reduceBEq, Bool.or_false, Bool.or_true, Bool.false_eq_true, ↓reduceIte]
          obtain ⟨T2, hg2, hb2, hc2⟩ := h11
          obtain ⟨hT, hBW, T1, hG1⟩ := hS
          rw [e42]
          go_wp2_with (at_builtin; refine wpList_appGrid rfl _ _ 29 rfl slRows rfl (Nat.le_trans HCA.out.1 (turned_size hT)) hG1 rfl hg2 (Nat.le_refl _) (fun i hi q hq e => by have hi0 : i = 0 := (by simpa using hi); rw [hi0] at hq; exact (hc2 q hq).1 (HCV.out q e.symm)) rfl (by have := HLL.out; simp only [List.length_cons, List.length_nil]; omega) (by omega) ?_; intro v4 w4 T4 hg4 hgr4 hm4)
          first | exact ⟨by trivial, grw_c HCV.out hgr4, GrwSta.app (s := 51) hT hBW hgr4 hg4 rfl HCV.out (fun q hq => by have h1 := (hG1.own.lt q hq).1; have h2 := HOB.out; omega) hm4, trivial⟩ | exact ⟨grw_c HCV.out hgr4, GrwSta.app (s := 51) hT hBW hgr4 hg4 rfl HCV.out (fun q hq => by have h1 := (hG1.own.lt q hq).1; have h2 := HOB.out; omega) hm4, trivial⟩
        · refine bifF rfl (FreeStep.mk rfl fun vs W hk hd => ?_)
          clear hd
          clear hk
          simp only [fillA, fillL, dstL, List.take_succ_cons, List.take_zero, List.filterMap_cons, List.filterMap_nil, List.contains_cons, List.contains_nil, Nat.reduceAdd, Nat.zero_add, Nat.reduceBEq, Bool.or_false, Bool.or_true, Bool.false_eq_true, ↓reduceIte]
          go_wp2_with fail
          exact ⟨by trivial, World.grownBy.refl _ _, rfl⟩
        · refine bifT rfl (LinkStep.mk rfl fun vs W hS hd => ?_)
          replace hS : GrwSta wr ob c WL.heap.size 22 31 (fun u => [.slice a6 m m, u, .slice none 0 0]) rv (shoR p rows L i) rt 51 2 vs W := hS
          have e52 : vs 52 = (.pointer (some ⟨ob, 1, none⟩)) := hd 11 (by kernel_rfl)
          clear hd
          simp only [fillA, fillL, dstL, List.take_succ_cons, List.take_zero, List.filterMap_cons, List.filterMap_nil, List.contains_cons, List.contains_nil, Nat.reduceAdd, Nat.zero_add, Nat.reduceBEq, Bool.or_false, Bool.or_true, Bool.false_eq_true, ↓reduceIte]
          have hS3 := hS.sto (vs' := vs) (o := 1) (fun _ => rfl) HOB.out
          obtain ⟨hT, hBW, -, T4, hG4⟩ := hS
          obtain ⟨qa, qc, e12⟩ := own_shape hG4.own
          rw [e12, List.length_append, List.length_singleton] at hS3
          rw [e12, List.length_append, List.length_singleton]
          have k1 : W.cell? ⟨ob, 1, none⟩ = some rv := hBW.cell 1
          have z1 := hBW.free 1
          rw [e52]
          go_wp2_with fail
          first | exact ⟨by trivial, setCell_grown _ _ _ _, hS3, trivial⟩ | exact ⟨setCell_grown _ _ _ _, hS3, trivial⟩
      · intro vs w5 hall hS
        replace hS : GrwSta wr ob c WL.heap.size 22 31 (fun u => [.slice a6 m m, u, .slice none 0 0]) rv (shoR p rows L i) rt 51 3 vs w5 := hS
        obtain ⟨hT, u, T5, hB5, hG5, -⟩ := hS
        have HT := Lib.hid hT; have HB5 := Lib.hid hB5; have HG5 := Lib.hid hG5
        clear hall hT hB5 hG5
        simp only [fillA, fillL, dstL, List.take_succ_cons, List.take_zero, List.filterMap_cons, List.filterMap_nil, List.contains_cons, List.contains_nil, Nat.reduceAdd, Nat.zero_add, Nat.reduceBEq, Bool.or_false, Bool.or_true, Bool.false_eq_true, ↓reduceIte]
        go_wp2_with fail
        go_roundw
        case rel => exact ⟨i + 1, u, T5, by have := HIM.out; omega, by go_num, Lib.hid (grown_turn HGW.out HT.out HCW2.out), HB5, Lib.hid (by rw [HSN.out]; exact HG5.out)⟩
        case measure => have := HIM.out; simp [intOf]; omega
    · obtain rfl : i = m := by omega
      have HOB : Hid (ob < WL.heap.size) := Lib.hid HBL.out.lt
      have hpi := HPL.out.grown HGW.out (fun q hq e => (H6.out q hq).1 (Option.some.inj e))
      have HPI := Lib.hid hpi
      have CH := Lib.hid (by
        have := hiddenO_any (w0 := WZ) (W0 := wr) (b3 := b3) (b4 := b4) (rv := rv) (HS.out.ext HX0.out) (HR.out.ext HX0.out) hl HRL.out HXA.out (by have := HW2.out; omega) HBW.out.lt (HB3.out.cell 0) (HB4.out.cell 0) hpi (fun q hq => (H6.out q hq).1) HLA.out (by have h1 := HM.out; have h2 := HLM.out; omega) rows.length rows.length 0 hn1 (Nat.le_refl _) (by omega) wr (.slice none 0 0) [] T (World.grownBy.refl _ _) HBW.out (Grid.nil _ _ _ _) (by simp; omega)
        rw [show ((0 : Nat) : Int) = 0 from rfl, Int.zero_add, List.nil_append] at this
        exact this)
      have k0 : wr.cell? ⟨ob, 0, none⟩ = some (.slice a6 i i) := HBW.out.cell 0
      have k4 : wr.cell? ⟨b4, 0, none⟩ = some (.slice ra rows.length rc) := HXA.out.cell (HB4.out.cell 0)
      clear hpi
      go_upto_region 14 with (go_at_call 89; refine CH.out.mono ?_; rintro e w9 ⟨rfl, hg9, hf9, nv, hb9, -, TN, hn9⟩; have HG9 := Lib.hid hg9; have HB9 := Lib.hid hb9; have HN9 := Lib.hid (hn9.base HGW.out.size); clear hg9 hf9 hb9 hn9)
      clear k0 k4 CH
      have HR9 := Lib.hid (HGR.out.keep HG9.out (fun q hq e => by have h1 := (HGR.out.own.lt q hq).1; have := Option.some.inj e; have := HOB.out; omega) (fun t ht q hq e => by have h1 := (HGR.out.lt t ht q hq).1; have := Option.some.inj e; have := HOB.out; omega))
      obtain ⟨ar, cr, rfl⟩ := own_shape HR9.out.own
      obtain ⟨an, cn, rfl⟩ := own_shape HN9.out.own
      obtain ⟨nr, hnr⟩ : ∃ nr, (shoR p rows L i).length = nr := ⟨_, rfl⟩
      obtain ⟨nn, hnn⟩ : ∃ nn, (nodL p k L rows rows.length 0 rows.length).length = nn := ⟨_, rfl⟩
      have HNR := Lib.hid hnr; have HNN := Lib.hid hnn
      rw [hnr] at HR9 HB9
      rw [hnn] at HN9 HB9
      have HX9 := Lib.hid (show Ext WZ w9 from Below.grown HXA.out.below HG9.out HXA.out.size (fun q e => by cases e; have := HW2.out; omega))
      have HP9 := Lib.hid (HPI.out.grown HG9.out (fun q hq e => (H6.out q hq).1 (Option.some.inj e)))
      obtain ⟨TR, hTR⟩ : ∃ TR, T = TR := ⟨_, rfl⟩
      rw [hTR] at HR9
      clear hnr hnn hTR HGR HBW HPI
      refine wp_region_chain 10 rfl (phiM (mb := ob) (lb := ob) [SM.eq (.pointer (some ⟨ob, 1, none⟩)), SM.or (.slice ar nr cr) (.slice ar nr nr), SM.eq (.slice ar nr nr), SM.eq (.pointer (some ⟨ob, 2, none⟩)), SM.or (.slice an nn cn) (.slice an nn nn), SM.eq (.slice an nn nn), SM.eq (.pointer (some ⟨ob, 1, none⟩)), SM.top, SM.eq (.pointer (some ⟨ob, 2, none⟩)), SM.top]) [7, 9] (fun kst _ W => ClpSta w9 ob WL.heap.size 22 31 (.slice a6 i i) (.slice ar nr cr) (.slice an nn cn) (.slice ar nr nr) (.slice an nn nn) (shoR p rows L i) (nodL p k L rows rows.length 0 rows.length) TR TN kst W) (fun _ W W' => W.grownBy W' (some ob)) (by kernel_rfl) (by kernel_rfl) (by kernel_rfl) (fun j _ u W W' hu hg => by rcases hg with hg | ⟨c, _, hg⟩; exact phiM_stab _ j none (.inl rfl) u W W' hu hg; exact phiM_stab _ j (some ob) (.inr (.inr rfl)) u W W' hu hg) (fun j hj hd u W => by have hj2 : j = 7 ∨ j = 9 := (by simpa using hj); rcases hj2 with rfl | rfl <;> first | trivial | (simp at hd)) (fun k vs vs' W W' h hg hs => h.free hg) ⟨HB9.out.ext (Ext.drew _), Turned.of_ext (Ext.drew _), HR9.out.ext (Ext.drew _), HN9.out.ext (Ext.drew _)⟩ ?_ ?_
      · refine ⟨?_, ?_, ?_, ?_, ?_, ?_, ?_, ?_, ?_, ?_, trivial⟩
        · refine bifF rfl (FreeStep.mk rfl fun vs W hk hd => ?_)
          clear hd
          clear hk
          simp only [fillA, fillL, dstL, List.take_succ_cons, List.take_zero, List.filterMap_cons, List.filterMap_nil, List.contains_cons, List.contains_nil, Nat.reduceAdd, Nat.zero_add, Nat.reduceBEq, Bool.or_false, Bool.or_true, Bool.false_eq_true, ↓reduceIte]
          go_wp2_with fail
          exact ⟨by trivial, World.grownBy.refl _ _, rfl⟩
        · refine bifF rfl (FreeStep.mk rfl fun vs W hk hd => ?_)
          have e61 : vs 61 = (.pointer (some ⟨ob, 1, none⟩)) := hd 0 (by kernel_rfl)
          clear hd
          obtain ⟨kk, hS⟩ := hk
          simp only [fillA, fillL, dstL, List.take_succ_cons, List.take_zero, List.filterMap_cons, List.filterMap_nil, List.contains_cons, List.contains_nil, Nat.reduceAdd, Nat.zero_add, Nat.reduceBEq, Bool.or_false, Bool.or_true, Bool.false_eq_true, ↓reduceIte]
          obtain ⟨u, hu, hor⟩ := hS.l1
          rw [e61]
          go_wp2_with fail
          exact ⟨by trivial, World.grownBy.refl _ _, hor⟩
        · refine bifF rfl (FreeStep.mk rfl fun vs W hk hd => ?_)
          have h62 : vs 62 = .slice ar nr cr ∨ vs 62 = .slice ar nr nr := hd 1 (by kernel_rfl)
          clear hd
          obtain ⟨kk, hS⟩ := hk
          simp only [fillA, fillL, dstL, List.take_succ_cons, List.take_zero, List.filterMap_cons, List.filterMap_nil, List.contains_cons, List.contains_nil, Nat.reduceAdd, Nat.zero_add, Nat.reduceBEq, Bool.or_false, Bool.or_true, Bool.false_eq_true, ↓reduceIte]
          obtain ⟨hsl, hcl⟩ := clp_or hS.all.r HNR.out h62
          go_wp2_with (go_at_call 91; refine (clipRW_any hsl).mono ?_; rintro e w3 ⟨rfl, rfl⟩; rw [hcl])
          exact ⟨by trivial, World.grownBy.refl _ _, rfl⟩
        · refine bifF rfl (FreeStep.mk rfl fun vs W hk hd => ?_)
          clear hd
          clear hk
          simp only [fillA, fillL, dstL, List.take_succ_cons, List.take_zero, List.filterMap_cons, List.filterMap_nil, List.contains_cons, List.contains_nil, Nat.reduceAdd, Nat.zero_add, Nat.reduceBEq, Bool.or_false, Bool.or_true, Bool.false_eq_true, ↓reduceIte]
          go_wp2_with fail
          exact ⟨by trivial, World.grownBy.refl _ _, rfl⟩
        · refine bifF rfl (FreeStep.mk rfl fun vs W hk hd => ?_)
          have e64 : vs 64 = (.pointer (some ⟨ob, 2, none⟩)) := hd 3 (by kernel_rfl)
          clear hd
          obtain ⟨kk, hS⟩ := hk
          simp only [fillA, fillL, dstL, List.take_succ_cons, List.take_zero, List.filterMap_cons, List.filterMap_nil, List.contains_cons, List.contains_nil, Nat.reduceAdd, Nat.zero_add, Nat.reduceBEq, Bool.or_false, Bool.or_true, Bool.false_eq_true, ↓reduceIte]
          obtain ⟨u, hu, hor⟩ := hS.l2
          rw [e64]
          go_wp2_with fail
          exact ⟨by trivial, World.grownBy.refl _ _, hor⟩
        · refine bifF rfl (FreeStep.mk rfl fun vs W hk hd => ?_)
          have h65 : vs 65 = .slice an nn cn ∨ vs 65 = .slice an nn nn := hd 4 (by kernel_rfl)
          clear hd
          obtain ⟨kk, hS⟩ := hk
          simp only [fillA, fillL, dstL, List.take_succ_cons, List.take_zero, List.filterMap_cons, List.filterMap_nil, List.contains_cons, List.contains_nil, Nat.reduceAdd, Nat.zero_add, Nat.reduceBEq, Bool.or_false, Bool.or_true, Bool.false_eq_true, ↓reduceIte]
          obtain ⟨hsl, hcl⟩ := clp_or hS.all.n HNN.out h65
          go_wp2_with (go_at_call 91; refine (clipRW_any hsl).mono ?_; rintro e w3 ⟨rfl, rfl⟩; rw [hcl])
          exact ⟨by trivial, World.grownBy.refl _ _, rfl⟩
        · refine bifF rfl (FreeStep.mk rfl fun vs W hk hd => ?_)
          clear hd
          clear hk
          simp only [fillA, fillL, dstL, List.take_succ_cons, List.take_zero, List.filterMap_cons, List.filterMap_nil, List.contains_cons, List.contains_nil, Nat.reduceAdd, Nat.zero_add, Nat.reduceBEq, Bool.or_false, Bool.or_true, Bool.false_eq_true, ↓reduceIte]
          go_wp2_with fail
          exact ⟨by trivial, World.grownBy.refl _ _, rfl⟩
        · refine bifT rfl (LinkStep.mk rfl fun vs W hS hd => ?_)
          replace hS : ClpSta w9 ob WL.heap.size 22 31 (.slice a6 i i) (.slice ar nr cr) (.slice an nn cn) (.slice ar nr nr) (.slice an nn nn) (shoR p rows L i) (nodL p k L rows rows.length 0 rows.length) TR TN 0 W := hS
          have e67 : vs 67 = (.pointer (some ⟨ob, 1, none⟩)) := hd 6 (by kernel_rfl)
          have e63 : vs 63 = (.slice ar nr nr) := hd 2 (by kernel_rfl)
          clear hd
          simp only [fillA, fillL, dstL, List.take_succ_cons, List.take_zero, List.filterMap_cons, List.filterMap_nil, List.contains_cons, List.contains_nil, Nat.reduceAdd, Nat.zero_add, Nat.reduceBEq, Bool.or_false, Bool.or_true, Bool.false_eq_true, ↓reduceIte]
          have hS2 : ClpSta w9 ob WL.heap.size 22 31 (.slice a6 i i) (.slice ar nr cr) (.slice an nn cn) (.slice ar nr nr) (.slice an nn nn) _ _ _ _ 1 (W.setCell ⟨ob, 1, none⟩ (.slice ar nr nr)) := ⟨hS.1.set 1 _, hS.2.sto HOB.out 1 _⟩
          have k1 : W.cell? ⟨ob, 1, none⟩ = some (.slice ar nr cr) := hS.1.cell 1
          have z1 := hS.1.free 1
          rw [e67, e63]
          go_wp2_with fail
          first | exact ⟨by trivial, setCell_grown _ _ _ _, hS2, trivial⟩ | exact ⟨setCell_grown _ _ _ _, hS2, trivial⟩
        · refine bifF rfl (FreeStep.mk rfl fun vs W hk hd => ?_)
          clear hd
          clear hk
          simp only [fillA, fillL, dstL, List.take_succ_cons, List.take_zero, List.filterMap_cons, List.filterMap_nil, List.contains_cons, List.contains_nil, Nat.reduceAdd, Nat.zero_add, Nat.reduceBEq, Bool.or_false, Bool.or_true, Bool.false_eq_true, ↓reduceIte]
          go_wp2_with fail
          exact ⟨by trivial, World.grownBy.refl _ _, rfl⟩
        · refine bifT rfl (LinkStep.mk rfl fun vs W hS hd => ?_)
          replace hS : ClpSta w9 ob WL.heap.size 22 31 (.slice a6 i i) (.slice ar nr cr) (.slice an nn cn) (.slice ar nr nr) (.slice an nn nn) (shoR p rows L i) (nodL p k L rows rows.length 0 rows.length) TR TN 1 W := hS
          have e68 : vs 68 = (.pointer (some ⟨ob, 2, none⟩)) := hd 8 (by kernel_rfl)
          have e66 : vs 66 = (.slice an nn nn) := hd 5 (by kernel_rfl)
          clear hd
          simp only [fillA, fillL, dstL, List.take_succ_cons, List.take_zero, List.filterMap_cons, List.filterMap_nil, List.contains_cons, List.contains_nil, Nat.reduceAdd, Nat.zero_add, Nat.reduceBEq, Bool.or_false, Bool.or_true, Bool.false_eq_true, ↓reduceIte]
          have hS2 : ClpSta w9 ob WL.heap.size 22 31 (.slice a6 i i) (.slice ar nr cr) (.slice an nn cn) (.slice ar nr nr) (.slice an nn nn) _ _ _ _ 2 (W.setCell ⟨ob, 2, none⟩ (.slice an nn nn)) := ⟨hS.1.set 2 _, hS.2.sto HOB.out 2 _⟩
          have k1 : W.cell? ⟨ob, 2, none⟩ = some (.slice an nn cn) := hS.1.cell 2
          have z1 := hS.1.free 2
          rw [e68, e66]
          go_wp2_with fail
          first | exact ⟨by trivial, setCell_grown _ _ _ _, hS2, trivial⟩ | exact ⟨setCell_grown _ _ _ _, hS2, trivial⟩
      · intro vs w5 hall hS
        replace hS : ClpSta w9 ob WL.heap.size 22 31 (.slice a6 i i) (.slice ar nr cr) (.slice an nn cn) (.slice ar nr nr) (.slice an nn nn) (shoR p rows L i) (nodL p k L rows rows.length 0 rows.length) TR TN 2 w5 := hS
        have HB5 := Lib.hid hS.1; have HA5 := Lib.hid hS.2
        clear hall hS
        simp only [fillA, fillL, dstL, List.take_succ_cons, List.take_zero, List.filterMap_cons, List.filterMap_nil, List.contains_cons, List.contains_nil, Nat.reduceAdd, Nat.zero_add, Nat.reduceBEq, Bool.or_false, Bool.or_true, Bool.false_eq_true, ↓reduceIte]
        have HX5 := Lib.hid (HA5.out.t.ext HX9.out (by have := HW2.out; omega) (by have := HW2.out; omega))
        have HO6 := Lib.hid (HB6.out.ext HX5.out)
        have z0 : w5.cell? ⟨b6, 0, none⟩ = some (.slice none 0 0) := HO6.out.cell 0
        have z1 : w5.cell? ⟨b6, 1, none⟩ = some (.slice none 0 0) := HO6.out.cell 1
        have z2 : w5.cell? ⟨b6, 2, none⟩ = some (.slice none 0 0) := HO6.out.cell 2
        have y0 := HO6.out.free 0
        have y1 := HO6.out.free 1
        have y2 := HO6.out.free 2
        have k0 : w5.cell? ⟨ob, 0, none⟩ = some (.slice a6 i i) := HB5.out.cell 0
        have k1 : w5.cell? ⟨ob, 1, none⟩ = some (.slice ar nr nr) := HB5.out.cell 1
        have k2 : w5.cell? ⟨ob, 2, none⟩ = some (.slice an nn nn) := HB5.out.cell 2
        have hne6 : ¬ (b6 = ob) := by have := HW2.out; have := HB6.out.lt; omega
        have hne7 : ¬ (ob = b6) := fun e => hne6 e.symm
        go_upto_region 16 with (fail)
        have b7 := ((HO6.out.set 0 (.slice a6 i i)).set 1 (.slice ar nr nr)).set 2 (.slice an nn nn)
        have c0 : _ = some (Value.slice a6 i i) := b7.cell 0
        have c1 : _ = some (Value.slice ar nr nr) := b7.cell 1
        have c2 : _ = some (Value.slice an nn nn) := b7.cell 2
        have hb6 : b6 < WL.heap.size := by have := HB6.out.lt; have := HXL2.out.size; omega
        have i0 := (((HP9.out.grown (turn_same HA5.out.t) (fun q hq e => (H6.out q hq).1 (Option.some.inj e))).cell3 (fun q hq => (H6.out q hq).2.1) 0 (.slice a6 i i)).cell3 (fun q hq => (H6.out q hq).2.1) 1 (.slice ar nr nr)).cell3 (fun q hq => (H6.out q hq).2.1) 2 (.slice an nn nn)
        have i1 := (((HA5.out.r.cell3 hb6 0 (.slice a6 i i)).cell3 hb6 1 (.slice ar nr nr)).cell3 hb6 2 (.slice an nn nn)).clpN
        have i2 := (((HA5.out.n.cell3 hb6 0 (.slice a6 i i)).cell3 hb6 1 (.slice ar nr nr)).cell3 hb6 2 (.slice an nn nn)).clpN
        rw [HNR.out] at i1
        rw [HNN.out] at i2
        have hq := HQ.out
        have hx7 := ext_set (o := 2) (v := .slice an nn nn) (ext_set (o := 1) (v := .slice ar nr nr) (ext_set (o := 0) (v := .slice a6 i i) (HX0.out.trans HX5.out) (show w.heap.size ≤ b6 by omega)) (show w.heap.size ≤ b6 by omega)) (show w.heap.size ≤ b6 by omega)
        refine bodyPost_ret (v := .tuple #[.agg #[.slice a6 i i, .slice ar nr nr, .slice an nn nn], .nilIface]) (by simp [results, Tryz.results35, go_sem, c0, c1, c2]) rfl (.mk _ rfl hx7 ⟨_, _, _, rfl, ?_, fun q hq => (H6.out q hq).2.2, ?_, ?_⟩)
        · rw [HLE.out]; exact i0
        · rw [HLE.out, HM.out]; exact i1.base (Nat.le_trans HX0.out.size HXL2.out.size)
        · rw [HLE.out]; exact i2.base (Nat.le_trans HX0.out.size HXL2.out.size)
end
end Go.Proofs.YtfepefbehgbjpaaGreatDoor
