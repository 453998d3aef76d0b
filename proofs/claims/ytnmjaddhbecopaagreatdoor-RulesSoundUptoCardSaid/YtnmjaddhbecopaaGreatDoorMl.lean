/- The program's Run: contract. -/
import Derived.Maps.RangeWalk
import Derived.Test.YtnmjaddhbecopaaGreatDoorMb
import Derived.Test.YtnmjaddhbecopaaGreatDoorZx6
import Derived.Test.YtnmjaddhbecopaaGreatDoorZx14
import Derived.Test.YtnmjaddhbecopaaGreatDoorZx3
namespace Go.Att
open Go.RowKit Go.Maps
/-- What was collected of a map, as a function of what is still to come. -/
structure Coll (mem L : List (Int × Int)) (left : Lit → Bool) : Prop where
  nd : L.Pairwise (fun x y => x.1 ≠ y.1)
  iff : ∀ c, c ∈ L ↔ c ∈ mem ∧ c.1 ≠ 0 ∧ left (.int .i64 c.1) = false
theorem sameI (a b : Int) : (Lit.int .i64 a).sameKey (.int .i64 b) = decide (a = b) := by simp [Lit.sameKey]
section
variable {mem L : List (Int × Int)} {left : Lit → Bool}
theorem Coll.start {H : Type} {D : DataW H} (h : MemD D mem) (hu : Uq mem) : Coll mem [] (Maps.has D) :=
  ⟨.nil, fun c => by
    constructor
    · intro hc; cases hc
    · rintro ⟨h1, _, h3⟩
      rw [h.has, hu c h1] at h3; cases h3⟩
/-- What comes out of the map was told. -/
theorem MemD.out {H : Type} {D : DataW H} (h : MemD D mem) {x c : Int} (hat : ∀ zd, D.atKey (.int .i64 x) zd = .lit (.int .i64 c)) : lk mem x = some c := by
  have h1 := has_true_of_atKey hat
  rw [h.has] at h1
  cases hl : lk mem x with
  | none => rw [hl] at h1; cases h1
  | some v =>
    have h2 := h.at_ x v (.lit (.int .i64 c)) hl
    rw [hat] at h2
    injection h2 with h2
    injection h2 with _ h2
    rw [h2]
theorem Coll.step (h : Coll mem L left) (hu : Uq mem) {x c : Int} (hx : x ≠ 0) (hl : lk mem x = some c) (hlt : left (.int .i64 x) = true) : Coll mem (L ++ [(x, c)]) (fun z => left z && !z.sameKey (.int .i64 x)) := by
  refine ⟨?_, fun d => ?_⟩
  · rw [List.pairwise_append]
    refine ⟨h.nd, by simp, fun a ha b hb => ?_⟩
    rw [List.mem_singleton] at hb
    subst hb
    intro e
    have := ((h.iff a).1 ha).2.2
    rw [show a.1 = x from e, hlt] at this
    cases this
  · rw [List.mem_append, List.mem_singleton, h.iff]
    show _ ↔ d ∈ mem ∧ d.1 ≠ 0 ∧ (left (.int .i64 d.1) && !(Lit.int .i64 d.1).sameKey (.int .i64 x)) = false
    rw [sameI]
    constructor
    · rintro (⟨h1, h2, h3⟩ | rfl)
      · exact ⟨h1, h2, by rw [h3]; rfl⟩
      · exact ⟨lk_mem hl, hx, by simp⟩
    · rintro ⟨h1, h2, h3⟩
      by_cases e : d.1 = x
      · exact .inr (hu.one h1 (lk_mem hl) e)
      · exact .inl ⟨h1, h2, by simpa [e] using h3⟩
theorem Coll.skip (h : Coll mem L left) : Coll mem L (fun z => left z && !z.sameKey (.int .i64 0)) :=
  ⟨h.nd, fun d => by
    rw [h.iff]
    show _ ↔ d ∈ mem ∧ d.1 ≠ 0 ∧ (left (.int .i64 d.1) && !(Lit.int .i64 d.1).sameKey (.int .i64 0)) = false
    rw [sameI]
    constructor
    · rintro ⟨h1, h2, h3⟩; exact ⟨h1, h2, by rw [h3]; rfl⟩
    · rintro ⟨h1, h2, h3⟩; exact ⟨h1, h2, by simpa [h2] using h3⟩⟩
theorem Coll.len (h : Coll mem L left) : L.length ≤ mem.length := by
  have hn : L.Nodup := by
    refine List.Pairwise.imp ?_ h.nd
    intro a b hab e; subst e; exact hab rfl
  have hsub : ∀ c ∈ L, c ∈ mem := fun c hc => ((h.iff c).1 hc).1
  clear h
  induction L generalizing mem with
  | nil => simp
  | cons c t ih =>
    rw [List.nodup_cons] at hn
    have hc := hsub c (by simp)
    have := ih (mem := mem.erase c) hn.2 (fun d hd => (List.mem_erase_of_ne (fun e => hn.1 (by rw [← e]; exact hd))).2 (hsub d (by simp [hd])))
    rw [List.length_erase_of_mem hc] at this
    have := List.length_pos_of_mem hc
    simp; omega
/-- All was collected, and sorted. -/
theorem Coll.cells (h : Coll mem L left) (hl : ∀ kl, left kl = false) (hb : ∀ c ∈ mem, 0 ≤ c.1) {l : List (Int × Int)} (hp : l.Perm L) (hs : l.Pairwise (fun x y => x.1 ≤ y.1)) : CellsOf mem l := by
  have hne : l.Pairwise (fun x y => x.1 ≠ y.1) := (hp.pairwise_iff (fun {_ _} hne => Ne.symm hne)).2 h.nd
  refine ⟨?_, fun c => ?_⟩
  · refine List.Pairwise.imp ?_ (hs.and hne)
    rintro x y ⟨h1, h2⟩; omega
  · rw [hp.mem_iff, h.iff]
    constructor
    · rintro ⟨h1, h2, _⟩
      have := hb c h1
      exact ⟨h1, by omega⟩
    · rintro ⟨h1, h2⟩; exact ⟨h1, by omega, hl _⟩
end
end Go.Att
namespace Go.Proofs.YtnmjaddhbecopaaGreatDoor
open Go.RowKit Go.Att Go.Maps
/-- What the program's run comes to. -/
def PRan (w : World) (r : Rw) (e : Ending) (w' : World) : Prop :=
  match r with
  | .done l out mem => ∃ v L, e = .returned (.tuple #[.agg #[.int .i64 out, .int .i64 ((l.length : Int) - 1), v], .nilIface]) ∧ CellsOf mem L ∧ Prs w' v L ∧ Ext w w'
  | .no k => e = .returned (.tuple #[.agg #[.int .i64 0, .int .i64 0, .slice none 0 0], .iface 112 (.int .i64 k)]) ∧ Ext w w'
/-- The results of Run, as they lie. -/
theorem res_mrun {w : World} {rb : Nat} {x y : Int} {v u : Value} (h : BlkOf w rb [.int .i64 x, .int .i64 y, v] 98) (tmps : Array Value) (g : tmps.getD 6 undef = .pointer (some ⟨rb, 0, none⟩)) (g2 : tmps.getD 7 undef = u) :
    (results Tryz.f46 tmps).run Tryz.prog w = .ok (.tuple #[.agg #[.int .i64 x, .int .i64 y, v], u]) w := by
  have g' : tmps[6]?.getD undef = .pointer (some ⟨rb, 0, none⟩) := by simpa using g
  have g2' : tmps[7]?.getD undef = u := by simpa using g2
  have k0 : w.cell? ⟨rb, 0, none⟩ = some (.int .i64 x) := h.cell 0
  have k1 : w.cell? ⟨rb, 1, none⟩ = some (.int .i64 y) := h.cell 1
  have k2 : w.cell? ⟨rb, 2, none⟩ = some v := h.cell 2
  clear h
  simp [results, Tryz.results46, go_sem, g', g2', k0, k1, k2]
/-- A row of the call's own is no iterator. -/
theorem own_not_iter {H : Type} {w : World} {B e sz n m : Nat} {v : Value} {xs : List Value} {K : TypeId} {R : Value → Option (DataW H × List MemPlace)} {b r cnt : Nat} {D : DataW H} {left : Lit → Bool} (h : w.ownsRow B e sz v n xs) (hr : w.ranges Tryz.prog K R b r m D left cnt) : v.ownBlock ≠ some r := by
  obtain ⟨es, clock, since, seen, c0, _, _, _, _, hi, _⟩ := hr
  rcases h.2 with ⟨rfl, _⟩ | ⟨g, cap, cur, rfl, _, hg, _⟩
  · simp [Value.ownBlock]
  · intro e2
    simp [Value.ownBlock] at e2
    subst e2
    rw [hg] at hi; cases hi
theorem blk_not_iter {H : Type} {w : World} {m b q : Nat} {cs : List Value} {t : TypeId} {K : TypeId} {R : Value → Option (DataW H × List MemPlace)} {r cnt : Nat} {D : DataW H} {left : Lit → Bool} (h : BlkOf w q cs t) (hr : w.ranges Tryz.prog K R b r m D left cnt) : q ≠ r := by
  obtain ⟨es, clock, since, seen, c0, _, _, _, _, hi, _⟩ := hr
  intro e2
  subst e2
  unfold BlkOf at h
  rw [h] at hi; cases hi
theorem ext_of_none {w w' : World} (h : w.grownBy w' none) : Ext w w' := ⟨h.os, h.tape, h.output, h.size, fun i hi => h.block i hi (by simp)⟩
theorem flatP_snoc2 (L : List (Int × Int)) (x y : Int) : flatP (L ++ [(x, y)]) = flatP L ++ #[Value.int .i64 x, Value.int .i64 y].toList := by simp [flatP]
/-- A cell more is told. -/
theorem mran_app {H : Type} {w1 W w8 : World} {qb N mb rb c cnt : Nat} {D : DataW H} {left : Lit → Bool} {K : TypeId} {R : Value → Option (DataW H × List MemPlace)} {x y v v8 : Value} {xs ys : List Value} (hqe : w1.heap.size = qb) (hmb : mb < qb) (hq : BlkOf W qb [x, y, v] 98) (ho : W.ownsRow qb 193 2 v N xs) (hx : Ext w1 W) (hr : W.ranges Tryz.prog K R mb rb c D left cnt) (hg : W.grownBy w8 v.ownBlock) (ho8 : w8.ownsRow qb 193 2 v8 (N + 1) ys) :
    BlkOf (w8.setCell ⟨qb, 2, none⟩ v8) qb [x, y, v8] 98 ∧ (w8.setCell ⟨qb, 2, none⟩ v8).ownsRow qb 193 2 v8 (N + 1) ys ∧ Ext w1 (w8.setCell ⟨qb, 2, none⟩ v8) ∧ (w8.setCell ⟨qb, 2, none⟩ v8).ranges Tryz.prog K R mb rb c D left cnt := by
  subst hqe
  have hnb := own_not_blk ho hq (by decide)
  have hq8 := hq.grown hg (fun e => hnb e.symm)
  have hx8 := Ext.own_grown hx ho hg
  have hnb8 := own_not_blk ho8 hq8 (by decide)
  have hne := blk_not_iter hq hr
  refine ⟨hq8.set 2 v8, (Turned.one (c := w1.heap.size) (setCell_grown _ _ _ _)).own ho8 hnb8 hnb8, hx8.below.setCell (Nat.le_refl _) _, ?_⟩
  refine (hr.kept hg (fun e => ?_) (fun e => own_not_iter ho hr e.symm)).kept (setCell_grown w8 w1.heap.size 2 v8) (fun e => by have := Option.some.inj e; omega) (fun e => hne (Option.some.inj e).symm)
  have := (ho.lt mb e.symm).1
  omega
section
variable {w : World} {p g : Int} {fs : List Int} {sz : Int} {lv : Value} {cd : List In4} {lim : Int}
set_option maxRecDepth 100000 in
set_option maxHeartbeats 8000000 in
theorem prun_any {f : Value} (hf : Fld w f p g fs) (hc : Inqs w lv cd) : Calls Tryz.prog 46 #[f, .agg #[.int .i64 sz, lv], .int .i64 lim] w (PRan w (walkM p sz cd lim)) := by
  obtain ⟨ao, cap, rfl⟩ := hc.shape
  have hp2 := hf.two
  obtain ⟨W, hW, hbk, hbr, hx⟩ := two_boxes w [.int .i64 sz, .slice ao cd.length cap] [.int .i64 0, .int .i64 0, .slice none 0 0] 48 98
  have HX0 := Lib.hid hx; have HBK := Lib.hid hbk; have HBR := Lib.hid hbr; have HW := Lib.hid hW
  have HF := Lib.hid (hf.ext hx); have HC := Lib.hid (hc.ext hx)
  clear hf hc hx hbk hbr hW
  go_enter Tryz.func46, Tryz.ntmps46
  go_upto_region 1 with (fail)
  rw [show ((w.alloc (Obj.cells #[.int .i64 sz, .slice ao cd.length cap] 48)).alloc (Obj.cells #[.int .i64 0, .int .i64 0, .slice none 0 0] 98)) = W from HW.out]
  obtain ⟨k2, hk2⟩ : ∃ k, k = w.heap.size + 1 := ⟨_, rfl⟩
  rw [← hk2] at HBR ⊢
  have HK2 := Lib.hid hk2
  generalize hk1 : w.heap.size = k1 at *
  have HK1 := Lib.hid hk1
  clear hk1 hk2 HW
  have e0 : W.cell? ⟨k1, 0, none⟩ = some (.int .i64 sz) := HBK.out.cell 0
  have e1 : W.cell? ⟨k1, 1, none⟩ = some (.slice ao cd.length cap) := HBK.out.cell 1
  go_wp2_with fail
  refine (mbegun_any (sz := sz) (lim := lim) HF.out HC.out).mono ?_
  intro e w1 h1
  clear e0 e1
  cases hR : walkM p sz cd lim with
  | no k =>
    rw [hR] at h1
    obtain ⟨rfl, hx1⟩ := h1
    have HX1 := Lib.hid (HX0.out.trans hx1); have HRR := Lib.hid hR
    have HB1 := Lib.hid (HBR.out.ext hx1)
    clear hx1 hR HX0 HBR HBK
    have c0 : w1.cell? ⟨k2, 0, none⟩ = some (.int .i64 0) := HB1.out.cell 0
    have c1 : w1.cell? ⟨k2, 1, none⟩ = some (.int .i64 0) := HB1.out.cell 1
    have c2 : w1.cell? ⟨k2, 2, none⟩ = some (.slice none 0 0) := HB1.out.cell 2
    have f0 := HB1.out.free 0
    have f1 := HB1.out.free 1
    have f2 := HB1.out.free 2
    go_wp2_with fail
    have hb : w.heap.size ≤ k2 := by have := HK1.out; have := HK2.out; omega
    have hbl := ((HB1.out.set 0 (.int .i64 0)).set 1 (.int .i64 0)).set 2 (.slice none 0 0)
    refine bodyPost_ret (v := .tuple #[.agg #[.int .i64 0, .int .i64 0, .slice none 0 0], .iface 112 (.int .i64 k)]) (res_mrun hbl _ rfl rfl) rfl ?_
    rw [HRR.out]
    exact ⟨rfl, ((HX1.out.below.setCell hb _).setCell hb _).setCell hb _⟩
  | done l out mem =>
    obtain ⟨hen, hl0, hl1⟩ := walkM_ended hp2 hR
    obtain ⟨hms, hbd, huq, -⟩ := hen
    rw [hR] at h1
    obtain ⟨b, mb, cs, sv, nn, rfl, c3, c15, c16, hb, hm, hmb, hl1, hl2, hb1, hb2, ho, hx1⟩ := h1
    have hmm : mem.length ≤ 50000 := by omega
    have HX1 := Lib.hid (HX0.out.trans hx1); have HRR := Lib.hid hR; have HBD := Lib.hid hbd; have HUQ := Lib.hid huq; have HMM := Lib.hid hmm
    have HB1 := Lib.hid (HBR.out.ext hx1)
    have HM := Lib.hid hm
    have hk2 : k2 < w1.heap.size := HB1.out.lt
    have HMB := Lib.hid hb2
    clear hx1 hR HX0 HBR HBK hb hm hmb hms hbd huq ho c15 hl0 hl1 hl2 hmm hb1 hb2
    go_upto_region 5 with (fail)
    obtain ⟨c, D, -, hown, hd⟩ := HM.out
    have HXQ := Lib.hid (Ext.alloc w1 (Obj.cells #[.int .i64 out, .int .i64 ((l.length : Int) - 1), .slice none 0 0] 98))
    have HQ := Lib.hid (BlkOf.new w1 [.int .i64 out, .int .i64 ((l.length : Int) - 1), .slice none 0 0] 98)
    have HOW := Lib.hid (hown.alloc (Obj.cells #[.int .i64 out, .int .i64 ((l.length : Int) - 1), .slice none 0 0] 98))
    have HMQ := Lib.hid hown.lt
    have HCO := Lib.hid (Coll.start hd HUQ.out)
    have HMD := Lib.hid hd
    have k3 := HXQ.out.cell c3
    have HOB := Lib.hid (World.ownsRow_nil w1 w1.heap.size 193 2)
    clear hown hd HM c3 c16
    generalize hn0 : (l.length : Int) - 1 = n0 at *
    have HLN := Lib.hid hn0
    clear hn0
    generalize w1.alloc (Obj.cells #[.int .i64 out, .int .i64 n0, .slice none 0 0] 98) = W2 at *
    generalize hqb : w1.heap.size = qb at *
    have HQE := Lib.hid hqb
    clear hqb
    go_wp2_with (at_range; refine wpList_range_own _ rfl _ 187 rfl 3 3 (int_keyed Tryz.underlying3) Tryz.underlying187 _ mb c D rfl HOW.out ?_; intro w0 hrg0 hg0 hs0)
    go_frame
    have HRG0 := Lib.hid hrg0; have HG0 := Lib.hid hg0
    have hqr : qb < W2.heap.size := HQ.out.lt
    have hkr : k2 < W2.heap.size := by have := HXQ.out.size; have := HQE.out; omega
    clear hrg0 hg0 hs0 k3 HOW
    generalize W2.heap.size = rb at *
    have H2r := Lib.hid hqr; have HKR := Lib.hid hkr
    clear hqr hkr
    have HT0 : Hid (Turned rb rb W2 w0) := Lib.hid (Turned.one (HG0.out.but _))
    go_loopw [12] (fun _ wr => ∃ (L : List (Int × Int)) (left : Lit → Bool) (cnt : Nat) (v : Value), Hid (wr.ranges Tryz.prog 3 (plainElem Tryz.prog 3) mb rb c D left cnt) ∧ Hid (Coll mem L left) ∧ Hid (BlkOf wr qb [.int .i64 out, .int .i64 n0, v] 98) ∧ Hid (wr.ownsRow qb 193 2 v L.length (flatP L)) ∧ Hid (Ext w1 wr)) (fun _ wr => wr.rangeLeft mb rb)
    case atStart => exact ⟨[], _, _, .slice none 0 0, HRG0, HCO, Lib.hid (HQ.out.grown HG0.out (by simp)), Lib.hid (World.ownsRow_nil _ _ _ _), Lib.hid (HXQ.out.trans (ext_of_none HG0.out))⟩
    case round =>
      clear HRG0 HCO HQ HOB HXQ HT0 HG0
      obtain ⟨L, left, cnt, v, HRG, HCO, HQ, HO, HE⟩ := hrel
      obtain ⟨va, vc, rfl⟩ := own_shape HO.out
      have q2 : wr.cell? ⟨qb, 2, none⟩ = some (.slice va L.length vc) := HQ.out.cell 2
      go_wp2_with (at_next; refine wpList_next_ranges_ii _ rfl _ rfl 3 3 .i64 .i64 (int_keyed Tryz.underlying3) Tryz.underlying3 Tryz.underlying3 mb rb c D left cnt rfl HRG.out ?_ ?_)
      · intro _ hl0
        have HCL := Lib.hid hl0
        clear hl0
        have hlen : L.length ≤ 4611686018427387903 := by have := HCO.out.len; have := HMM.out; omega
        have HNB := Lib.hid (own_not_blk HO.out HQ.out (by decide))
        have HB3 := Lib.hid (HB1.out.ext HE.out)
        have HN3 := Lib.hid (own_not_blk HO.out HB3.out (by decide))
        go_wp2_with fail
        refine (sortCell_any HO.out hlen).mono ?_
        rintro e w3 ⟨rfl, hg3, l', hp, hs, hv'⟩
        have HV3 := Lib.hid hv'; have HQ3 := Lib.hid (HQ.out.grown hg3 (fun e => HNB.out e.symm)); have HB4 := Lib.hid (HB3.out.grown hg3 (fun e => HN3.out e.symm))
        have HCE := Lib.hid (HCO.out.cells HCL.out (fun c hc => (HBD.out c hc).1.1) hp hs)
        have HX3 := Lib.hid (HX1.out.trans (Ext.own_grown HE.out (by rw [HQE.out]; exact HO.out) hg3))
        clear hv' hg3 hp hs q2
        have q2 : w3.cell? ⟨qb, 2, none⟩ = some (.slice va L.length vc) := HQ3.out.cell 2
        have f2 := HQ3.out.free 2
        go_upto_region 12 with (go_at_call 118; refine (clipC_any HV3.out).mono ?_; rintro e w4 ⟨rfl, u, rfl, hu, huo⟩; obtain ⟨au, cu, rfl⟩ := prs_shape hu; have HU := Lib.hid hu; have HUO := Lib.hid huo; clear hu huo)
        have hkq : k2 < qb := by have := HB1.out.lt; have := HQE.out; omega
        have hs4 := setCell_grown w3 qb 2 (.slice au l'.length cu)
        have hn1 : ∀ k, (Value.slice au l'.length cu).ownBlock = some k → some k ≠ some qb := fun k hk e => HNB.out (by rw [← HUO.out, hk, e])
        have hn2 : ∀ k, (Value.slice au l'.length cu).ownBlock = some k → some k ≠ some k2 := fun k hk e => HN3.out (by rw [← HUO.out, hk, e])
        have HQ4 := Lib.hid (HQ3.out.set 2 (.slice au l'.length cu))
        have HB5 := Lib.hid (HB4.out.grown hs4 (fun e => by have := Option.some.inj e; omega))
        have HU4 := Lib.hid (Sl.grown HU.out hs4 hn1)
        have hb : w.heap.size ≤ k2 := by have := HK1.out; have := HK2.out; omega
        have HX4 := Lib.hid (HX3.out.below.setCell (show w.heap.size ≤ qb by omega) (.slice au l'.length cu) (p := ⟨qb, 2, none⟩))
        clear q2 f2 hs4 hn1
        revert HQ4 HB5 HU4 HX4
        generalize World.setCell w3 ⟨qb, 2, none⟩ _ = W4
        intro HQ4 HB5 HU4 HX4
        have q0 : W4.cell? ⟨qb, 0, none⟩ = some (.int .i64 out) := HQ4.out.cell 0
        have q1 : W4.cell? ⟨qb, 1, none⟩ = some (.int .i64 n0) := HQ4.out.cell 1
        have q2 : W4.cell? ⟨qb, 2, none⟩ = some (.slice au l'.length cu) := HQ4.out.cell 2
        have c0 : W4.cell? ⟨k2, 0, none⟩ = some (.int .i64 0) := HB5.out.cell 0
        have c1 : W4.cell? ⟨k2, 1, none⟩ = some (.int .i64 0) := HB5.out.cell 1
        have c2 : W4.cell? ⟨k2, 2, none⟩ = some (.slice none 0 0) := HB5.out.cell 2
        have f0 := HB5.out.free 0
        have f1 := HB5.out.free 1
        have f2 := HB5.out.free 2
        clear hkq
        go_wp2_with fail
        have hbl := ((HB5.out.set 0 (.int .i64 out)).set 1 (.int .i64 n0)).set 2 (.slice au l'.length cu)
        have hgr := grown_one (grown_one (setCell_grown W4 k2 0 (.int .i64 out)) (setCell_grown _ k2 1 (.int .i64 n0))) (setCell_grown _ k2 2 (.slice au l'.length cu))
        refine bodyPost_ret (v := .tuple #[.agg #[.int .i64 out, .int .i64 n0, .slice au l'.length cu], .nilIface]) (res_mrun hbl _ rfl rfl) rfl ?_
        rw [HRR.out]
        exact ⟨_, l', by rw [HLN.out], HCE.out, Sl.grown HU4.out hgr hn2, ((HX4.out.setCell hb _).setCell hb _).setCell hb _⟩
      · intro x y w2 cnt1 hwx hwc hlx hat hrg1 hlt hg1 hs1 hen
        have HL := Lib.hid (HMD.out.out hat)
        have HRG1 := Lib.hid hrg1; have HLT := Lib.hid hlt; have HLX := Lib.hid hlx
        have hrb : w1.heap.size ≤ rb := by have := HQE.out; have := H2r.out; omega
        have hne := blk_not_iter HQ.out HRG.out
        have hno := own_not_iter HO.out HRG.out
        have HQ2 := Lib.hid (HQ.out.grown hg1 (fun e => hne (Option.some.inj e)))
        have HO2 := Lib.hid ((Turned.one (c := rb) hg1).own HO.out hno hno)
        have HE2 := Lib.hid ((Turned.one (c := rb) hg1).ext HE.out hrb hrb)
        clear hlx hat hrg1 hlt hg1 hs1 hrb hne hno q2 hwx hwc
        have q2 : w2.cell? ⟨qb, 2, none⟩ = some (.slice va L.length vc) := HQ2.out.cell 2
        by_cases hx0 : x = 0
        · subst hx0
          clear q2
          go_wp2_with fail
          go_roundw
          case rel => exact ⟨L, _, cnt1, _, HRG1, Lib.hid HCO.out.skip, HQ2, HO2, HE2⟩
          case measure => rw [HRG1.out.left_eq, HRG.out.left_eq]; exact HLT.out
        · have hxb : (x != 0) = true := by rw [bne_iff_ne]; exact hx0
          have HCN := Lib.hid (HCO.out.step HUQ.out hx0 HL.out HLX.out)
          have hlen : L.length + 1 ≤ 4294967296 := by have := HCO.out.len; have := HMM.out; omega
          have hbase : qb ≤ w2.heap.size := by have := HE2.out.size; have := HQE.out; omega
          clear hx0
          go_wp2_with (at_builtin; refine wpList_appNw rfl _ _ 96 rfl slCell rfl hbase HO2.out rfl #[.int .i64 x, .int .i64 y] rfl (by intro u hu; simp at hu; rcases hu with rfl | rfl <;> rfl) rfl hlen (by omega) ?_; intro v8 w8 HO8 HG8 HM8; obtain ⟨av, cv8, rfl⟩ := own_shape HO8; have HGx := Lib.hid HG8; have HOx := Lib.hid HO8; have hb8 := HQ2.out.grown HG8 (fun e => own_not_blk HO2.out HQ2.out (by decide) e.symm); have l15 : w8.cell? ⟨qb, 2, none⟩ = some (.slice va L.length vc) := hb8.cell 2; have q15 := hb8.free 2; clear hb8 HG8 HO8 HM8 q2)
          obtain ⟨n1, n2, n3, n4⟩ := mran_app HQE.out (by have := HMQ.out; have := HQE.out; omega) HQ2.out HO2.out HE2.out HRG1.out HGx.out HOx.out
          have HQ9 := Lib.hid n1; have HO9 := Lib.hid n2; have HE9 := Lib.hid n3; have HR9 := Lib.hid n4
          clear n1 n2 n3 n4
          go_roundw
          case rel => exact ⟨L ++ [(x, y)], _, cnt1, _, HR9, HCN, HQ9, Lib.hid (by rw [flatP_snoc2, List.length_append]; exact HO9.out), HE9⟩
          case measure => rw [HR9.out.left_eq, HRG.out.left_eq]; exact HLT.out
end
end Go.Proofs.YtnmjaddhbecopaaGreatDoor
