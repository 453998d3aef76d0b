/- A table's rows, the program's side: contract. -/
import Derived.Test.YtcpnidomdkaefaaGreatDoorJh
import Derived.Test.YtcpnidomdkaefaaGreatDoorGr
import Derived.Test.YtcpnidomdkaefaaGreatDoorSx
namespace Go.Att
open Go.RowKit
/-- The rows that came so far. -/
def prL (p : Int) (l : List Int) (M : Nat) {C : Nat} (pre : List (Fin C)) : List (List Int) := pre.map fun i => ((l.drop (i.1 * M)).take M).map (fof p)
theorem prL_snoc (p : Int) (l : List Int) (M : Nat) {C : Nat} (pre : List (Fin C)) (i : Fin C) : prL p l M (pre ++ [i]) = prL p l M pre ++ [((l.drop (i.1 * M)).take M).map (fof p)] := by simp [prL]
theorem prL_length (p : Int) (l : List Int) (M : Nat) {C : Nat} (pre : List (Fin C)) : (prL p l M pre).length = pre.length := by simp [prL]
theorem prL_upF (p : Int) (l : List Int) (M C : Nat) : ∀ (j : Nat) (h : j ≤ C), prL p l M (upF C j h) = (List.range j).map fun i => ((l.drop (i * M)).take M).map (fof p)
  | 0, _ => rfl
  | j + 1, h => by rw [upF, prL_snoc, prL_upF p l M C j, List.range_succ, List.map_append]; rfl
theorem rowsL_map (p : Int) (l : List Int) (M C : Nat) : ((List.range C).map fun i => ((l.drop (i * M)).take M).map (fof p)) = rowsL (l.map (fof p)) M C := by
  unfold rowsL
  refine List.map_congr_left fun i _ => ?_
  rw [List.map_take, List.map_drop]
section
variable {w w' : World} {row : Option Nat}
/-- A block with cells is none of the walk's own. -/
theorem nc_ne (hr : ∀ r, row = some r → ∃ o : Obj, w.heap[r]? = some o ∧ o.isCells = false) {b off : Nat} {v : Value} (hc : w.cell? ⟨b, off, none⟩ = some v) : some b ≠ row := by
  intro e
  obtain ⟨o, ho, hn⟩ := hr b e.symm
  unfold World.cell? at hc
  rw [ho] at hc
  cases o <;> simp_all [Obj.isCells]
theorem ints_nc (hg : w.grownBy w' row) (hr : ∀ r, row = some r → ∃ o : Obj, w.heap[r]? = some o ∧ o.isCells = false) {v : Value} {l : List Int} (h : Ints w v l) : Ints w' v l := by
  obtain ⟨ao, cap, rfl, h2, h3, h4, h5⟩ := h
  refine ⟨ao, cap, rfl, h2, h3, h4, fun i hi => ?_⟩
  obtain ⟨q, off, rfl, hc⟩ := h5 i hi
  exact ⟨q, off, rfl, hg.cell hc (nc_ne hr hc)⟩
theorem own_nc (hg : w.grownBy w' row) (hr : ∀ r, row = some r → ∃ o : Obj, w.heap[r]? = some o ∧ o.isCells = false) {B e sz n : Nat} {v : Value} {xs : List Value} (h : w.ownsRow B e sz v n xs) : w'.ownsRow B e sz v n xs := by
  refine row_grown h hg fun k hk e1 => ?_
  obtain ⟨o, ho, hn⟩ := hr k e1.symm
  rcases h.2 with ⟨rfl, _⟩ | ⟨g, cap, cur, rfl, _, hgg, _⟩
  · cases hk
  · obtain rfl : g = k := Option.some.inj hk
    rw [hgg] at ho
    cases ho
    simp [Obj.isCells] at hn
theorem own_cells {B e sz n : Nat} {v : Value} {xs : List Value} (h : w.ownsRow B e sz v n xs) : ∀ j o, v.ownBlock = some j → w.heap[j]? = some o → o.isCells = true := by
  intro k o hk ho
  rcases h.2 with ⟨rfl, _⟩ | ⟨g, cap, cur, rfl, _, hgg, _⟩
  · cases hk
  · obtain rfl : g = k := Option.some.inj hk
    rw [hgg] at ho
    cases ho
    rfl
theorem Grid.nc {B e : Nat} {v : Value} {L : List (List Int)} {R : Nat → Value} (h : Grid B w e v L R) (hg : w.grownBy w' row) (hr : ∀ r, row = some r → ∃ o : Obj, w.heap[r]? = some o ∧ o.isCells = false) : Grid B w' e v L R :=
  ⟨own_nc hg hr h.own, fun i hi => ints_nc hg hr (h.row i hi), fun i hi k hk => ⟨(h.lt i hi k hk).1, Nat.lt_of_lt_of_le (h.lt i hi k hk).2.1 hg.size, (h.lt i hi k hk).2.2⟩⟩
end
section
variable {F : Fence} {fn : Nat} {P : Program} {ops : Array Oper} {rest : List Oper} {o : Oper} {a : Act} {Q : Exit → Act → World → Prop}
/-- 'append(s, x)' onto a slice of the call's own, x one element, just boxed; where the result lies; within a round. -/
theorem wpListIn_appNw {W : World} (hgd : o.guard = none) (s x : Operand) (t : TypeId)
    (ho : o.op = .call { callee := .builtin .append, args := #[s, x], argTypes := #[t, t] })
    {e sz bytes : Nat} {z : Value} (ht : SlT P t e sz bytes z) (hz : z.cells.size = sz) {B : Nat} (hx0 : B ≤ W.heap.size) {v : Value} {n : Nat} {xs : List Value} (hown : W.ownsRow B e sz v n xs)
    (hs : a.eval s = v) (us : Array Value) (hl : us.toList.length = sz) (hu : ∀ u ∈ us.toList, u.oneCell' = true) (hx : a.eval x = .slice (some ⟨W.heap.size, 0, none⟩) 1 1) (h63 : n + 1 ≤ 4294967296) (hby : bytes ≤ 4096)
    (h : ∀ v' w', w'.ownsRow B e sz v' (n + 1) (xs ++ us.toList) → W.grownBy w' v.ownBlock → Moved W v v' → wpListIn F fn P ops Q rest (a.put o.dst v') w') : wpListIn F fn P ops Q (o :: rest) a (W.alloc (.cells us e)) := by
  obtain ⟨i, hi, hiz, his, hib⟩ := ht.inf
  have hB : (n + 1) * bytes ≤ 4294967296 * 4096 := Nat.mul_le_mul h63 hby
  have hcell : ∀ j u, us.toList[j]? = some u → (W.alloc (.cells us e)).cell? ((⟨W.heap.size, 0, none⟩ : Addr).add j) = some u := by
    intro j y hy
    rw [Addr.add_lit, Nat.zero_add]
    simpa using hy
  have hown' := hown.alloc (.cells us e)
  obtain ⟨v', w', hr, h2, h3, h4⟩ := run_append_own (P := P) (W.alloc (.cells us e)) B t o.type e i z sz bytes ht.und hi hiz his hib hz ht.pos v n xs hown' ⟨W.heap.size, 0, none⟩ 1 1 us.toList (by rw [hl, Nat.one_mul]) hcell hu (by unfold maxLen; omega) (by omega) (by simp; omega)
  subst his; subst hib
  have hw := append_where (P := P) ht.und hi hiz hown' (m := 1) (c := 1) (by rw [hl, Nat.one_mul]) hcell hu (by unfold maxLen; omega) (by omega) hr
  have hg : W.grownBy w' v.ownBlock := ⟨h3.os, h3.tape, h3.output, by have := h3.size; simp at this; omega, fun k hk hne => by
      rw [h3.block k (by simp; omega) hne]; exact heap_alloc_old W _ hk⟩
  have hmv : Moved W v v' := by
    rcases hw with hw | hw
    · exact .inl hw
    · refine .inr fun k hk => ?_
      rw [hw] at hk
      have := Option.some.inj hk
      simp at this; omega
  refine wpListIn_plain hgd fun K hK => ?_
  unfold Oper.wpIn
  refine ⟨?_, ?_⟩
  · simp [Oper.about, ho, resolve, Target.leads, Sem.run_pure]
  · rw [Oper.semAt_plain F _ _ (by rw [ho]; intro c hc'; cases hc')]
    simp [execOp, ho, resolve, invoke, builtin, hs, hx, hr, Result.andThen]
    exact hK _ _ (h v' w' h2 hg hmv)
end
end Go.Att
namespace Go.Proofs.YtcpnidomdkaefaaGreatDoor
open Go.RowKit Go.Att Go.Shelf
attribute [local go_sem] Oper.semAt_some
section
variable {w : World}
set_option maxRecDepth 100000 in
set_option maxHeartbeats 8000000 in
theorem prows_any {s d : Value} {bf : Nat} {p g0 : Int} {fs : List Int} {a c : Nat} (hs : ShpOf w s (.pointer (some ⟨bf, 0, none⟩)) d a c) (hf : Fld w (.pointer (some ⟨bf, 0, none⟩)) p g0 fs) (hc6 : c ≤ 6) {v : Value} {l : List Int} (hv : Ints w v l) (C : Nat) (hl : l.length = C * 2 ^ c) (hC : l.length ≤ 4096) :
    Calls Tryz.prog 68 #[s, v] w (Gives w fun u w' => Rws w' u (rowsL (l.map (fof p)) (2 ^ c) C)) := by
  obtain ⟨sb, rfl, s0, -, -, s3⟩ := hs
  obtain ⟨N, hN⟩ : ∃ N, l.length = N := ⟨_, rfl⟩
  obtain ⟨a1, c1, hv1⟩ := hv.shape
  rw [hN] at hv1 hl hC
  subst hv1
  have hwr : wrap64 (2 ^ c) = ((2 ^ c : Nat) : Int) := by
    have hc7 : c = 0 ∨ c = 1 ∨ c = 2 ∨ c = 3 ∨ c = 4 ∨ c = 5 ∨ c = 6 := by omega
    rcases hc7 with rfl | rfl | rfl | rfl | rfl | rfl | rfl <;> first | decide | (simp [wrap64]; done) | kernel_rfl
  have hM1 : 1 ≤ 2 ^ c := Nat.one_le_two_pow
  obtain ⟨M, hM⟩ : ∃ M, 2 ^ c = M := ⟨_, rfl⟩
  rw [hM] at hwr hM1 hl
  rw [hM]
  clear hM
  have HV := Lib.hid hv; have HF := Lib.hid hf; have HS0 := Lib.hid s0; have HN := Lib.hid hN; have HLC := Lib.hid hl; have HM1 := Lib.hid hM1
  obtain ⟨W0, hW0⟩ : ∃ W0, W0 = (w.alloc (Obj.cells #[.pointer (some ⟨sb, 0, none⟩)] 78)).alloc (Obj.cells #[.slice none 0 0] 23) := ⟨_, rfl⟩
  have hX : Ext w W0 := by rw [hW0]; exact (Ext.alloc w _).trans (Ext.alloc _ _)
  have k0 : W0.cell? ⟨w.heap.size, 0, none⟩ = some (.pointer (some ⟨sb, 0, none⟩)) := by rw [hW0]; exact (Ext.alloc _ _).cell (cell_new w #[.pointer (some ⟨sb, 0, none⟩)] 78 0)
  have k1 : BlkOf W0 (w.heap.size + 1) [.slice none 0 0] 23 := by rw [hW0]; have := BlkOf.new (w.alloc (Obj.cells #[.pointer (some ⟨sb, 0, none⟩)] 78)) [.slice none 0 0] 23; rw [World.size_alloc] at this; exact this
  have hs0 : W0.heap.size = w.heap.size + 2 := by rw [hW0]; simp
  have HX0 := Lib.hid hX; have K0 := Lib.hid k0; have K1 := Lib.hid k1; have HSZ0 := Lib.hid hs0; have HW0 := Lib.hid hW0
  have k3 := hX.cell s3
  rw [hW0] at k3
  clear hX k0 k1 hv hf s0 hs0 hW0 hN hl hM1
  refine (callsIn_wide (n := 3)).1 ?_
  refine callsIn_of_wp_marks Tryz.func68 rfl trivial ?_ rfl
  simp only [Tryz.ntmps68, List.size_toArray, List.length_cons, List.length_nil, Nat.reduceAdd, Nat.reduceSub, Array.replicate_succ, Array.replicate_zero, List.push_toArray, List.append_toArray, List.nil_append, List.cons_append]
  gi_wp2_with (refine ⟨trivial, ?_⟩; gi_at_call 63; refine (callsIn_wide.2 (chunk_any a1 N c1 M HM1.out _)).mono ?_; rintro e w2 ⟨rfl, hw2⟩; have HW2 := Lib.hid hw2; clear hw2)
  have hw2 := HW2.out
  rw [← HW0.out] at hw2
  rw [show w.heap.size + 1 + 1 = W0.heap.size by have := HSZ0.out; omega]
  have hx2 : Ext W0 w2 := by rw [hw2]; exact (Ext.alloc _ _).trans (Ext.alloc _ _)
  have hB0 : w2.cell? ⟨W0.heap.size, 0, none⟩ = some (.slice a1 N c1) := by rw [hw2]; exact (Ext.alloc _ _).cell (cell_new W0 #[.slice a1 N c1] _ 0)
  have hB1 : w2.cell? ⟨W0.heap.size + 1, 0, none⟩ = some (.int .i64 M) := by rw [hw2]; have := cell_new (W0.alloc (.cells #[.slice a1 N c1] 22)) #[.int .i64 M] 3 0; rw [World.size_alloc] at this; exact this
  have hs2 : w2.heap.size = W0.heap.size + 2 := by rw [hw2]; simp
  have hs1 := HSZ0.out
  clear hw2 HW2 HW0 k3
  have HXX := Lib.hid (HX0.out.trans hx2)
  refine wpIn_rangeFunc_ownF rfl (by omega) (gf := 117) (lb := #[.pointer (some ⟨W0.heap.size, 0, none⟩), .pointer (some ⟨W0.heap.size + 1, 0, none⟩)]) rfl trivial (enters_of Tryz.func117 (by kernel_rfl) rfl)
    (chunk_stops W0.heap.size M C (.slice a1 N c1) l HM1.out (HN.out.trans HLC.out) (by rw [HN.out]; omega) hB0 hB1 (HV.out.ext HXX.out) (3 - 1) (by omega)) (fun h k => KpC.trans h k) (KpC.putObj (by omega)) (Below.refl _ _) (fun _ => rfl)
    (fun pre W => W.cell? ⟨w.heap.size, 0, none⟩ = some (.pointer (some ⟨sb, 0, none⟩)) ∧ (∃ vo R, BlkOf W (w.heap.size + 1) [vo] 23 ∧ Grid w2.heap.size W 22 vo (prL p l M pre) R) ∧ Ext w W ∧ w2.heap.size ≤ W.heap.size)
    (fun _ _ _ => False)
    ?own
    (fun _ _ _ _ _ hs _ _ => hs)
    ⟨hx2.cell K0.out, ⟨_, fun _ => .slice none 0 0, K1.out.ext hx2, Grid.nil _ _ _ _⟩, HXX.out, Nat.le_refl _⟩
    (fun x => { tmps := #[.pointer (some ⟨sb, 0, none⟩), .slice a1 N c1, .pointer (some ⟨w.heap.size, 0, none⟩), undef, .slice none 0 0, .pointer (some ⟨w.heap.size + 1, 0, none⟩), cutV (.slice a1 N c1) (x.1 * M) (x.1 * M + M), undef, undef, undef, .slice a1 N c1, .pointer (some ⟨sb, 0, none⟩), .pointer (some ⟨sb, 0, none⟩), .pointer (some ⟨sb, 3, none⟩), .int .i64 c, .int .i64 M, .func (.func 117) #[] #[.pointer (some ⟨W0.heap.size, 0, none⟩), .pointer (some ⟨W0.heap.size + 1, 0, none⟩)], cutV (.slice a1 N c1) (x.1 * M) (x.1 * M + M), undef, undef, undef, undef, undef, undef, undef, undef, undef, undef, undef, undef, undef, undef, undef, undef, undef, undef, undef, undef, undef], defers := [] }) ?assign ?body ?done ?stop
  case own =>
    rintro pre A B row ⟨h1, ⟨vo, R, h2, h3⟩, h5, h6⟩ hg hr
    have hnc : ∀ r, row = some r → ∃ o : Obj, A.heap[r]? = some o ∧ o.isCells = false := fun r e => (hr r e).2
    exact ⟨hg.cell h1 (nc_ne hnc h1), ⟨vo, R, h2.grown hg (nc_ne (v := vo) hnc (h2.cell 0)), h3.nc hg hnc⟩, Below.grown h5.below hg h5.size (fun q e => by have := (hr q e).1; omega), Nat.le_trans h6 hg.size⟩
  case assign =>
    clear hs1 hs2
    intro l x W K hK
    gi_wp2
    exact hK
  case body =>
    rintro l0 pre x W ⟨h1, ⟨vo, R, h2, h3⟩, h5, h6⟩ hlen
    have hx4 : x.1 * M + M ≤ l.length := by
      rw [HN.out, HLC.out, ← Nat.succ_mul]; exact Nat.mul_le_mul_right _ x.2
    have hm1 := HM1.out
    have hp := (HV.out.ext h5).cut (x.1 * M) (x.1 * M + M) (by omega) hx4
    rw [Nat.add_sub_cancel_left] at hp
    have hpl : ((l.drop (x.1 * M)).take M).length = M := by simp; omega
    have hsn := prL_snoc p l M pre x
    have hlp := prL_length p l M pre
    obtain ⟨pl, hpl0⟩ : ∃ pl, (l.drop (x.1 * M)).take M = pl := ⟨_, rfl⟩
    rw [hpl0] at hp hpl hsn
    have hrl := hp.run_len (P := Tryz.prog) slInts
    rw [hpl] at hrl
    have hMN : M ≤ 4096 := by have := HN.out; omega
    have hCN : pre.length ≤ 4294967000 := by
      have h7 := Nat.le_mul_of_pos_right C (show 0 < M by omega)
      have h8 := HLC.out; omega
    generalize prL p l M pre = PL at *
    generalize hpv : cutV (.slice a1 N c1) (x.1 * M) (x.1 * M + M) = pv at *
    have HP := Lib.hid hp; have HPL := Lib.hid hpl; have HSN := Lib.hid hsn; have HLP := Lib.hid hlp
    have H1 := Lib.hid h1; have H2 := Lib.hid h2; have H3 := Lib.hid h3; have H5 := Lib.hid h5; have H6 := Lib.hid h6
    have HHS := Lib.hid hs2
    clear hs1 hs2
    clear h1 h2 h3 h5 h6 hp hpl hsn hlp hx4 hpl0 hpv hlen
    gi_wp2
    gi_loopw [7, 9, 20] (fun x7 _ x20 wq => ∃ t : Nat, t ≤ M ∧ x20 = .int .i64 t ∧ Hid (wq.ownsRow W.heap.size 3 1 x7 t (((pl.take t).map (fof p)).map (Value.int .i64))) ∧ Hid (Ext W wq)) (fun _ _ x20 _ => M - (intOf x20).toNat)
    case atStart => exact ⟨0, Nat.zero_le _, rfl, Lib.hid (World.ownsRow_nil _ _ _ _), Lib.hid (Ext.refl _)⟩
    case round =>
      obtain ⟨t, ht, rfl, HO, HXQ⟩ := hrel
      have hcs := HXQ.out.cell H1.out
      by_cases htl : t < M
      · have hix := HP.out.run_index (P := Tryz.prog) slInts t (by rw [HPL.out]; exact htl)
        have hcx := HXQ.out.cell (HP.out.cell t (by rw [HPL.out]; exact htl))
        have hs00 := (H5.out.trans HXQ.out).cell HS0.out
        have HFW := Lib.hid (HF.out.ext (H5.out.trans HXQ.out))
        have HST := Lib.hid (pad_snoc p pl t (by rw [HPL.out]; exact htl))
        generalize nth pl t = y at *
        gi_wp2_with (first | (refine ⟨trivial, ?_⟩; gi_at_call 83; refine (Calls.inRound (of_any HFW.out y)).mono ?_; rintro e w' hrd; obtain ⟨rfl, hx4⟩ := hrd.ext; clear hrd; have HX4 := Lib.hid hx4; have HO4 := Lib.hid (own_ext HO.out hx4); have hsz4 : W.heap.size ≤ w'.heap.size := (HXQ.out.trans hx4).size; clear hx4) | (gi_at_builtin; refine wpListIn_appNw rfl _ _ 22 rfl slInts rfl hsz4 HO4.out rfl #[.int .i64 (fof p y)] rfl (by simp [Value.oneCell']) rfl (by omega) (by omega) ?_; intro v7 w7 HO7 HG7 _; have HO7H := Lib.hid HO7; have HX7 := Lib.hid (Ext.own_grown (HXQ.out.trans HX4.out) HO4.out HG7); clear HO7 HG7))
        go_roundw
        case rel => exact ⟨t + 1, by omega, by go_num, Lib.hid (by rw [HST.out]; exact HO7H.out), HX7⟩
        case measure => simp [intOf]; omega
      · obtain rfl : t = M := by omega
        have HO1 := Lib.hid (show wr.ownsRow W.heap.size 3 1 u7 (pl.map (fof p)).length ((pl.map (fof p)).map (Value.int .i64)) from by
          have h := HO.out
          rw [show pl.take t = pl from by rw [← HPL.out, List.take_length]] at h
          rw [List.length_map, HPL.out]; exact h)
        obtain ⟨au, cu, hsh7⟩ := own_shape HO1.out
        generalize u7 = v7 at *
        subst hsh7
        have hk1 := H2.out.ext HXQ.out
        have hk10 : wr.cell? ⟨w.heap.size + 1, 0, none⟩ = some vo := hk1.cell 0
        have hgr := H3.out.ext HXQ.out
        have HGR := Lib.hid hgr; have HK1 := Lib.hid hk1
        have hszw : w2.heap.size ≤ wr.heap.size := Nat.le_trans H6.out HXQ.out.size
        have hbo : PL.length + 1 ≤ 4294967296 := by rw [HLP.out]; omega
        have HNE := Lib.hid (show some (w.heap.size + 1) ≠ vo.ownBlock from fun e => by
          have h7 := (hgr.own.lt _ e.symm).1
          have := HSZ0.out; have := HHS.out; omega)
        have HNE0 := Lib.hid (show some w.heap.size ≠ vo.ownBlock from fun e => by
          have h7 := (hgr.own.lt _ e.symm).1
          have := HSZ0.out; have := HHS.out; omega)
        have HRI := Lib.hid (Ints.of_own HO1.out)
        have HLT := Lib.hid (fun k hk => HO1.out.lt k hk)
        generalize (pl.map (fof p)).length = np at *
        have HHX := Lib.hid (H5.out.trans HXQ.out)
        clear hgr hk1 HO HO1
        gi_wp2_with (gi_at_builtin; refine wpListIn_appNw rfl _ _ 23 rfl slRows rfl hszw HGR.out.own rfl #[.slice au np cu] rfl (by intro u hu; simp at hu; subst hu; rfl) rfl hbo (by omega) ?_; intro v8 w8 HO8 HG8 HM8; obtain ⟨a8, c8, rfl⟩ := own_shape HO8; have hk8 := (HK1.out.grown HG8 HNE.out).cell 0; have hf8 := (HK1.out.grown HG8 HNE.out).free 0; have HO8H := Lib.hid HO8; have HG8H := Lib.hid HG8; have HM8H := Lib.hid HM8; clear HO8 HG8 HM8; replace hk8 : w8.cell? ⟨w.heap.size + 1, 0, none⟩ = some vo := hk8)
        have hv2 := (HGR.out.own.lt · ·)
        have hgs := setCell_grown w8 (w.heap.size + 1) 0 (.slice a8 (PL.length + 1) c8)
        have hW0 := HSZ0.out; have hW2 := HHS.out
        have hne1 : some w.heap.size ≠ some (w.heap.size + 1) := fun e => by have := Option.some.inj e; omega
        have hpush := HGR.out.push HRI.out (fun k hk => ⟨Nat.le_trans H6.out (HLT.out k hk).1, (HLT.out k hk).2, fun e => by
          have h7 := (H3.out.own.lt _ e.symm).2
          have h8 := (HLT.out k hk).1; omega⟩) HO8H.out HG8H.out HM8H.out
        rw [← HSN.out] at hpush
        have hX8 : Ext w w8 := Below.grown HHX.out.below HG8H.out HHX.out.size (fun q e => by have := (HGR.out.own.lt q e).1; omega)
        refine ⟨(KeepsOthers.of_grownBy (HXQ.out.grownBy none) (fun j o e _ => by cases e)).trans ((KeepsOthers.of_grownBy HG8H.out (own_cells HGR.out.own)).trans (KeepsOthers.setCell _ _ _)), (KpC.of_ext HXQ.out).trans ((KpC.of_grown HG8H.out (fun k e => .inr (by have := (HGR.out.own.lt k e).1; omega))).trans (KpC.of_grown hgs (fun k e => .inl (by have := Option.some.inj e; omega)))), hgs.cell (HG8H.out.cell hcs HNE0.out) hne1, ⟨_, ((HK1.out.grown HG8H.out HNE.out).set 0 (.slice a8 (PL.length + 1) c8)), _, hpush.low hgs (by omega)⟩, Below.grown hX8.below hgs hX8.size (fun q e => by have := Option.some.inj e; omega), Nat.le_trans hszw (Nat.le_trans HG8H.out.size hgs.size)⟩
  case done =>
    rintro D xs W hD rfl ⟨h1, ⟨vo, R, h2, h3⟩, h5, h6⟩ hK
    have h20 : W.cell? ⟨w.heap.size + 1, 0, none⟩ = some vo := h2.cell 0
    gi_wp2
    refine ⟨by simp, .inl ⟨_, _, rfl, run_takeDeferred hK, ?_⟩⟩
    have hg := grownBy_putObj' W D (.deferred none)
    have hrw := (h3.nc hg (fun r e => by cases e; exact ⟨_, hK, rfl⟩)).rws
    rw [prL_upF, rowsL_map] at hrw
    refine ⟨_, results_tmp rfl _ _ _, ?_⟩
    exact .mk _ rfl (Below.grown h5.below hg h5.size (fun q e => by have := Option.some.inj e; omega)) ⟨_, hrw⟩
  case stop =>
    rintro D c pre W _ _ h _
    exact h.elim
end
end Go.Proofs.YtcpnidomdkaefaaGreatDoor
