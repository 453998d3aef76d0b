/- The document's digest of a list: contract. The document's chain: contracts. The document's chain: begun, drawn from: contracts. -/
import Derived.Test.YtaajjaadlpgbiaaGreatDoorZx15
import Derived.Maps.AppendAt
section
namespace Go.Att
open Go.RowKit
/-- A part of four that is taken in, so far. -/
def absU (p : Int) (m : List Int) (c : Nat) (x : List Int) (t : Nat) : List Int := (List.range 8).map fun i => if i < t then fadd p (nth x i) (nth m (4 * c + i)) else nth x i
theorem absU_length (p : Int) (m : List Int) (c : Nat) (x : List Int) (t : Nat) : (absU p m c x t).length = 8 := by simp [absU]
theorem absU_nth (p : Int) (m : List Int) (c : Nat) (x : List Int) (t : Nat) {i : Nat} (h : i < 8) : nth (absU p m c x t) i = if i < t then fadd p (nth x i) (nth m (4 * c + i)) else nth x i := by
  rw [nth_eq (by rw [absU_length]; exact h)]; simp [absU]
theorem absU_zero (p : Int) (m : List Int) (c : Nat) (x : List Int) (hl : x.length = 8) : absU p m c x 0 = x := by
  apply List.ext_getElem (by rw [absU_length, hl])
  intro i h1 h2
  simp [absU, nth_eq h2]
theorem absU_all (p : Int) (m : List Int) (c : Nat) (x : List Int) : absU p m c x 4 = absP p m c x := rfl
theorem absU_set (p : Int) (m : List Int) (c : Nat) (x : List Int) (t : Nat) (_ht : t < 8) : (absU p m c x t).set t (fadd p (nth x t) (nth m (4 * c + t))) = absU p m c x (t + 1) := by
  apply List.ext_getElem (by simp [absU])
  intro j h1 h2
  rw [List.getElem_set]
  simp only [absU, List.getElem_map, List.getElem_range]
  by_cases e : t = j
  · subst e; rw [if_pos rfl, if_pos (by omega)]
  · rw [if_neg e]
    by_cases h : j < t
    · rw [if_pos h, if_pos (by omega)]
    · rw [if_neg h, if_neg (by omega)]
theorem els_abs {p : Int} (hp : 2 ≤ p) (m : List Int) (c : Nat) {x : List Int} (h : Els p x) (hl : x.length = 8) (t : Nat) : Els p (absU p m c x t) := fun i hi => by
  rw [absU_length] at hi
  rw [absU_nth p m c x t hi]
  by_cases h2 : i < t
  · rw [if_pos h2]; exact fadd_bd hp _ _
  · rw [if_neg h2]; exact h i (by omega)
theorem els_pad {p : Int} (hp : 2 ≤ p) (l : List Int) : Els p (padP p l) := fun i hi => by
  have hm : nth (padP p l) i ∈ padP p l := nth_mem hi
  unfold padP at hm ⊢
  rw [List.mem_append, List.mem_cons] at hm
  rcases hm with hm | hm | hm
  · obtain ⟨y, _, hy⟩ := List.mem_map.1 hm
    rw [← hy]; exact fof_bd hp _
  · rw [hm]; omega
  · have := List.eq_of_mem_replicate hm
    rw [this]; omega
theorem els_hash {p : Int} (hp : 2 ≤ p) (k : Nat) (m : List Int) (c : Nat) : Els p (hashS p k m c) := by
  cases c with
  | zero => intro i hi; rw [hashS, List.length_replicate] at hi; have h0 : nth (List.replicate 8 (0 : Int)) i = 0 := List.eq_of_mem_replicate (nth_mem (by rw [List.length_replicate]; exact hi)); rw [hashS, h0]; omega
  | succ c => exact els_perm hp k (x := absP p m c (hashS p k m c)) (by rw [← absU_all]; intro i hi; rw [absU_length] at hi; rw [absU_nth _ _ _ _ _ hi]; by_cases h : i < 4; rw [if_pos h]; exact fadd_bd hp _ _; rw [if_neg h]; exact els_hash hp k m c i (by rw [hashS_length]; exact hi)) 8
theorem NewIn.upTo {W : World} {v : Value} (h : NewIn W v) (k : Nat) : NewIn W (upTo v k) := fun q hq => h q (by
  unfold Go.Att.upTo at hq
  split at hq
  · rename_i a _ _
    unfold sliced at hq
    cases a with
    | none => simp [Value.ownBlock] at hq
    | some a =>
      split at hq
      · exact hq
      · rw [← hq]; simp only [Option.map_some, Value.ownBlock, Addr.add]; simp
  · exact hq)
theorem ints_lt9 {w : World} {v : Value} {l : List Int} (h : Ints w v l) (h0 : 0 < l.length) : ∀ k, v.ownBlock = some k → k < w.heap.size := by
  obtain ⟨ao, cap, rfl, h2, h3, h4, h5⟩ := h
  obtain ⟨b, off, rfl, hc⟩ := h5 0 (by simpa using h0)
  intro k hk
  have hb : b = k := by
    simp only [Value.ownBlock] at hk
    first | exact Option.some.inj hk | (split at hk <;> simp_all)
  have h6 : b < w.heap.size := World.block_lt_of_cell? w _ hc
  omega
end Go.Att
namespace Go.Proofs.YtaajjaadlpgbiaaGreatDoor
open Go.RowKit Go.Att
set_option maxRecDepth 100000 in
set_option maxHeartbeats 8000000 in
theorem rhash_any (p : Int) (k : Nat) (v : Value) (l : List Int) (w : World) (h23 : 23 ≤ p) (hp2 : p ≤ 2147483647) (hk : IsPw p k) (hv : Ints w v l) (hs : l.length ≤ 1048576000) :
    Calls Tryz.prog 108 #[.int .i64 p, v] w (Gives w fun u w' => Ints w' u (hashP p k l) ∧ NewIn w u) := by
  have hp : 2 ≤ p := by omega
  have HV := Lib.hid hv; have HK := Lib.hid hk
  clear hv hk
  have hpl := padP_length p l
  have hp4 := padP_four p l
  have hpn : padN l.length ≤ 3 := by unfold padN; omega
  have HEM := Lib.hid (els_pad hp l)
  obtain ⟨C, hC⟩ : ∃ C, (padP p l).length = 4 * C := ⟨(padP p l).length / 4, by omega⟩
  have hC2 : (4 : Int) * C ≤ 1048577000 := by omega
  have HHP := Lib.hid (show hashP p k l = (hashS p k (padP p l) C).take 4 from by unfold hashP; rw [hC, Nat.mul_div_cancel_left _ (by omega)])
  go_enter Tryz.func108, Tryz.ntmps108
  go_wp2_with (first | (refine wpList_mkn rfl _ _ 23 rfl slInts (Ext.refl w) rfl rfl (by omega) (by omega) (by omega) ?_; intro v1 w1 HO1 HX1 _) | (go_at_call 139; refine (rpad_any p v l _ hp hp2 (HV.out.ext HX1) (by omega)).mono ?_; rintro e w2 ⟨v2, rfl, hx2, hm2, hn2⟩))
  have HO2 := Lib.hid (show w2.ownsRow w.heap.size 3 1 v1 8 ((hashS p k (padP p l) 0).map (Value.int .i64)) from by
    have e1 : (madeCells (Value.cells (.int .i64 0)) (8 * 1)).toList = (List.replicate 8 (0 : Int)).map (Value.int .i64) := by simp [madeCells, Value.cells, Nat.mod_one, List.map_const']
    rw [hashS, ← e1]; exact own_ext HO1 hx2)
  have HX2 := Lib.hid (HX1.trans hx2)
  have HM2 := Lib.hid hm2
  have HN2 := Lib.hid (show ∀ q, v2.ownBlock = some q → some q ≠ v1.ownBlock from fun q hq hc => by
    have h1 := hn2 q hq
    have h2 := (HO1.lt q hc.symm).2
    omega)
  clear HO1 HX1 hx2 hm2 hn2 hpl hp4 hpn
  generalize padP p l = m at *
  have HCM := Lib.hid hC
  have hml := HM2.out.run_len (P := Tryz.prog) slInts
  rw [hC] at hml
  clear hC
  go_loopw [5, 7, 8] (fun x5 x7 _ wr => ∃ c : Nat, c ≤ C ∧ x7 = .int .i64 ((4 * c : Nat) : Int) ∧ Hid (wr.ownsRow w.heap.size 3 1 x5 8 ((hashS p k m c).map (Value.int .i64))) ∧ Hid (Ext w wr) ∧ Hid (Ints wr v2 m) ∧ Hid (∀ q, v2.ownBlock = some q → some q ≠ x5.ownBlock)) (fun _ x7 _ _ => 4 * C - (intOf x7).toNat)
  case atStart => exact ⟨0, by omega, rfl, HO2, HX2, HM2, HN2⟩
  case round =>
    clear HO2 HX2 HM2 HN2
    obtain ⟨c, hc, rfl, HO, HX, HM, HN⟩ := hrel
    by_cases hcC : c < C
    · have HEX := Lib.hid (els_hash hp k m c)
      have HLX := Lib.hid (hashS_length p k m c)
      have HSX := Lib.hid (show hashS p k m (c + 1) = permP p k (absP p m c (hashS p k m c)) 8 from rfl)
      generalize hashS p k m c = X at *
      obtain ⟨a5, c5, hsh⟩ := own_shape HO.out
      subst hsh
      have HO0 := Lib.hid (show wr.ownsRow w.heap.size 3 1 (.slice a5 8 c5) 8 ((absU p m c X 0).map (Value.int .i64)) from by rw [absU_zero p m c X HLX.out]; exact HO.out)
      clear HO
      go_wp2_with fail
      generalize wr = w9 at *
      go_loopw [8] (fun x8 wq => ∃ t : Nat, t ≤ 4 ∧ x8 = .int .i64 t ∧ Hid (wq.ownsRow w.heap.size 3 1 (.slice a5 8 c5) 8 ((absU p m c X t).map (Value.int .i64))) ∧ Hid (Ext w wq) ∧ Hid (Ints wq v2 m)) (fun x8 _ => 4 - (intOf x8).toNat)
      case atStart => exact ⟨0, by omega, rfl, HO0, HX, HM⟩
      case round =>
        clear HO0 HX HM
        obtain ⟨t, ht, rfl, HO, HX, HM⟩ := hrel
        by_cases ht4 : t < 4
        · have hI := Ints.of_own HO.out
          have hix := hI.run_index (P := Tryz.prog) slInts t (by rw [absU_length]; omega)
          have hct := hI.cell t (by rw [absU_length]; omega)
          rw [absU_nth p m c X t (by omega), if_neg (by omega)] at hct
          have hiy := HM.out.run_index (P := Tryz.prog) slInts (4 * c + t) (by rw [HCM.out]; omega)
          rw [show ((4 * c + t : Nat) : Int) = 4 * (c : Int) + t from by omega] at hiy
          have hcy := HM.out.cell (4 * c + t) (by rw [HCM.out]; omega)
          have hb1 := HEX.out t (by rw [HLX.out]; omega)
          have hb2 := HEM.out (4 * c + t) (by rw [HCM.out]; omega)
          have HST := Lib.hid (absU_set p m c X t (by omega))
          have HSM := Lib.hid (fun v => set_map (absU p m c X t) t (by rw [absU_length]; omega) v)
          generalize nth X t = xt at *
          generalize nth m (4 * c + t) = mt at *
          have hcast : ((4 * c : Nat) : Int) + (t : Int) = ((4 * c + t : Nat) : Int) := by omega
          have hw0 : IntKind.i64.wrap (((4 * c : Nat) : Int) + (t : Int)) = ((4 * c + t : Nat) : Int) := by rw [hcast]; exact IntWalk.i64_in _ (by omega)
          have hw1 : IntKind.i64.wrap (xt + mt) = xt + mt := IntWalk.i64_in _ (by omega)
          have hq : (xt + mt).tmod p = (xt + mt) % p := Int.tmod_eq_emod_of_nonneg (by omega)
          have ht8 : t < 8 := by omega
          clear hI
          go_wp2_with fail
          refine wp_region_quiet_tail 16 (by kernel_rfl) (by kernel_rfl) ?_
          simp only [List.take_succ_cons, List.take_zero, List.drop_succ_cons, List.drop_zero]
          repeat (go_big_quiet_step (fail))
          refine wpQuiet_nil ?_
          rintro _ ⟨nq, rfl⟩
          have HO4 := own_ext HO.out (Ext.drewN wr nq)
          have HX4 := HX.out.trans (Ext.drewN wr nq)
          have HM4 := HM.out.ext (Ext.drewN wr nq)
          clear hix hct hiy hcy HO HX HM
          go_wp2_with (refine wpList_set rfl rfl _ _ 3 rfl slInts HO4 t ht8 rfl (.int .i64 ((xt + mt) % p)) rfl rfl (by intro u hu; simp [Value.cells] at hu; subst hu; rfl) ?_; intro w7 HO7 HG7)
          have HX7 := Lib.hid (Ext.own_grown HX4 HO4 HG7)
          have HM7 := Lib.hid (HM4.grown HG7 HN.out)
          have HO7' := Lib.hid (show w7.ownsRow w.heap.size 3 1 (.slice a5 8 c5) 8 ((absU p m c X (t + 1)).map (Value.int .i64)) from by rw [HSM.out] at HO7; rw [← HST.out]; exact HO7)
          go_roundw
          case rel => exact ⟨t + 1, by omega, by go_num, HO7', HX7, HM7⟩
          case measure => simp [intOf]; omega
        · obtain rfl : t = 4 := by omega
          have HI := Lib.hid (show Ints wr (.slice a5 8 c5) (absP p m c X) from by have := Ints.of_own HO.out; rwa [absU_all] at this)
          have HEA := Lib.hid (els_fof (show Els p (absP p m c X) from by rw [← absU_all]; exact els_abs hp m c HEX.out HLX.out 4))
          have HVL := Lib.hid (ints_lt9 HM.out (by rw [HCM.out]; omega))
          go_wp2_with (go_at_call 140; refine (rpermute_any p k _ (absP p m c X) _ h23 hp2 HK.out HI.out (absP_length _ _ _ _)).mono ?_; rw [HEA.out]; rintro e w8 ⟨v8, rfl, hx8, ho8⟩; have HX8 := Lib.hid (HX.out.trans hx8); have HM8 := Lib.hid (HM.out.ext hx8); have HN8 := Lib.hid (show ∀ q, v2.ownBlock = some q → some q ≠ v8.ownBlock from fun q hq hc => by { have h1 := HVL.out q hq; have h2 := (ho8.lt q hc.symm).1; omega }); have HO8 := Lib.hid (own_base ho8 HX.out.size); clear hx8 ho8)
          go_roundw
          case rel => exact ⟨c + 1, by omega, by go_num, by rw [HSX.out]; exact HO8, HX8, HM8, HN8⟩
          case measure => simp [intOf]; omega
    · obtain rfl : c = C := by omega
      have HI := Lib.hid (Ints.of_own HO.out)
      have HNW := Lib.hid (NewIn.of_own HO.out)
      have htk := HI.out.run_take (P := Tryz.prog) slInts 4 (by rw [hashS_length]; omega)
      rw [show ((4 : Nat) : Int) = 4 from rfl] at htk
      go_wp2_with fail
      go_ret
      exact .mk _ rfl HX.out ⟨by rw [HHP.out]; exact HI.out.take 4 (by rw [hashS_length]; omega), HNW.out.upTo 4⟩
end Go.Proofs.YtaajjaadlpgbiaaGreatDoor
end
section
namespace Go.Att
open Go.RowKit
/-- A chain of the document's, in block b: the prime, what was said. -/
structure ChD (w : World) (b : Nat) (p : Int) (D : List Int) : Prop where
  c0 : w.cell? ⟨b, 0, none⟩ = some (.int .i64 p)
  c1 : ∃ v, w.cell? ⟨b, 1, none⟩ = some v ∧ Ints w v D
  f1 : w.frozen? ⟨b, 1, none⟩ = false
theorem ChD.ext {w w' : World} {b : Nat} {p : Int} {D : List Int} (h : ChD w b p D) (hx : Ext w w') : ChD w' b p D := by
  obtain ⟨v, h1, h2⟩ := h.c1
  exact ⟨hx.cell h.c0, ⟨v, hx.cell h1, h2.ext hx⟩, by rw [World.frozen?_of_block (hx.below.block b (World.block_lt_of_cell? w _ h.c0))]; exact h.f1⟩
/-- What was said lies in memory that is new since. -/
def DigNew (w w' : World) (b : Nat) : Prop := ∀ v, w'.cell? ⟨b, 1, none⟩ = some v → NewIn w v
theorem DigNew.mono {w w0 w' : World} {b : Nat} (h : DigNew w w' b) (hx : w0.heap.size ≤ w.heap.size) : DigNew w0 w' b := fun v hv => (h v hv).mono hx
theorem DigNew.grown {w0 w w' : World} {b : Nat} {q : Option Nat} (h : DigNew w0 w b) (hlt : b < w.heap.size) (hg : w.grownBy w' q) (hb : some b ≠ q) : DigNew w0 w' b := fun v hv => by
  rw [World.cell?_of_block (a := ⟨b, 1, none⟩) (hg.block b hlt hb)] at hv; exact h v hv
theorem DigNew.ext {w0 w w' : World} {b : Nat} (h : DigNew w0 w b) (hlt : b < w.heap.size) (hx : Ext w w') : DigNew w0 w' b := h.grown hlt (hx.grownBy none) (by simp)
theorem ChD.lt {w : World} {b : Nat} {p : Int} {D : List Int} (h : ChD w b p D) : b < w.heap.size := World.block_lt_of_cell? w _ h.c0
theorem ChD.grown {w w' : World} {b : Nat} {q : Option Nat} {p : Int} {D : List Int} (h : ChD w b p D) (hg : w.grownBy w' q) (hb : some b ≠ q) (hn : ∀ v, w.cell? ⟨b, 1, none⟩ = some v → ∀ k, v.ownBlock = some k → some k ≠ q) : ChD w' b p D := by
  obtain ⟨v, h1, h2⟩ := h.c1
  refine ⟨hg.cell h.c0 hb, ⟨v, hg.cell h1 hb, h2.grown hg fun k hk e => hn v h1 k hk e⟩, ?_⟩
  rw [World.frozen?_of_block (hg.block b h.lt hb)]; exact h.f1
/-- A change in memory of the call's own. -/
theorem grown_low {w W W' : World} {q : Nat} {b : Option Nat} (h : w.grownBy W (some q)) (hg : W.grownBy W' b) (hb : ∀ k, b = some k → w.heap.size ≤ k) : w.grownBy W' (some q) :=
  ⟨hg.os.trans h.os, hg.tape.trans h.tape, hg.output.trans h.output, Nat.le_trans h.size hg.size, fun k hk hne => by
    rw [hg.block k (Nat.lt_of_lt_of_le hk h.size) (fun e => by have := hb k e.symm; omega)]; exact h.block k hk hne⟩
/-- A list of one, just built. -/
theorem own_lit1 (w : World) (x : Value) (e : Nat) : (w.alloc (.cells #[x] e)).ownsRow w.heap.size e 1 (.slice (some ⟨w.heap.size, 0, none⟩) 1 1) 1 [x] :=
  ⟨by simp, .inr ⟨w.heap.size, 1, #[x], rfl, Nat.le_refl _, heap_alloc_new w _, Nat.le_refl _, by unfold maxLen; omega, rfl, by simp⟩⟩
/-- A list of numbers, beside a write where no number lay. -/
theorem ints_setCell {w : World} {v : Value} {l : List Int} {a : Addr} {u : Value} (h : Ints w v l) (hu : w.cell? a = some u) (hn : ∀ n, u ≠ Value.int .i64 n) (x : Value) : Ints (w.setCell a x) v l := by
  obtain ⟨ao, cap, rfl, h2, h3, h4, h5⟩ := h
  refine ⟨ao, cap, rfl, h2, h3, h4, fun i hi => ?_⟩
  obtain ⟨b, off, e, hc⟩ := h5 i hi
  refine ⟨b, off, e, ?_⟩
  rw [World.cell?_setCell_other _ _ _ _ (fun he => ?_)]
  · exact hc
  · rw [he] at hu
    rw [hu] at hc
    exact hn _ ((Option.some.inj hc).trans (by rw [List.getElem_map]))
/-- What is said next. -/
def stepP (p : Int) (k : Nat) (kind : Int) (D l : List Int) : List Int := hashP p k (kind :: D ++ l)
theorem stepP_length (p : Int) (k : Nat) (kind : Int) (D l : List Int) : (stepP p k kind D l).length = 4 := hashP_length _ _ _
end Go.Att
namespace Go.Proofs.YtaajjaadlpgbiaaGreatDoor
open Go.RowKit Go.Att
set_option maxRecDepth 100000 in
set_option maxHeartbeats 4000000 in
theorem rstep_any (p : Int) (k : Nat) (kind : Int) (v : Value) (l D : List Int) (b : Nat) (w : World) (h23 : 23 ≤ p) (hp2 : p ≤ 2147483647) (hk : IsPw p k) (hc : ChD w b p D) (hv : Ints w v l) (hs : D.length + l.length ≤ 1048570000) :
    Calls Tryz.prog 54 #[.pointer (some ⟨b, 0, none⟩), .int .i64 kind, v] w fun e w' => e = .returned (.tuple #[]) ∧ w.grownBy w' (some b) ∧ ChD w' b p (stepP p k kind D l) ∧ DigNew w w' b := by
  obtain ⟨vd, c1, hd⟩ := hc.c1
  have c0 := hc.c0
  have f1 := hc.f1
  have hlt : b < w.heap.size := World.block_lt_of_cell? w _ c0
  have hd4 : ∀ n, vd ≠ Value.int .i64 n := by obtain ⟨_, _, h⟩ := hd.shape; subst h; intro n hn; cases hn
  have HK := Lib.hid hk
  have HM := Lib.hid (Ext.alloc w (Obj.cells #[.int .i64 kind] 3))
  have HD := Lib.hid (hd.ext HM.out); have HV := Lib.hid hv
  have HO := Lib.hid (own_lit1 w (.int .i64 kind) 3)
  have d1 := HM.out.cell c1
  have d0 := HM.out.cell c0
  have hu1 : ∀ m : List Int, ∀ u ∈ m.map (Value.int .i64), u.oneCell' = true := by intro m u hu; simp only [List.mem_map] at hu; obtain ⟨_, _, rfl⟩ := hu; rfl
  clear hc hv hk hd
  go_enter Tryz.func54, Tryz.ntmps54
  go_wp2_with (first | (at_builtin; refine wpList_appSl rfl _ _ 23 rfl slInts rfl HM.out HO.out rfl HD.out (hu1 _) rfl (by omega) (by omega) ?_; intro v1 w1 HO1 HX1 _; have HV1 := HV.out.ext HX1) | (at_builtin; refine wpList_appSl rfl _ _ 23 rfl slInts rfl HX1 HO1 rfl HV1 (hu1 _) rfl (by omega) (by omega) ?_; intro v2 w2 HO2 HX2 _; have e0 := HX2.cell c0) | (go_at_call 108; refine (rhash_any p k _ (kind :: D ++ l) _ h23 hp2 HK.out (Ints.of_own (B := w.heap.size) (e := 3) (by simpa using HO2)) (by simp; omega)).mono ?_; rintro e w3 ⟨v3, rfl, hx3, hi3, hn3⟩; have HN3 := Lib.hid (hn3.mono HX2.size); clear hn3; obtain ⟨a3, c3, rfl⟩ := hi3.shape; have e3 := (HX2.trans hx3).cell c1; have HX3 := HX2.trans hx3; have f3 : w3.frozen? ⟨b, 1, none⟩ = false := by rw [World.frozen?_of_block (HX3.below.block b hlt)]; exact f1))
  refine bodyPost_end (results_none rfl _ _ _) rfl ⟨rfl, (HX3.grownBy _).trans (setCell_grown _ _ _ _), ?_⟩
  have hi4 := ints_setCell hi3 e3 hd4 (.slice a3 (hashP p k (kind :: D ++ l)).length c3)
  refine ⟨⟨?_, ⟨_, World.cell?_setCell_same _ _ _ e3, hi4⟩, ?_⟩, fun v hv => ?_⟩
  · rw [World.cell?_setCell_other _ _ _ _ (by simp)]; exact HX3.cell c0
  · rw [World.frozen?_setCell]; exact f3
  · rw [World.cell?_setCell_same _ _ _ e3] at hv
    rw [← Option.some.inj hv]; exact HN3.out
end Go.Proofs.YtaajjaadlpgbiaaGreatDoor
end
section
namespace Go.Proofs.YtaajjaadlpgbiaaGreatDoor
open Go.RowKit Go.Att
set_option maxRecDepth 100000 in
set_option maxHeartbeats 4000000 in
theorem rbegin_any (p : Int) (k : Nat) (v : Value) (l : List Int) (w : World) (h23 : 23 ≤ p) (hp2 : p ≤ 2147483647) (hk : IsPw p k) (hv : Ints w v l) (hs : l.length ≤ 1048570000) :
    Calls Tryz.prog 106 #[.int .i64 p, v] w (Gives w fun u w' => u = .pointer (some ⟨w.heap.size, 0, none⟩) ∧ ChD w' w.heap.size p (stepP p k 2 [] l) ∧ DigNew w w' w.heap.size) := by
  have HK := Lib.hid hk; have HV := Lib.hid hv
  clear hk hv
  go_enter Tryz.func106, Tryz.ntmps106
  go_wp2_with (go_at_call 54; refine (rstep_any p k 2 v l [] w.heap.size _ h23 hp2 HK.out ⟨by simp, ⟨.slice none 0 0, by simp, Ints.nil _⟩, by simp⟩ (HV.out.ext (Ext.alloc w _)) (by simpa using hs)).mono ?_; rintro e w1 ⟨rfl, hx1, hc1, hd1⟩)
  go_ret
  exact .mk _ rfl (Below.grown (Ext.alloc w _).below hx1 (Ext.alloc w _).size (fun q e => by cases e; exact Nat.le_refl _)) ⟨rfl, hc1, hd1.mono (Ext.alloc w _).size⟩
set_option maxRecDepth 100000 in
set_option maxHeartbeats 4000000 in
theorem rdraw_any (p : Int) (k : Nat) (D : List Int) (b : Nat) (w : World) (h23 : 23 ≤ p) (hp2 : p ≤ 2147483647) (hk : IsPw p k) (hc : ChD w b p D) (hs : D.length ≤ 1048570000) :
    Calls Tryz.prog 55 #[.pointer (some ⟨b, 0, none⟩)] w fun e w' => e = .returned (.int .i64 (nth (stepP p k 4 D []) 0)) ∧ w.grownBy w' (some b) ∧ ChD w' b p (stepP p k 4 D []) ∧ DigNew w w' b := by
  have HK := Lib.hid hk; have HC := Lib.hid hc
  clear hk hc
  go_enter Tryz.func55, Tryz.ntmps55
  go_wp2_with (go_at_call 54; refine (rstep_any p k 4 _ [] D b _ h23 hp2 HK.out HC.out (Ints.nil _) (by simpa using hs)).mono ?_; rintro e w1 ⟨rfl, hx1, hc1, hd1⟩; have HDN := Lib.hid hd1; have HC1 := Lib.hid hc1; have HX1 := Lib.hid hx1; obtain ⟨v1, k1, hd1⟩ := hc1.c1; have k0 := hc1.c0; have hix := hd1.run_index (P := Tryz.prog) slInts 0 (by rw [stepP_length]; omega); have hcc := hd1.cell 0 (by rw [stepP_length]; omega); rw [show ((0 : Nat) : Int) = 0 from rfl] at hix; clear hc1 hx1 hd1)
  go_ret
  exact ⟨rfl, HX1.out, HC1.out, HDN.out⟩
end Go.Proofs.YtaajjaadlpgbiaaGreatDoor
end
