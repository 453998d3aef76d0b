/- Four numbers behind a pointer; what stands behind a list's first row; a digest of elements. Plain: no program in sight. Whether an opening shows rows of a tree, the document's side: attestref1.Same, attestref3.Check: contracts. Rows of the call's own that are put behind one another; the document's root as new memory; what stands for all that is not shown: plain, and the document's Nodes: contract. The program's root of rows, and where its digest lies: contract. Printed by wip/mkod.py. -/
import Derived.Test.YtfepefbehgbjpaaGreatDoorZx3
import Derived.Test.YtfepefbehgbjpaaGreatDoorJf
import Derived.Test.YtfepefbehgbjpaaGreatDoorZx15
import Derived.Test.YtfepefbehgbjpaaGreatDoorNe
section
namespace Go.Att
open Go.RowKit
theorem fofI_idem (p x : Int) : fof p (fof p x) = fof p x := Int.emod_emod_of_dvd _ (Int.dvd_refl _)
theorem hashP_map (p : Int) (k : Nat) (l : List Int) : hashP p k (l.map (fof p)) = hashP p k l := by
  have : padP p (l.map (fof p)) = padP p l := by
    unfold padP
    rw [List.map_map, List.length_map]
    congr 1
    exact List.map_congr_left fun x _ => fofI_idem p x
  unfold hashP
  rw [this]
theorem hashP_cons_map (p : Int) (k : Nat) (x : Int) (l : List Int) : hashP p k (x :: l.map (fof p)) = hashP p k (x :: l) := by
  rw [← hashP_map p k (x :: l.map (fof p)), ← hashP_map p k (x :: l), List.map_cons, List.map_cons, List.map_map]
  congr 2
  exact List.map_congr_left fun y _ => fofI_idem p y
def SP.arr (l : List Int) : SP := ⟨fun v W => ∃ q off, v = .pointer (some ⟨q, off, none⟩) ∧ ∀ i, i < l.length → W.cell? ⟨q, off + i, none⟩ = some (.int .i64 (nth l i)), fun _ _ _ ⟨q, off, h1, h2⟩ hx => ⟨q, off, h1, fun i hi => hx.cell (h2 i hi)⟩⟩
theorem arr_of {W : World} {v : Value} {l : List Int} (h : Ints W v l) (h0 : 0 < l.length) : ∃ q off cap, v = .slice (some ⟨q, off, none⟩) l.length cap ∧ ∀ i, i < l.length → W.cell? ⟨q, off + i, none⟩ = some (.int .i64 (nth l i)) := by
  obtain ⟨ao, cap, rfl, h2, h3, h4, h5⟩ := h
  obtain ⟨q, off, rfl, _⟩ := h5 0 (by simp; omega)
  refine ⟨q, off, cap, rfl, fun i hi => ?_⟩
  obtain ⟨q', off', e, hc⟩ := h5 i (by simpa using hi)
  obtain ⟨rfl, rfl⟩ : q = q' ∧ off = off' := by simpa using e
  rw [hc, nth_eq hi]; simp
theorem digV_four {l : List Int} (h : l.length = 4) : digV l = .agg #[.int .i64 (nth l 0), .int .i64 (nth l 1), .int .i64 (nth l 2), .int .i64 (nth l 3)] := by
  match l, h with
  | [a, b, c, d], _ => rfl
theorem digV_inj {a b : List Int} (h : digV a = digV b) : a = b := by
  unfold digV at h
  injection h with h
  have h2 := congrArg Array.toList h
  simp only at h2
  have : ∀ (a b : List Int), a.map (Value.int .i64) = b.map (Value.int .i64) → a = b := by
    intro a
    induction a with
    | nil => intro b hb; cases b with
      | nil => rfl
      | cons y s => simp at hb
    | cons x r ih => intro b hb; cases b with
      | nil => simp at hb
      | cons y s =>
        simp only [List.map_cons, List.cons.injEq, Value.int.injEq, true_and] at hb
        rw [hb.1, ih s hb.2]
  exact this a b h2
section
variable {P : Program} {w : World} {v : Value} {d : List Int} {r : List (List Int)} {R : Nat → Value}
theorem rows_tail (h : RwsAt w v (d :: r) R) {t e bytes : Nat} {z : Value} (ht : SlT P t e 1 bytes z) :
    (∀ w', (Instr.sliceAt t v (some (.int .i64 1)) none none).run P w' = .ok (fromV v 1) w') ∧ RwsAt w (fromV v 1) r (fun i => R (1 + i)) := by
  match r, h with
  | [], h =>
    obtain ⟨ao, cap, rfl, h2, h3, h4, h5⟩ := h.sl
    have hu : P.underlying t = some (.slice (P.elem t)) := by rw [ht.und, elem_of ht.und]
    simp only [List.length_cons, List.length_nil] at h2 h3
    refine ⟨fun w' => ?_, ⟨⟨_, cap - 1, rfl, rfl, Nat.zero_le _, by omega, fun i hi => by simp at hi⟩, fun i hi => by simp at hi⟩⟩
    rw [run_sliceAt_slice (h := hu), show (Value.int .i64 1) = .int .i64 ((1 : Nat) : Int) from rfl, run_slice_l (ht := hu) (h0 := by omega) (h1 := by simp), elem_of ht.und, ht.run_size]
    simp [Result.andThen, fromV]
  | x :: r, h =>
    have := rows_drop h ht 1 (by simp)
    exact this
end
end Go.Att
namespace Go.Proofs.YtfepefbehgbjpaaGreatDoor
open Go.RowKit Go.Att
theorem run_arr4 (q off c : Nat) (W : World) : (Instr.arrayAt 182 (.slice (some ⟨q, off, none⟩) 4 c)).run Tryz.prog W = .ok (.pointer (some ⟨q, off, none⟩)) W := by
  simp [Instr.arrayAt, run_underlying Tryz.underlying182]
end Go.Proofs.YtfepefbehgbjpaaGreatDoor
end
section
namespace Go.Att
open Go.RowKit
theorem hashP_fof {p : Int} (hp : 2 ≤ p) (k : Nat) (l : List Int) : (hashP p k l).map (fof p) = hashP p k l := by
  apply List.ext_getElem (by simp)
  intro i h1 h2
  rw [List.getElem_map]
  rw [hashP_length] at h2
  have hb := hashP_bd hp k l h2
  rw [nth_eq (by rw [hashP_length]; exact h2)] at hb
  exact Int.emod_eq_of_lt hb.1 hb.2
def ascAt (pl : List Int) (n : Int) (i : Nat) : Bool := decide (0 ≤ nth pl i ∧ nth pl i < n) && (i == 0 || decide (nth pl (i - 1) < nth pl i))
theorem ascB_all {pl : List Int} {n : Int} (h : ∀ j, j < pl.length → ascAt pl n j = true) : ascB pl n = true := List.all_eq_true.2 fun i hi => h i (List.mem_range.1 hi)
theorem ascB_not {pl : List Int} {n : Int} {i : Nat} (hi : i < pl.length) (h : ascAt pl n i = false) : ascB pl n = false := by
  cases hb : ascB pl n with
  | false => rfl
  | true =>
    have := List.all_eq_true.1 hb i (List.mem_range.2 hi)
    have h2 : ascAt pl n i = true := this
    rw [h] at h2; cases h2
end Go.Att
namespace Go.Proofs.YtfepefbehgbjpaaGreatDoor
open Go.RowKit Go.Att
end Go.Proofs.YtfepefbehgbjpaaGreatDoor
end
section
namespace Go.Att
open Go.RowKit
section
variable {B B' : Nat} {w w' : World} {e : TypeId} {v u v' : Value} {L M : List (List Int)} {R S : Nat → Value}
theorem nthL_app (L M : List (List Int)) (i : Nat) : nthL (L ++ M) i = if i < L.length then nthL L i else nthL M (i - L.length) := by
  unfold nthL
  simp only [List.getD_eq_getElem?_getD]
  by_cases h1 : i < L.length
  · rw [List.getElem?_append_left h1, if_pos h1]
  · rw [List.getElem?_append_right (by omega), if_neg h1]
theorem Grid.base (h : Grid B' w e v L R) (hB : B ≤ B') : Grid B w e v L R :=
  ⟨⟨h.own.1, h.own.2.imp id fun ⟨g, cap, cur, h1, h2, h3⟩ => ⟨g, cap, cur, h1, Nat.le_trans hB h2, h3⟩⟩, h.row, fun i hi q hq => ⟨Nat.le_trans hB (h.lt i hi q hq).1, (h.lt i hi q hq).2⟩⟩
theorem Grid.one {l : List Int} (hu : Ints w u l) (hl : ∀ q, u.ownBlock = some q → B ≤ q ∧ q < w.heap.size) (hB : B ≤ w.heap.size) : Grid B (w.alloc (.cells #[u] e)) e (.slice (some ⟨w.heap.size, 0, none⟩) 1 1) [l] (fun _ => u) := by
  refine ⟨own_litB (W := w) (B := B) [u] e (by simp) hB, fun i hi => ?_, fun i _ q hq => ⟨(hl q hq).1, by rw [World.size_alloc]; exact Nat.lt_succ_of_lt (hl q hq).2, fun e => ?_⟩⟩
  · obtain rfl : i = 0 := by simpa using hi
    exact hu.ext (Ext.alloc _ _)
  · have h1 := (hl q hq).2
    have h2 : q = w.heap.size := Option.some.inj e
    omega
theorem Grid.app (h : Grid B w e v L R) (k : Grid B' w e u M S) (hB : B ≤ B') (hd : ∀ i, i < M.length → ∀ q, (S i).ownBlock = some q → some q ≠ v.ownBlock)
    (ho : w'.ownsRow B e 1 v' (L.length + M.length) ((List.range L.length).map R ++ (List.range M.length).map S)) (hg : w.grownBy w' v.ownBlock) (hm : Moved w v v') : Grid B w' e v' (L ++ M) (fun i => if i < L.length then R i else S (i - L.length)) := by
  have hr : (List.range (L ++ M).length).map (fun i => if i < L.length then R i else S (i - L.length)) = (List.range L.length).map R ++ (List.range M.length).map S := by
    rw [List.length_append, List.range_add, List.map_append, List.map_map]
    congr 1
    · exact List.map_congr_left fun i hi => by rw [if_pos (List.mem_range.1 hi)]
    · refine List.map_congr_left fun i _ => ?_
      show (if L.length + i < L.length then R (L.length + i) else S (L.length + i - L.length)) = S i
      rw [if_neg (by omega), show L.length + i - L.length = i by omega]
  have far : ∀ x : Value, (∀ q, x.ownBlock = some q → B ≤ q ∧ q < w.heap.size ∧ some q ≠ v.ownBlock) → ∀ q, x.ownBlock = some q → B ≤ q ∧ q < w'.heap.size ∧ some q ≠ v'.ownBlock := by
    intro x hx q hk
    obtain ⟨h0, h1, h2⟩ := hx q hk
    refine ⟨h0, Nat.lt_of_lt_of_le h1 hg.size, fun hc => ?_⟩
    rcases hm with hm | hm
    · exact h2 (by rw [← hm]; exact hc)
    · have := hm q hc.symm; omega
  refine ⟨?_, fun i hi => ?_, fun i hi => ?_⟩
  · rw [hr, List.length_append]; exact ho
  · rw [List.length_append] at hi
    rw [nthL_app]
    by_cases h1 : i < L.length
    · rw [if_pos h1, if_pos h1]
      exact (h.row i h1).grown hg fun q hq => (h.lt i h1 q hq).2.2
    · rw [if_neg h1, if_neg h1]
      exact (k.row _ (by omega)).grown hg fun q hq => hd _ (by omega) q hq
  · rw [List.length_append] at hi
    by_cases h1 : i < L.length
    · simp only [if_pos h1]; exact far _ (h.lt i h1)
    · simp only [if_neg h1]
      exact far _ fun q hq => ⟨Nat.le_trans hB (k.lt _ (by omega) q hq).1, (k.lt _ (by omega) q hq).2.1, hd _ (by omega) q hq⟩
end
section
variable {P : Program} {ops : Array Oper} {rest : List Oper} {o : Oper} {a : Act} {Q : Exit → Act → World → Prop}
theorem wpList_appGrid {W : World} (hgd : o.guard = none) (s x : Operand) (t : TypeId)
    (ho : o.op = .call { callee := .builtin .append, args := #[s, x], argTypes := #[t, t] })
    {e bytes : Nat} {z : Value} (ht : SlT P t e 1 bytes z) (hz : z.cells.size = 1) {B B' : Nat} (hx0 : B ≤ W.heap.size) {v u : Value} {L M : List (List Int)} {R S : Nat → Value} (hv : Grid B W e v L R) (hs : a.eval s = v) (hu : Grid B' W e u M S) (hBB : B ≤ B')
    (hd : ∀ i, i < M.length → ∀ q, (S i).ownBlock = some q → some q ≠ v.ownBlock) (hx : a.eval x = u) (h63 : L.length + M.length ≤ 4294967296) (hby : bytes ≤ 4096)
    (h : ∀ v' w' T, Grid B w' e v' (L ++ M) T → W.grownBy w' v.ownBlock → Moved W v v' → wpList P ops Q rest (a.put o.dst v') w') : wpList P ops Q (o :: rest) a W := by
  obtain ⟨i, hi, hiz, his, hib⟩ := ht.inf
  have hB : (L.length + M.length) * bytes ≤ 4294967296 * 4096 := Nat.mul_le_mul h63 hby
  have hl : Sl W 1 u M.length ((List.range M.length).map S) := Sl.of_own hu.own (by omega)
  obtain ⟨ao, cap, rfl, h2, h3, h4, h5⟩ := hl
  have h1 : ∀ y ∈ (List.range M.length).map S, y.oneCell' = true := by
    intro y hy
    obtain ⟨j, hj, rfl⟩ := List.mem_map.1 hy
    obtain ⟨q, c, e⟩ := (hu.row j (List.mem_range.1 hj)).shape
    rw [e]; rfl
  have hlen : ((List.range M.length).map S).length = M.length * 1 := by simp
  cases ao with
  | none =>
    have h0 : M.length = 0 := by
      rcases Nat.eq_zero_or_pos M.length with h0 | h0
      · exact h0
      · obtain ⟨b, off, hb, _⟩ := h5 0 (by simp; omega); simp at hb
    obtain rfl : M = [] := List.eq_nil_of_length_eq_zero h0
    refine wpList_plain hgd fun K hK => ?_
    have hrun := run_append_none (P := P) B t o.type e i 1 ht.und hi v L.length _ cap hv.own
    unfold Oper.wp
    simp [execOp, ho, resolve, invoke, builtin, hs, hx, hrun, Result.andThen]
    exact hK _ _ (h _ W R (by rw [List.append_nil]; exact hv) (World.grownBy.refl _ _) (Moved.refl _ _))
  | some ad =>
    have go : ∀ ad : Addr, (∀ j y, ((List.range M.length).map S)[j]? = some y → W.cell? (ad.add j) = some y) → a.eval x = .slice (some ad) M.length cap → wpList P ops Q (o :: rest) a W := by
      intro ad hc hx'
      obtain ⟨v', w', hr, k1, k2, k3⟩ := run_append_own (P := P) W B t o.type e i z 1 bytes ht.und hi hiz his hib hz ht.pos v L.length _ hv.own ad M.length cap _ hlen hc h1 (by unfold maxLen; omega) (by omega) hx0
      subst hib
      have hown' := hv.own
      rw [← his] at hown'
      have hw := append_where (P := P) ht.und hi hiz hown' (m := M.length) (c := cap) (by rw [his]; exact hlen) hc h1 (by unfold maxLen; omega) (by omega) hr
      refine wpList_plain hgd fun K hK => ?_
      unfold Oper.wp
      simp [execOp, ho, resolve, invoke, builtin, hs, hx', hr, Result.andThen]
      have hmv : Moved W v v' := by
        rcases hw with hw | hw
        · exact .inl hw
        · exact .inr fun k hk => by rw [hw] at hk; have := Option.some.inj hk; omega
      exact hK _ _ (h v' w' _ (hv.app hu hBB hd k1 k2 hmv) k2 hmv)
    rcases Nat.eq_zero_or_pos M.length with h0 | h0
    · refine go ad (fun j y hy => ?_) hx
      rw [h0] at hy; simp at hy
    · obtain ⟨b, off, hb, _⟩ := h5 0 (by simp; omega)
      obtain rfl := Option.some.inj hb
      refine go _ (fun j y hy => ?_) hx
      obtain ⟨hj, rfl⟩ := List.getElem?_eq_some_iff.1 hy
      obtain ⟨b', off', hb', hc'⟩ := h5 j hj
      obtain ⟨rfl, rfl⟩ : b = b' ∧ off = off' := by simpa using hb'
      rw [Addr.add_lit]; exact hc'
end
def nodL (p : Int) (k : Nat) (pl : List Int) (rows : List (List Int)) : Nat → Nat → Nat → List (List Int)
  | 0, _, _ => []
  | f + 1, a, n => if sho pl a ((a : Int) + n) = true then (if n = 1 then [] else nodL p k pl rows f a (lfN n) ++ nodL p k pl rows f (a + lfN n) (n - lfN n)) else [rootF p k n ((rows.drop a).take n)]
theorem nodL_length (p : Int) (k : Nat) (pl : List Int) (rows : List (List Int)) : ∀ f a n, 1 ≤ n → n ≤ f → (nodL p k pl rows f a n).length = hidN pl f a n ∧ (nodL p k pl rows f a n).length ≤ n
  | 0, a, n, h1, h2 => by omega
  | f + 1, a, n, h1, h2 => by
    simp only [nodL, hidN]
    by_cases hs : sho pl a ((a : Int) + n) = true
    · rw [if_pos hs, if_pos hs]
      by_cases hn : n = 1
      · rw [if_pos hn, if_pos hn]; exact ⟨rfl, Nat.zero_le _⟩
      · rw [if_neg hn, if_neg hn]
        have hb := lfN_bd (show 2 ≤ n by omega)
        have e1 := nodL_length p k pl rows f a (lfN n) hb.1 (by omega)
        have e2 := nodL_length p k pl rows f (a + lfN n) (n - lfN n) (by omega) (by omega)
        rw [List.length_append]
        omega
    · rw [if_neg hs, if_neg hs]
      exact ⟨rfl, by simpa using h1⟩
end Go.Att
namespace Go.Proofs.YtfepefbehgbjpaaGreatDoor
open Go.RowKit Go.Att
section
variable {w : World} {p : Int} {k : Nat}
set_option maxRecDepth 100000 in
set_option maxHeartbeats 4000000 in
theorem rleafN_any (h23 : 23 ≤ p) (hp2 : p ≤ 2147483647) (hk : IsPw p k) {v : Value} {l : List Int} (hv : Ints w v l) (hs : l.length ≤ 1048575000) :
    Calls Tryz.prog 99 #[.int .i64 p, v] w (Gives w fun u w' => Ints w' u (hashP p k (0 :: l)) ∧ NewIn w u ∧ OldIn w' u) := by
  have HV := Lib.hid hv; have HK := Lib.hid hk
  have HX1 := Lib.hid (Ext.alloc w (Obj.cells #[.int .i64 0] 3))
  have HO1 := Lib.hid (own_litB (W := w) (B := w.heap.size) [.int .i64 0] 3 (by simp) (Nat.le_refl _))
  clear hv hk
  go_enter Tryz.func99, Tryz.ntmps99
  go_wp2_with (first | (at_builtin; refine wpList_appSl rfl _ _ 22 rfl slInts rfl HX1.out HO1.out rfl (HV.out.ext HX1.out) (by intro u hu; simp only [List.mem_map] at hu; obtain ⟨_, _, rfl⟩ := hu; rfl) rfl (by show 1 + l.length ≤ _; omega) (by omega) ?_; intro v6 w6 HO6 HX6 _; have HI6 := Lib.hid (show Ints w6 v6 (0 :: l) from Ints.of_own (B := w.heap.size) (e := 3) HO6); clear HO6) | (go_at_call 97; refine (rhash_any p k v6 (0 :: l) w6 h23 hp2 HK.out HI6.out (by simp; omega)).mono ?_; rintro e w7 ⟨v7, rfl, hx7, hi7, hn7⟩))
  go_ret
  exact .mk _ rfl (HX6.trans hx7) ⟨hi7, hn7.mono HX6.size, fun q hq => ints_blk hi7 (by rw [hashP_length]; omega) hq⟩
set_option maxRecDepth 100000 in
set_option maxHeartbeats 4000000 in
theorem rnodeN_any (h23 : 23 ≤ p) (hp2 : p ≤ 2147483647) (hk : IsPw p k) {v u : Value} {l m : List Int} (hv : Ints w v l) (hu : Ints w u m) (hs : l.length ≤ 1000) (hs2 : m.length ≤ 1000) :
    Calls Tryz.prog 101 #[.int .i64 p, v, u] w (Gives w fun u w' => Ints w' u (hashP p k (1 :: (l ++ m))) ∧ NewIn w u ∧ OldIn w' u) := by
  have HV := Lib.hid hv; have HK := Lib.hid hk; have HU := Lib.hid hu
  have HX1 := Lib.hid (Ext.alloc w (Obj.cells #[.int .i64 1] 3))
  have HO1 := Lib.hid (own_litB (W := w) (B := w.heap.size) [.int .i64 1] 3 (by simp) (Nat.le_refl _))
  clear hv hk hu
  go_enter Tryz.func101, Tryz.ntmps101
  go_wp2_with (first | (at_builtin; refine wpList_appSl rfl _ _ 22 rfl slInts rfl HX1.out HO1.out rfl (HV.out.ext HX1.out) (by intro u hu; simp only [List.mem_map] at hu; obtain ⟨_, _, rfl⟩ := hu; rfl) rfl (by show 1 + l.length ≤ _; omega) (by omega) ?_; intro v6 w6 HO6 HX6 _; have HO6H := Lib.hid HO6; clear HO6) | (at_builtin; refine wpList_appSl rfl _ _ 22 rfl slInts rfl HX6 HO6H.out rfl (HU.out.ext HX6) (by intro u hu; simp only [List.mem_map] at hu; obtain ⟨_, _, rfl⟩ := hu; rfl) rfl (by show 1 + l.length + m.length ≤ _; omega) (by omega) ?_; intro v8 w8 HO8 HX8 _; have HI8 := Lib.hid (show Ints w8 v8 (1 :: (l ++ m)) from Ints.of_own (B := w.heap.size) (e := 3) (n := 1 + l.length + m.length) (by simpa using HO8)); clear HO8) | (go_at_call 97; refine (rhash_any p k v8 (1 :: (l ++ m)) w8 h23 hp2 HK.out HI8.out (by simp; omega)).mono ?_; rintro e w9 ⟨v9, rfl, hx9, hi9, hn9⟩))
  go_ret
  exact .mk _ rfl (HX8.trans hx9) ⟨hi9, hn9.mono HX8.size, fun q hq => ints_blk hi9 (by rw [hashP_length]; omega) hq⟩
set_option maxRecDepth 100000 in
set_option maxHeartbeats 4000000 in
theorem rrootN_any (h23 : 23 ≤ p) (hp2 : p ≤ 2147483647) (hk : IsPw p k) (f : Nat) (w : World) (v : Value) (L : List (List Int)) (R : Nat → Value) (hr : RwsAt w v L R) (h1 : 1 ≤ L.length) (h2 : L.length ≤ f) (h3 : L.length ≤ 65536) (h4 : ∀ i, i < L.length → (nthL L i).length ≤ 1048575000) :
    Calls Tryz.prog 47 #[.int .i64 p, v] w (Gives w fun u w' => Ints w' u (rootF p k f L) ∧ NewIn w u ∧ OldIn w' u) := by
  match f, h2 with
  | 0, h2 => omega
  | f + 1, h2 =>
    have HK := Lib.hid hk
    have hll := hr.run_len (P := Tryz.prog) slRows
    by_cases hn1 : L.length = 1
    · have HRF := Lib.hid (show rootF p k (f + 1) L = hashP p k (0 :: nthL L 0) from by simp only [rootF]; rw [if_pos hn1])
      have hix := hr.run_index (P := Tryz.prog) slRows 0 (by omega)
      have hcx := hr.cell 0 (by omega)
      rw [show ((0 : Nat) : Int) = 0 from rfl] at hix
      have HROW := Lib.hid (hr.row 0 (by omega))
      have HL0 := Lib.hid (h4 0 (by omega))
      rw [hn1] at hll
      clear hr h4 hk
      go_enter Tryz.func47, Tryz.ntmps47
      go_wp2_with (go_at_call 99; refine (rleafN_any h23 hp2 HK.out HROW.out HL0.out).mono ?_; rintro e w2 ⟨v2, rfl, hx2, hi2, hn2, ho2⟩)
      go_ret
      exact .mk _ rfl hx2 ⟨by rw [HRF.out]; exact hi2, hn2, ho2⟩
    · obtain ⟨n, hn⟩ : ∃ n, L.length = n := ⟨_, rfl⟩
      have hn2 : 2 ≤ n := by omega
      have hLB := lfN_bd hn2
      obtain ⟨m, hm⟩ : ∃ m, lfN n = m := ⟨_, rfl⟩
      rw [hm] at hLB
      have ht := rows_take hr (P := Tryz.prog) slRows m (by omega)
      have hd := rows_drop hr (P := Tryz.prog) slRows m (by omega)
      obtain ⟨A, hA⟩ : ∃ A, rootF p k f (L.take m) = A := ⟨_, rfl⟩
      obtain ⟨B, hB⟩ : ∃ B, rootF p k f (L.drop m) = B := ⟨_, rfl⟩
      have HRF := Lib.hid (show rootF p k (f + 1) L = hashP p k (1 :: (A ++ B)) from by simp only [rootF]; rw [if_neg hn1, hn, hm, hA, hB])
      have hlA : A.length ≤ 4 := by rw [← hA]; exact rootF_len _ _ _ _
      have hlB : B.length ≤ 4 := by rw [← hB]; exact rootF_len _ _ _ _
      have hit := ht.1; have hid := hd.1
      have CA := Lib.hid (by have := rroot_any h23 hp2 hk f w (upTo v m) (L.take m) R ht.2 (by simp; omega) (by simp; omega) (by simp; omega) (fun i hi => by rw [nthL_take (by simp at hi; omega)]; exact h4 i (by simp at hi; omega)); rw [hA] at this; exact this)
      have CB := Lib.hid (fun W' (h : Ext w W') => by have := rroot_any h23 hp2 hk f W' (fromV v m) (L.drop m) _ (hd.2.ext h) (by simp; omega) (by simp; omega) (by simp; omega) (fun i hi => by rw [nthL_drop]; exact h4 (m + i) (by simp at hi; omega)); rw [hB] at this; exact this)
      have CL := Lib.hid (fun W' => by have := rleft_any n hn2 (by omega) W'; rw [hm] at this; exact this)
      have hn1' : ¬ ((n : Int) = 1) := by omega
      rw [hn] at hll
      clear hr h4 hk ht hd hA hB hm hn hn1
      go_enter Tryz.func47, Tryz.ntmps47
      go_wp2_with (go_at_call 100; refine (CL.out _).mono ?_; rintro e w' ⟨rfl, rfl⟩)
      refine CA.out.mono ?_
      rintro e w2 ⟨v2, rfl, hx2, hi2⟩
      have HI2 := Lib.hid hi2
      clear hi2
      go_wp2_with fail
      refine (CB.out _ hx2).mono ?_
      rintro e w3 ⟨v3, rfl, hx3, hi3⟩
      have HI3 := Lib.hid hi3
      clear hi3
      go_wp2_with (go_at_call 101; refine (rnodeN_any h23 hp2 HK.out (HI2.out.ext hx3) HI3.out (by omega) (by omega)).mono ?_; rintro e w4 ⟨v4, rfl, hx4, hi4, hn4, ho4⟩)
      go_ret
      exact .mk _ rfl (hx2.trans (hx3.trans hx4)) ⟨by rw [HRF.out]; exact hi4, hn4.mono (hx2.trans hx3).size, ho4⟩
end
section
variable {p : Int} {k : Nat} {pl : List Int} {rows : List (List Int)}
set_option maxRecDepth 100000 in
set_option maxHeartbeats 8000000 in
theorem rnodes_any (h23 : 23 ≤ p) (hp2 : p ≤ 2147483647) (hk : IsPw p k) (hrl : rows.length ≤ 65536) (hrw : ∀ i, i < rows.length → (nthL rows i).length ≤ 1048575000) {pv : Value} : ∀ (f n a : Nat), 1 ≤ n → n ≤ f → a + n ≤ rows.length → ∀ (w : World) (v : Value) (R : Nat → Value), RwsAt w v ((rows.drop a).take n) R → Ints w pv pl →
    Calls Tryz.prog 108 #[.int .i64 p, v, pv, .int .i64 a] w (Gives w fun u w' => ∃ T, Grid w.heap.size w' 22 u (nodL p k pl rows f a n) T)
  | 0, n, a, h1, h2, h3, w, v, R, hr, hp => by omega
  | f + 1, n, a, h1, h2, h3, w, v, R, hr, hp => by
    have hcl : ((rows.drop a).take n).length = n := by rw [List.length_take, List.length_drop]; omega
    have HK := Lib.hid hk; have HR := Lib.hid hr; have HP := Lib.hid hp
    have hll := hr.run_len (P := Tryz.prog) slRows
    rw [hcl] at hll
    have CS := Lib.hid (some_any (w := w) hp (a : Int) ((a : Int) + n))
    have hna : IntKind.i64.wrap ((a : Int) + n) = (a : Int) + n := IntWalk.i64_in _ (by omega)
    have HND := Lib.hid (show nodL p k pl rows (f + 1) a n = if sho pl a ((a : Int) + n) = true then (if n = 1 then [] else nodL p k pl rows f a (lfN n) ++ nodL p k pl rows f (a + lfN n) (n - lfN n)) else [rootF p k n ((rows.drop a).take n)] from rfl)
    have hrwc : ∀ i, i < ((rows.drop a).take n).length → (nthL ((rows.drop a).take n) i).length ≤ 1048575000 := fun i hi => by
      rw [hcl] at hi
      rw [nthL_take hi, nthL_drop]; exact hrw _ (by omega)
    obtain ⟨sh, hsh⟩ : ∃ sh, sho pl a ((a : Int) + n) = sh := ⟨_, rfl⟩
    rw [hsh] at CS HND
    clear hsh
    cases sh with
    | false =>
      have CR := Lib.hid (fun W (hx : Ext w W) => rrootN_any h23 hp2 hk n W v _ R (hr.ext hx) (by omega) (by omega) (by omega) hrwc)
      have HN2 := Lib.hid (show nodL p k pl rows (f + 1) a n = [rootF p k n ((rows.drop a).take n)] from by rw [HND.out]; rfl)
      clear hr hp hk hrwc HND
      go_enter Tryz.func108, Tryz.ntmps108
      go_upto_region 3 with (go_at_call 142; refine CS.out.mono ?_; rintro e w1 ⟨rfl, hx1⟩; have HX1 := Lib.hid hx1; clear hx1)
      go_upto_region 4 with (go_at_call 47; refine (CR.out _ HX1.out).mono ?_; rintro e w2 ⟨v2, rfl, hx2, hi2, hn2, ho2⟩; have HX2 := Lib.hid hx2; have HI2 := Lib.hid hi2; have HN := Lib.hid hn2; have HO := Lib.hid ho2; clear hx2 hi2 hn2 ho2)
      obtain ⟨qa, qc, rfl⟩ := HI2.out.shape
      go_wp2_with fail
      go_ret
      exact .mk _ rfl (HX1.out.trans (HX2.out.trans (Ext.alloc _ _))) ⟨_, by rw [HN2.out]; exact Grid.one HI2.out (fun q hq => ⟨Nat.le_trans HX1.out.size (HN.out q hq), HO.out q hq⟩) (HX1.out.trans HX2.out).size⟩
    | true =>
      by_cases hn1 : n = 1
      · have HN2 := Lib.hid (show nodL p k pl rows (f + 1) a n = [] from by rw [HND.out, if_pos rfl, if_pos hn1])
        clear hr hp hk hrwc HND
        go_enter Tryz.func108, Tryz.ntmps108
        subst hn1
        go_wp2_with (go_at_call 142; refine CS.out.mono ?_; rintro e w1 ⟨rfl, hx1⟩; have HX1 := Lib.hid hx1; clear hx1)
        go_ret
        exact .mk _ rfl HX1.out ⟨R, by rw [HN2.out]; exact Grid.nil _ _ _ _⟩
      · have hn2 : 2 ≤ n := by omega
        have hLB := lfN_bd hn2
        have ht := rows_take hr (P := Tryz.prog) slRows (lfN n) (by omega)
        have hd := rows_drop hr (P := Tryz.prog) slRows (lfN n) (by omega)
        rw [cut_take _ _ _ _ (by omega)] at ht
        rw [cut_drop] at hd
        have HTI := Lib.hid ht.1; have HDI := Lib.hid hd.1
        have CA := Lib.hid (fun W (hx : Ext w W) => rnodes_any h23 hp2 hk hrl hrw f (lfN n) a hLB.1 (by omega) (by omega) W (upTo v (lfN n)) R (ht.2.ext hx) (hp.ext hx))
        have CB := Lib.hid (fun W (hx : Ext w W) => rnodes_any h23 hp2 hk hrl hrw f (n - lfN n) (a + lfN n) (by omega) (by omega) (by omega) W (fromV v (lfN n)) _ (hd.2.ext hx) (hp.ext hx))
        have CL := Lib.hid (fun W => rleft_any n hn2 (by omega) W)
        have HNL := Lib.hid (show (nodL p k pl rows f a (lfN n)).length + (nodL p k pl rows f (a + lfN n) (n - lfN n)).length ≤ 4294967296 from by
          have e1 := (nodL_length p k pl rows f a (lfN n) hLB.1 (by omega)).2
          have e2 := (nodL_length p k pl rows f (a + lfN n) (n - lfN n) (by omega) (by omega)).2
          omega)
        have HN2 := Lib.hid (show nodL p k pl rows (f + 1) a n = nodL p k pl rows f a (lfN n) ++ nodL p k pl rows f (a + lfN n) (n - lfN n) from by rw [HND.out, if_pos rfl, if_neg hn1])
        obtain ⟨N1, hN1⟩ : ∃ N1, nodL p k pl rows f a (lfN n) = N1 := ⟨_, rfl⟩
        obtain ⟨N2, hN2⟩ : ∃ N2, nodL p k pl rows f (a + lfN n) (n - lfN n) = N2 := ⟨_, rfl⟩
        rw [hN1] at CA HN2 HNL
        rw [hN2] at CB HN2 HNL
        obtain ⟨m, hm⟩ : ∃ m, lfN n = m := ⟨_, rfl⟩
        rw [hm] at CA CB CL hLB HTI HDI
        have hti := HTI.out; have hdi := HDI.out
        have hn1' : ¬ ((n : Int) = 1) := by omega
        have hnm : IntKind.i64.wrap ((a : Int) + m) = ((a + m : Nat) : Int) := by rw [IntWalk.i64_in _ (by omega)]; push_cast; rfl
        clear hr hp hk hrwc HND ht hd hm hN1 hN2 HTI HDI hn1 hrw
        go_enter Tryz.func108, Tryz.ntmps108
        go_upto_region 2 with (go_at_call 142; refine CS.out.mono ?_; rintro e w1 ⟨rfl, hx1⟩; have HX1 := Lib.hid hx1; clear hx1)
        go_upto_region 8 with (go_at_call 100; refine (CL.out _).mono ?_; rintro e w' ⟨rfl, rfl⟩)
        go_upto_region 9 with (go_at_call 108; refine (CA.out _ HX1.out).mono ?_; rintro e w2 ⟨v2, rfl, hx2, T1, hg1⟩; have HX2 := Lib.hid hx2; have HG1 := Lib.hid hg1; clear hx2 hg1)
        have HXB := Lib.hid (HX1.out.trans HX2.out)
        go_upto_region 10 with (go_at_call 108; refine (CB.out _ HXB.out).mono ?_; rintro e w3 ⟨v3, rfl, hx3, T2, hg2⟩; have HX3 := Lib.hid hx3; have HG2 := Lib.hid hg2; clear hx3 hg2)
        go_wp2_with (at_builtin; refine wpList_appGrid (B := w.heap.size) rfl _ _ 29 rfl slRows rfl (HXB.out.trans HX3.out).size ((HG1.out.ext HX3.out).base HX1.out.size) rfl HG2.out HXB.out.size (fun i hi q hq e => by have h1 := (HG2.out.lt i hi q hq).1; have h2 := (HG1.out.own.lt q e.symm).2; omega) rfl HNL.out (by omega) ?_; intro v4 w4 T hg4 hgr4 hm4; have HG4 := Lib.hid hg4; have HGR4 := Lib.hid hgr4; clear hg4 hgr4 hm4)
        go_ret
        refine .mk _ rfl (Below.grown (HXB.out.trans HX3.out).below HGR4.out (HXB.out.trans HX3.out).size fun q hq => Nat.le_trans HX1.out.size (HG1.out.own.lt q hq).1) ⟨T, by rw [HN2.out]; exact HG4.out⟩
end
end Go.Proofs.YtfepefbehgbjpaaGreatDoor
end
section
namespace Go.Att
open Go.RowKit
def SP.intsN (B : Nat) (l : List Int) : SP := ⟨fun v W => Ints W v l ∧ ∀ q, v.ownBlock = some q → B ≤ q, fun _ _ _ h hx => ⟨h.1.ext hx, h.2⟩⟩
end Go.Att
namespace Go.Proofs.YtfepefbehgbjpaaGreatDoor
open Go.RowKit Go.Att
section
variable {w0 : World} {bs : Nat} {p : Int} {k : Nat} {vr : Value} {rows : List (List Int)} {R : Nat → Value}
set_option maxRecDepth 100000 in
set_option maxHeartbeats 8000000 in
theorem trootN_any (hs : Spg w0 (.pointer (some ⟨bs, 0, none⟩)) p k) (hr : RwsAt w0 vr rows R) (hl : rows.length ≤ 65536) (hrl : ∀ i, i < rows.length → (nthL rows i).length ≤ 4294960000) (f n a : Nat) (h1 : 1 ≤ n) (h2 : n ≤ f) (h3 : a + n ≤ rows.length) (W : World) (hW : Ext w0 W) :
    Calls Tryz.prog 77 #[.pointer (some ⟨bs, 0, none⟩), vr, .agg #[.int .i64 a, .int .i64 ((a : Int) + n)]] W (Gives W fun u w' => Ints w' u (rootF p k f ((rows.drop a).take n)) ∧ NewIn W u) := by
  match f, h2 with
  | 0, h2 => omega
  | f + 1, h2 =>
    have HS := Lib.hid hs; have HR := Lib.hid hr; have HRL := Lib.hid hrl; have HW := Lib.hid hW
    have hcl : ((rows.drop a).take n).length = n := by rw [List.length_take, List.length_drop]; omega
    obtain ⟨b, hb⟩ : ∃ b : Int, (a : Int) + n = b := ⟨_, rfl⟩
    rw [hb]
    have HBN := Lib.hid hb
    have hbb : (a : Int) < b ∧ b ≤ 65536 := by omega
    have hX0 := Ext.alloc W (Obj.cells #[.int .i64 a, .int .i64 b] 127)
    have HX0 := Lib.hid (hW.trans hX0)
    have k0 := cell_new W #[.int .i64 a, .int .i64 b] 127 0
    have k1 := cell_new W #[.int .i64 a, .int .i64 b] 127 1
    have HK0 := Lib.hid k0; have HK1 := Lib.hid k1
    have HXW := Lib.hid hX0
    clear k0 k1 hX0
    by_cases hn1 : n = 1
    · have e1 : (b - (a : Int) == 1) = true := by rw [beq_iff_eq]; omega
      have HRF := Lib.hid (show rootF p k (f + 1) ((rows.drop a).take n) = hashP p k (0 :: nthL rows a) from by
        subst hn1
        simp only [rootF]; rw [if_pos hcl, cut_nth _ _ _ (by omega) (by omega)])
      have ha : a < rows.length := by omega
      have HIX := Lib.hid (hr.run_index (P := Tryz.prog) slRows a ha)
      have HCX := Lib.hid (HX0.out.cell (hr.cell a ha))
      have hrow := (hr.row a ha).ext HX0.out
      have HLA := Lib.hid (hrl a ha)
      obtain ⟨ai, ci, hsh⟩ := hrow.shape
      rw [hsh] at hrow HCX
      have HROW := Lib.hid hrow
      clear hs hr hrl hW hrow hsh hb hn1 hcl
      go_enter Tryz.func77, Tryz.ntmps77
      go_upto_region 1 with (fail)
      generalize W.alloc (Obj.cells #[.int .i64 a, .int .i64 b] 127) = w1 at *
      have k0 : w1.cell? ⟨W.heap.size, 0, none⟩ = some (.int .i64 a) := HK0.out
      have k1 : w1.cell? ⟨W.heap.size, 1, none⟩ = some (.int .i64 b) := HK1.out
      have hix := HIX.out; have hcx := HCX.out
      have HRR := Lib.hid (rows_lit1 HROW.out 22)
      have HX2 := Lib.hid (Ext.alloc w1 (Obj.cells #[.slice ai (nthL rows a).length ci] 22))
      go_wp2_with (first | (go_at_call 126; refine (tjoined_any 0 HRR.out (by have := HLA.out; simp; omega) (by simp)).mono ?_; rintro e w3 ⟨v3, rfl, hx3, hi3⟩; have HX3 := Lib.hid (HX2.out.trans hx3); have HI3 := Lib.hid (show Ints w3 v3 (0 :: nthL rows a) from by simpa using hi3); clear hx3 hi3) | (go_at_call 71; refine (hashG_any (HS.out.ext (HX0.out.trans HX3.out)) _ (0 :: nthL rows a) HI3.out (by have := HLA.out; simp; omega)).mono ?_; rintro e w4 ⟨v4, rfl, hx4, hi4, hn4⟩))
      go_ret
      exact .mk _ rfl (HXW.out.trans (HX3.out.trans hx4)) ⟨by rw [HRF.out]; exact hi4, hn4.mono (HXW.out.trans HX3.out).size⟩
    · have hn2 : 2 ≤ n := by omega
      have hLB := lfN_bd hn2
      obtain ⟨A, hA⟩ : ∃ A, rootF p k f ((rows.drop a).take (lfN n)) = A := ⟨_, rfl⟩
      obtain ⟨B, hB⟩ : ∃ B, rootF p k f ((rows.drop (a + lfN n)).take (n - lfN n)) = B := ⟨_, rfl⟩
      have HRF := Lib.hid (show rootF p k (f + 1) ((rows.drop a).take n) = hashP p k (1 :: (A ++ B)) from by
        simp only [rootF]; rw [if_neg (by rw [hcl]; exact hn1), hcl, cut_take _ _ _ _ (by omega), cut_drop, hA, hB])
      have hlA : A.length ≤ 4 := by rw [← hA]; exact rootF_len _ _ _ _
      have hlB : B.length ≤ 4 := by rw [← hB]; exact rootF_len _ _ _ _
      obtain ⟨c, hc⟩ : ∃ c : Int, (a : Int) + lfN n = c := ⟨_, rfl⟩
      have CA := Lib.hid (fun W' (h : Ext w0 W') => by have := troot_any hs hr hl hrl f (lfN n) a hLB.1 (by omega) (by omega) W' h; rw [hA, hc] at this; exact this)
      have CB := Lib.hid (fun W' (h : Ext w0 W') => by
        have := troot_any hs hr hl hrl f (n - lfN n) (a + lfN n) (by omega) (by omega) (by omega) W' h
        rw [hB, show ((a + lfN n : Nat) : Int) + ((n - lfN n : Nat) : Int) = b by omega, show ((a + lfN n : Nat) : Int) = c by omega] at this
        exact this)
      have e1 : (b - (a : Int) == 1) = false := by rw [beq_eq_false_iff_ne]; omega
      have CH := Lib.hid (fun (W' : World) => by
        have := thalves_any (w := W') a n hn2 (by omega)
        rw [hb, hc] at this
        exact this)
      have hcb : (a : Int) < c ∧ c < b := by omega
      clear hs hr hrl hW hn1 hA hB hcl hb hc hLB
      go_enter Tryz.func77, Tryz.ntmps77
      go_upto_region 1 with (fail)
      generalize W.alloc (Obj.cells #[.int .i64 a, .int .i64 b] 127) = w1 at *
      have k0 : w1.cell? ⟨W.heap.size, 0, none⟩ = some (.int .i64 a) := HK0.out
      have k1 : w1.cell? ⟨W.heap.size, 1, none⟩ = some (.int .i64 b) := HK1.out
      go_upto_region 4 with (go_at_call 127; refine (CH.out _).mono ?_; rintro e w2 ⟨v2, rfl, hx2, rfl⟩)
      have hq1 := Ext.alloc w2 (Obj.cells #[.int .i64 (a : Int), .int .i64 c] 127)
      have q0 := cell_new w2 #[.int .i64 (a : Int), .int .i64 c] 127 0
      have q1 := cell_new w2 #[.int .i64 (a : Int), .int .i64 c] 127 1
      have e3 : (w2.alloc (Obj.cells #[.int .i64 (a : Int), .int .i64 c] 127)).heap.size = w2.heap.size + 1 := Array.size_push _
      generalize w2.alloc (Obj.cells #[.int .i64 (a : Int), .int .i64 c] 127) = w3 at *
      have hq2 := Ext.alloc w3 (Obj.cells #[.int .i64 c, .int .i64 b] 127)
      have r0 := cell_new w3 #[.int .i64 c, .int .i64 b] 127 0
      have r1 := cell_new w3 #[.int .i64 c, .int .i64 b] 127 1
      have g0 := hq2.cell q0
      have g1 := hq2.cell q1
      generalize w3.alloc (Obj.cells #[.int .i64 c, .int .i64 b] 127) = w4 at *
      rw [e3] at r0 r1
      have g2 : w4.cell? ⟨w2.heap.size + 1, 0, none⟩ = some (.int .i64 c) := r0
      have g3 : w4.cell? ⟨w2.heap.size + 1, 1, none⟩ = some (.int .i64 b) := r1
      replace g0 : w4.cell? ⟨w2.heap.size, 0, none⟩ = some (.int .i64 a) := g0
      replace g1 : w4.cell? ⟨w2.heap.size, 1, none⟩ = some (.int .i64 c) := g1
      have hxw4 := hx2.trans (hq1.trans hq2)
      replace HXW := Lib.hid (HXW.out.trans hxw4)
      replace HX0 := Lib.hid (HX0.out.trans hxw4)
      have HWS := Lib.hid HXW.out.size
      clear hxw4 hq1 hq2 hx2 q0 q1 r0 r1 e3 k0 k1 HK0 HK1 hbb hcb
      refine wp_region_ext 12 [SP.eq (.pointer (some ⟨bs, 0, none⟩)), SP.eq (.pointer (some ⟨bs, 0, none⟩)), SP.eq vr, SP.eq (.agg #[.int .i64 (a : Int), .int .i64 c]), SP.ints A, SP.eq (.pointer (some ⟨bs, 0, none⟩)), SP.eq vr, SP.eq (.agg #[.int .i64 c, .int .i64 b]), SP.ints B, SP.rows [A, B], SP.ints (1 :: (A ++ B)), SP.intsN W.heap.size (hashP p k (1 :: (A ++ B)))] (by kernel_rfl) (by kernel_rfl) (by kernel_rfl) ?_ ?_
      · refine ⟨?_, ?_, ?_, ?_, ?_, ?_, ?_, ?_, ?_, ?_, ?_, ?_, trivial⟩
        · refine ExtStep.mk rfl fun vs W hx hd => ?_
          clear hd
          simp only [fillA, fillL, dstL, List.take_succ_cons, List.take_zero, List.filterMap_cons, List.filterMap_nil, List.contains_cons, List.contains_nil, Nat.reduceAdd, Nat.zero_add, Nat.reduceBEq, Bool.or_false, Bool.or_true, Bool.false_eq_true, ↓reduceIte]
          go_wp2_with fail
          exact ⟨by trivial, Ext.refl _, rfl⟩
        · refine ExtStep.mk rfl fun vs W hx hd => ?_
          clear hd
          simp only [fillA, fillL, dstL, List.take_succ_cons, List.take_zero, List.filterMap_cons, List.filterMap_nil, List.contains_cons, List.contains_nil, Nat.reduceAdd, Nat.zero_add, Nat.reduceBEq, Bool.or_false, Bool.or_true, Bool.false_eq_true, ↓reduceIte]
          go_wp2_with fail
          exact ⟨by trivial, Ext.refl _, rfl⟩
        · refine ExtStep.mk rfl fun vs W hx hd => ?_
          clear hd
          simp only [fillA, fillL, dstL, List.take_succ_cons, List.take_zero, List.filterMap_cons, List.filterMap_nil, List.contains_cons, List.contains_nil, Nat.reduceAdd, Nat.zero_add, Nat.reduceBEq, Bool.or_false, Bool.or_true, Bool.false_eq_true, ↓reduceIte]
          go_wp2_with fail
          exact ⟨by trivial, Ext.refl _, rfl⟩
        · refine ExtStep.mk rfl fun vs W hx hd => ?_
          clear hd
          simp only [fillA, fillL, dstL, List.take_succ_cons, List.take_zero, List.filterMap_cons, List.filterMap_nil, List.contains_cons, List.contains_nil, Nat.reduceAdd, Nat.zero_add, Nat.reduceBEq, Bool.or_false, Bool.or_true, Bool.false_eq_true, ↓reduceIte]
          have hk0 := hx.cell g0
          have hk1 := hx.cell g1
          go_wp2_with fail
          exact ⟨by trivial, Ext.refl _, rfl⟩
        · refine ExtStep.mk rfl fun vs W hx hd => ?_
          have e30 : vs 30 = (.pointer (some ⟨bs, 0, none⟩)) := hd 1 (by kernel_rfl)
          have e31 : vs 31 = vr := hd 2 (by kernel_rfl)
          have e32 : vs 32 = (.agg #[.int .i64 (a : Int), .int .i64 c]) := hd 3 (by kernel_rfl)
          clear hd
          simp only [fillA, fillL, dstL, List.take_succ_cons, List.take_zero, List.filterMap_cons, List.filterMap_nil, List.contains_cons, List.contains_nil, Nat.reduceAdd, Nat.zero_add, Nat.reduceBEq, Bool.or_false, Bool.or_true, Bool.false_eq_true, ↓reduceIte]
          rw [e30, e31, e32]
          go_wp2_with (go_at_call 77; refine (CA.out _ (HX0.out.trans hx)).mono ?_; rintro e w3 ⟨v3, rfl, hx3, hi3⟩)
          exact ⟨by trivial, hx3, hi3⟩
        · refine ExtStep.mk rfl fun vs W hx hd => ?_
          clear hd
          simp only [fillA, fillL, dstL, List.take_succ_cons, List.take_zero, List.filterMap_cons, List.filterMap_nil, List.contains_cons, List.contains_nil, Nat.reduceAdd, Nat.zero_add, Nat.reduceBEq, Bool.or_false, Bool.or_true, Bool.false_eq_true, ↓reduceIte]
          go_wp2_with fail
          exact ⟨by trivial, Ext.refl _, rfl⟩
        · refine ExtStep.mk rfl fun vs W hx hd => ?_
          clear hd
          simp only [fillA, fillL, dstL, List.take_succ_cons, List.take_zero, List.filterMap_cons, List.filterMap_nil, List.contains_cons, List.contains_nil, Nat.reduceAdd, Nat.zero_add, Nat.reduceBEq, Bool.or_false, Bool.or_true, Bool.false_eq_true, ↓reduceIte]
          go_wp2_with fail
          exact ⟨by trivial, Ext.refl _, rfl⟩
        · refine ExtStep.mk rfl fun vs W hx hd => ?_
          clear hd
          simp only [fillA, fillL, dstL, List.take_succ_cons, List.take_zero, List.filterMap_cons, List.filterMap_nil, List.contains_cons, List.contains_nil, Nat.reduceAdd, Nat.zero_add, Nat.reduceBEq, Bool.or_false, Bool.or_true, Bool.false_eq_true, ↓reduceIte]
          have hk0 := hx.cell g2
          have hk1 := hx.cell g3
          go_wp2_with fail
          exact ⟨by trivial, Ext.refl _, rfl⟩
        · refine ExtStep.mk rfl fun vs W hx hd => ?_
          have e34 : vs 34 = (.pointer (some ⟨bs, 0, none⟩)) := hd 5 (by kernel_rfl)
          have e35 : vs 35 = vr := hd 6 (by kernel_rfl)
          have e36 : vs 36 = (.agg #[.int .i64 c, .int .i64 b]) := hd 7 (by kernel_rfl)
          clear hd
          simp only [fillA, fillL, dstL, List.take_succ_cons, List.take_zero, List.filterMap_cons, List.filterMap_nil, List.contains_cons, List.contains_nil, Nat.reduceAdd, Nat.zero_add, Nat.reduceBEq, Bool.or_false, Bool.or_true, Bool.false_eq_true, ↓reduceIte]
          rw [e34, e35, e36]
          go_wp2_with (go_at_call 77; refine (CB.out _ (HX0.out.trans hx)).mono ?_; rintro e w3 ⟨v3, rfl, hx3, hi3⟩)
          exact ⟨by trivial, hx3, hi3⟩
        · refine ExtStep.mk rfl fun vs W hx hd => ?_
          have h33 : Ints W (vs 33) A := hd 4 (by kernel_rfl)
          have h37 : Ints W (vs 37) B := hd 8 (by kernel_rfl)
          clear hd
          simp only [fillA, fillL, dstL, List.take_succ_cons, List.take_zero, List.filterMap_cons, List.filterMap_nil, List.contains_cons, List.contains_nil, Nat.reduceAdd, Nat.zero_add, Nat.reduceBEq, Bool.or_false, Bool.or_true, Bool.false_eq_true, ↓reduceIte]
          obtain ⟨a3, c3, e33⟩ := h33.shape
          obtain ⟨a7, c7, e37⟩ := h37.shape
          rw [e33] at h33
          rw [e37] at h37
          rw [e33, e37]
          go_wp2_with fail
          exact ⟨by trivial, Ext.alloc _ _, ⟨_, rows_lit2 h33 h37 _⟩⟩
        · refine ExtStep.mk rfl fun vs W hx hd => ?_
          have h38 : Rws W (vs 38) [A, B] := hd 9 (by kernel_rfl)
          clear hd
          simp only [fillA, fillL, dstL, List.take_succ_cons, List.take_zero, List.filterMap_cons, List.filterMap_nil, List.contains_cons, List.contains_nil, Nat.reduceAdd, Nat.zero_add, Nat.reduceBEq, Bool.or_false, Bool.or_true, Bool.false_eq_true, ↓reduceIte]
          obtain ⟨R38, h38⟩ := h38
          go_wp2_with (go_at_call 126; refine (tjoined_any 1 h38 (by simp; omega) (by simp)).mono ?_; rintro e w3 ⟨v3, rfl, hx3, hi3⟩; replace hi3 : Ints w3 v3 (1 :: (A ++ B)) := by simpa using hi3)
          exact ⟨by trivial, hx3, hi3⟩
        · refine ExtStep.mk rfl fun vs W' hx hd => ?_
          have e29 : vs 29 = (.pointer (some ⟨bs, 0, none⟩)) := hd 0 (by kernel_rfl)
          have h39 : Ints W' (vs 39) (1 :: (A ++ B)) := hd 10 (by kernel_rfl)
          clear hd
          simp only [fillA, fillL, dstL, List.take_succ_cons, List.take_zero, List.filterMap_cons, List.filterMap_nil, List.contains_cons, List.contains_nil, Nat.reduceAdd, Nat.zero_add, Nat.reduceBEq, Bool.or_false, Bool.or_true, Bool.false_eq_true, ↓reduceIte]
          rw [e29]
          go_wp2_with (go_at_call 71; refine (hashG_any (HS.out.ext (HX0.out.trans hx)) _ (1 :: (A ++ B)) h39 (by simp; omega)).mono ?_; rintro e w3 ⟨v3, rfl, hx3, hi3, hn3⟩)
          exact ⟨by trivial, hx3, hi3, fun q hq => Nat.le_trans HWS.out (Nat.le_trans hx.size (hn3 q hq))⟩
      · intro vs w5 hx5 hall
        have h40 : Ints w5 (vs 40) (hashP p k (1 :: (A ++ B))) ∧ NewIn W (vs 40) := hall.at 11 (by omega) rfl
        clear hall
        simp only [fillA, fillL, dstL, List.take_succ_cons, List.take_zero, List.filterMap_cons, List.filterMap_nil, List.contains_cons, List.contains_nil, Nat.reduceAdd, Nat.zero_add, Nat.reduceBEq, Bool.or_false, Bool.or_true, Bool.false_eq_true, ↓reduceIte]
        have H40 := Lib.hid h40
        clear h40
        go_wp2_with fail
        go_ret
        exact .mk _ rfl (HXW.out.trans hx5) ⟨by rw [HRF.out]; exact H40.out.1, H40.out.2⟩
end
end Go.Proofs.YtfepefbehgbjpaaGreatDoor
end
