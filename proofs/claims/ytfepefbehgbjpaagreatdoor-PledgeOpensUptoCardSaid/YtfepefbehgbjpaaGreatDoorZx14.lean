/- The chain of a circuit is begun, on both sides: contracts. The groups of a tree: how many stand at the left; lists joined: contracts. Trees that are shown, plain: places once each; what a group shows; a root worked out of what is shown. No program in sight. Lists of numbers by the library: sorted, each once, compared, searched: contracts in plain words. Places once each, the document's side: contract. Trees that are shown, plain: how many groups are hidden; the digest that what is shown comes to. No program in sight. What a group shows, both sides; a list as elements: contracts. A list as elements, the program's side: contract. The next number below another, off a chain, both sides: contracts. -/
import Derived.Test.YtfepefbehgbjpaaGreatDoorSn
import Derived.Test.YtfepefbehgbjpaaGreatDoorZx11
import Derived.Test.YtfepefbehgbjpaaGreatDoorZx5
import Derived.Test.YtfepefbehgbjpaaGreatDoorSz
import Derived.Test.YtfepefbehgbjpaaGreatDoorZx7
import Derived.Lib.SlicesCompact
import Derived.Test.YtfepefbehgbjpaaGreatDoorZx19
import Derived.Shelf.Sort.Plain
import Derived.Shelf.Slices.CompactI
import Derived.Shelf.Slices.Equal
import Derived.Shelf.Slices.SearchI
import Derived.Shelf.Slices.Empties
import Derived.Shelf.Slices.Empties2
import Derived.BigQuiet
import Derived.Test.YtfepefbehgbjpaaGreatDoorZx2
section
namespace Go.Att
open Go.RowKit
theorem own_litB {W : World} {B : Nat} (xs : List Value) (e : TypeId) (h : xs.length ≤ 65536) (hB : B ≤ W.heap.size) : (W.alloc (.cells xs.toArray e)).ownsRow B e 1 (.slice (some ⟨W.heap.size, 0, none⟩) xs.length xs.length) xs.length xs :=
  ⟨by simp, .inr ⟨W.heap.size, xs.length, xs.toArray, rfl, hB, heap_alloc_new W _, Nat.le_refl _, by unfold maxLen; omega, by simp, by simp⟩⟩
end Go.Att
namespace Go.Proofs.YtfepefbehgbjpaaGreatDoor
open Go.RowKit Go.Att
theorem sfield_q {w : World} {b : Nat} {f : Value} (h : w.cell? ⟨b, 0, none⟩ = some f) (m : Nat) : Calls Tryz.prog 18 #[.pointer (some ⟨b, 0, none⟩)] (w.drewN m) fun e w'' => e = .returned f ∧ ∃ m, w'' = w.drewN m :=
  (sfieldof_any ((Ext.drewN w m).cell h)).mono fun _e _w' ⟨h1, h2⟩ => ⟨h1, m, h2.symm⟩
section
variable {w : World} {p : Int} {k : Nat} {wd : Int} {lv vo : Value} {Ls : List (List Tri)} {R : Nat → Value} {outs : List Int}
end
end Go.Proofs.YtfepefbehgbjpaaGreatDoor
end
section
namespace Go.Att
open Go.RowKit
def lfGo (n : Nat) : Nat → Nat → Nat
  | 0, m => m
  | f + 1, m => if 2 * m < n then lfGo n f (2 * m) else m
def lfN (n : Nat) : Nat := lfGo n n 1
theorem lfGo_done {n m : Nat} (h : ¬ 2 * m < n) : ∀ f, lfGo n f m = m
  | 0 => rfl
  | f + 1 => by simp [lfGo, h]
theorem lfGo_bd {n : Nat} : ∀ (f m : Nat), 1 ≤ m → m < n → 1 ≤ lfGo n f m ∧ lfGo n f m < n
  | 0, m, h1, h2 => ⟨h1, h2⟩
  | f + 1, m, h1, h2 => by
    simp only [lfGo]
    by_cases h : 2 * m < n
    · rw [if_pos h]; exact lfGo_bd f (2 * m) (by omega) h
    · rw [if_neg h]; exact ⟨h1, h2⟩
theorem ext_set {w X : World} {b o : Nat} {v : Value} (h : Ext w X) (hb : w.heap.size ≤ b) : Ext w (X.setCell ⟨b, o, none⟩ v) := Below.grown h.below (setCell_grown _ _ _ _) h.size (fun q e => by cases e; exact hb)
theorem lfN_bd {n : Nat} (h : 2 ≤ n) : 1 ≤ lfN n ∧ lfN n < n := lfGo_bd n 1 (by omega) (by omega)
end Go.Att
namespace Go.Proofs.YtfepefbehgbjpaaGreatDoor
open Go.RowKit Go.Att
section
variable {w : World}
set_option maxRecDepth 100000 in
set_option maxHeartbeats 4000000 in
theorem tjoined_any (first : Int) {v : Value} {L : List (List Int)} {R : Nat → Value} (h : RwsAt w v L R) (hb : L.flatten.length ≤ 4294966000) (hc : L.length ≤ 4294967000) :
    Calls Tryz.prog 126 #[.int .i64 first, v] w (Gives w fun u w' => Ints w' u (first :: L.flatten)) := by
  have HR := Lib.hid h
  obtain ⟨N, hN⟩ : ∃ N, L.flatten.length = N := ⟨_, rfl⟩
  have HN := Lib.hid hN
  rw [hN] at hb
  have HX1 := Lib.hid (Ext.alloc w (Obj.cells #[.int .i64 first] 3))
  have HO1 := Lib.hid (own_litB (W := w) (B := w.heap.size) [.int .i64 first] 3 (by simp) (Nat.le_refl _))
  clear h hN
  go_enter Tryz.func126, Tryz.ntmps126
  go_wp2_with (first | (go_at_call 72; refine (concat_any (HR.out.ext HX1.out) (by rw [HN.out]; omega) hc).mono ?_; rw [HN.out]; rintro e w3 ⟨v3, rfl, hx3, ho3⟩; have HO3 := Lib.hid (own_ext HO1.out hx3); have HX3 := Lib.hid (HX1.out.trans hx3); have hsl := Sl.of_own ho3 (by omega); have HSL := Lib.hid hsl; clear hx3 ho3 hsl) | (at_builtin; refine wpList_appSl rfl _ _ 22 rfl slInts rfl HX3.out HO3.out rfl HSL.out (by intro u hu; simp only [List.mem_map] at hu; obtain ⟨_, _, rfl⟩ := hu; rfl) rfl (by show 1 + N ≤ _; omega) (by omega) ?_; intro v6 w6 HO6 HX6 HG6))
  have HO6H := Lib.hid HO6
  clear HO6
  go_ret
  exact .mk _ rfl HX6 (Ints.of_own (B := w.heap.size) (e := 3) HO6H.out)
set_option maxRecDepth 100000 in
set_option maxHeartbeats 4000000 in
theorem thalves_any (a n : Nat) (hn : 2 ≤ n) (hb : a + n ≤ 65536) :
    Calls Tryz.prog 127 #[.agg #[.int .i64 a, .int .i64 ((a : Int) + n)]] w (Gives w fun u _w' => u = .tuple #[.agg #[.int .i64 a, .int .i64 ((a : Int) + lfN n)], .agg #[.int .i64 ((a : Int) + lfN n), .int .i64 ((a : Int) + n)]]) := by
  have HLB := Lib.hid (lfN_bd hn)
  have HL0 := Lib.hid (show lfGo n n 1 = lfN n from rfl)
  have HX0 := Lib.hid (((Ext.alloc w (Obj.cells #[.int .i64 a, .int .i64 ((a : Int) + n)] 127)).trans (Ext.alloc _ (Obj.cells #[.int .i64 0, .int .i64 0] 127))).trans (Ext.alloc _ (Obj.cells #[.int .i64 0, .int .i64 0] 127)))
  have hb0 := BlkOf.new w [.int .i64 a, .int .i64 ((a : Int) + n)] 127
  have hb1 := BlkOf.new (w.alloc (Obj.cells #[.int .i64 a, .int .i64 ((a : Int) + n)] 127)) [.int .i64 0, .int .i64 0] 127
  have hb2 := BlkOf.new ((w.alloc (Obj.cells #[.int .i64 a, .int .i64 ((a : Int) + n)] 127)).alloc (Obj.cells #[.int .i64 0, .int .i64 0] 127)) [.int .i64 0, .int .i64 0] 127
  rw [World.size_alloc] at hb1
  rw [World.size_alloc, World.size_alloc] at hb2
  have HB0 := Lib.hid (hb0.ext ((Ext.alloc _ (Obj.cells #[.int .i64 0, .int .i64 0] 127)).trans (Ext.alloc _ (Obj.cells #[.int .i64 0, .int .i64 0] 127))))
  have HB1 := Lib.hid (hb1.ext (Ext.alloc _ (Obj.cells #[.int .i64 0, .int .i64 0] 127)))
  have HB2 := Lib.hid hb2
  clear hb0 hb1 hb2
  go_enter Tryz.func127, Tryz.ntmps127
  go_upto_region 1 with (fail)
  generalize hW : ((w.alloc (Obj.cells #[.int .i64 a, .int .i64 ((a : Int) + n)] 127)).alloc (Obj.cells #[.int .i64 0, .int .i64 0] 127)).alloc (Obj.cells #[.int .i64 0, .int .i64 0] 127) = w1 at *
  clear hW
  have k0 : w1.cell? ⟨w.heap.size, 0, none⟩ = some (.int .i64 a) := HB0.out.cell 0
  have k1 : w1.cell? ⟨w.heap.size, 1, none⟩ = some (.int .i64 ((a : Int) + n)) := HB0.out.cell 1
  go_wp2_with fail
  go_loopw [4] (fun x4 wr => ∃ m f : Nat, x4 = .int .i64 m ∧ 1 ≤ m ∧ m < n ∧ n ≤ f + m ∧ lfGo n f m = lfN n ∧ wr = w1) (fun x4 _ => n - (intOf x4).toNat)
  case atStart => exact ⟨1, n, rfl, by omega, by omega, by omega, HL0.out, rfl⟩
  case round =>
    obtain ⟨m, f, rfl, hm1, hmn, hf, hg, rfl⟩ := hrel
    by_cases h2 : 2 * m < n
    · obtain ⟨f', rfl⟩ : ∃ f', f = f' + 1 := ⟨f - 1, by omega⟩
      have HG := Lib.hid (show lfGo n f' (2 * m) = lfN n from by rw [← hg]; simp [lfGo, h2])
      have h2i : 2 * (m : Int) < (a : Int) + n - a := by omega
      clear hg
      go_wp2_with fail
      go_roundw
      case rel => exact ⟨2 * m, f', by first | go_num | (congr 1; omega), by omega, h2, by omega, HG.out, by first | trivial | rfl⟩
      case measure => simp [intOf]; omega
    · have HG := Lib.hid (show m = lfN n from by rw [← hg, lfGo_done h2])
      have h2i : ¬ (2 * (m : Int) < (a : Int) + n - a) := by omega
      clear hg
      have m0 : wr.cell? ⟨w.heap.size + 1, 0, none⟩ = some (.int .i64 0) := HB1.out.cell 0
      have m1 : wr.cell? ⟨w.heap.size + 1, 1, none⟩ = some (.int .i64 0) := HB1.out.cell 1
      have m2 : wr.cell? ⟨w.heap.size + 1 + 1, 0, none⟩ = some (.int .i64 0) := HB2.out.cell 0
      have m3 : wr.cell? ⟨w.heap.size + 1 + 1, 1, none⟩ = some (.int .i64 0) := HB2.out.cell 1
      have f0 : wr.frozen? ⟨w.heap.size + 1, 0, none⟩ = false := HB1.out.free 0
      have f1 : wr.frozen? ⟨w.heap.size + 1, 1, none⟩ = false := HB1.out.free 1
      have f2 : wr.frozen? ⟨w.heap.size + 1 + 1, 0, none⟩ = false := HB2.out.free 0
      have f3 : wr.frozen? ⟨w.heap.size + 1 + 1, 1, none⟩ = false := HB2.out.free 1
      go_wp2_with fail
      go_region
      have hne : some (w.heap.size + 1) ≠ some (w.heap.size + 1 + 1) := fun e => by have := Option.some.inj e; omega
      have b1 := ((((HB1.out.set 0 (.int .i64 a)).set 1 (.int .i64 ((a : Int) + m))).grown (setCell_grown _ (w.heap.size + 1 + 1) 0 (.int .i64 ((a : Int) + m))) hne).grown (setCell_grown _ (w.heap.size + 1 + 1) 1 (.int .i64 ((a : Int) + n))) hne).ext (Ext.drew _)
      have b2 := ((((HB2.out.grown (setCell_grown _ (w.heap.size + 1) 0 (.int .i64 a)) hne.symm).grown (setCell_grown _ (w.heap.size + 1) 1 (.int .i64 ((a : Int) + m))) hne.symm).set 0 (.int .i64 ((a : Int) + m))).set 1 (.int .i64 ((a : Int) + n))).ext (Ext.drew _)
      have hx5 := (ext_set (o := 1) (v := .int .i64 ((a : Int) + n)) (ext_set (o := 0) (v := .int .i64 ((a : Int) + m)) (ext_set (o := 1) (v := .int .i64 ((a : Int) + m)) (ext_set (o := 0) (v := .int .i64 a) HX0.out (show w.heap.size ≤ w.heap.size + 1 by omega)) (show w.heap.size ≤ w.heap.size + 1 by omega)) (show w.heap.size ≤ w.heap.size + 1 + 1 by omega)) (show w.heap.size ≤ w.heap.size + 1 + 1 by omega)).trans (Ext.drew _)
      have y0 : _ = some (Value.int .i64 (a : Int)) := b1.cell 0
      have y1 : _ = some (Value.int .i64 ((a : Int) + m)) := b1.cell 1
      have y2 : _ = some (Value.int .i64 ((a : Int) + m)) := b2.cell 0
      have y3 : _ = some (Value.int .i64 ((a : Int) + n)) := b2.cell 1
      have HX5 := Lib.hid hx5
      clear b1 b2 hx5 m0 m1 m2 m3 f0 f1 f2 f3 k0 k1 hne
      go_wp2_with fail
      exact bodyPost_ret (v := .tuple #[.agg #[.int .i64 a, .int .i64 ((a : Int) + m)], .agg #[.int .i64 ((a : Int) + m), .int .i64 ((a : Int) + n)]]) (by simp [results, Tryz.results127, go_sem, y0, y1, y2, y3]) rfl (.mk _ rfl HX5.out (by rw [← HG.out]))
end
end Go.Proofs.YtfepefbehgbjpaaGreatDoor
end
section
namespace Go.Att
open Go.RowKit
def sho (pl : List Int) (a b : Int) : Bool := pl.any fun x => decide (a ≤ x ∧ x < b)
theorem sho_iff {pl : List Int} {a b : Int} : sho pl a b = true ↔ ∃ x ∈ pl, a ≤ x ∧ x < b := by
  unfold sho; rw [List.any_eq_true]; simp only [decide_eq_true_eq]
def Asc (l : List Int) : Prop := l.Pairwise (· < ·)
theorem Asc.le {l : List Int} (h : Asc l) : l.Pairwise (· ≤ ·) := List.Pairwise.imp (fun h => Int.le_of_lt h) h
theorem Asc.at {l : List Int} (h : Asc l) {i j : Nat} (hi : i < j) (hj : j < l.length) : nth l i < nth l j := by
  rw [nth_eq (by omega), nth_eq hj]
  exact (List.pairwise_iff_getElem.1 h) i j (by omega) hj hi
theorem sorted_at {l : List Int} (h : l.Pairwise (· ≤ ·)) {i j : Nat} (hi : i ≤ j) (hj : j < l.length) : nth l i ≤ nth l j := by
  rw [nth_eq (by omega), nth_eq hj]
  rcases Nat.lt_or_eq_of_le hi with h1 | rfl
  · exact (List.pairwise_iff_getElem.1 h) i j (by omega) hj h1
  · exact Int.le_refl _
theorem count_below : ∀ {l : List Int}, l.Pairwise (· ≤ ·) → ∀ (a : Int) (i : Nat), i < l.length → (i < l.countP (· < a) ↔ nth l i < a)
  | [], _, a, i, h => by simp at h
  | x :: r, hs, a, i, h => by
    rw [List.pairwise_cons] at hs
    by_cases hx : x < a
    · rw [List.countP_cons_of_pos (by simpa using hx)]
      cases i with
      | zero =>
        constructor
        · intro _; exact hx
        · intro _; omega
      | succ i =>
        have ih := count_below hs.2 a i (by simpa using h)
        have e : nth (x :: r) (i + 1) = nth r i := by simp [nth]
        rw [e, ← ih]; omega
    · rw [List.countP_cons_of_neg (by simpa using hx)]
      have hz : r.countP (· < a) = 0 := by
        rw [List.countP_eq_zero]
        intro y hy
        have := hs.1 y hy
        simp; omega
      rw [hz]
      constructor
      · intro h0; omega
      · intro h0
        exfalso
        have h1 : x ≤ nth (x :: r) i := by
          cases i with
          | zero => exact Int.le_refl _
          | succ i =>
            have e : nth (x :: r) (i + 1) = nth r i := by simp [nth]
            rw [e]; exact hs.1 _ (nth_mem (by simpa using h))
        omega
theorem sho_search {l : List Int} (hs : l.Pairwise (· ≤ ·)) (a b : Int) : sho l a b = (decide (l.countP (· < a) < l.length) && decide (nth l (l.countP (· < a)) < b)) := by
  rw [Bool.eq_iff_iff, sho_iff, Bool.and_eq_true, decide_eq_true_eq, decide_eq_true_eq]
  have hle : l.countP (· < a) ≤ l.length := List.countP_le_length
  constructor
  · rintro ⟨x, hx, h1, h2⟩
    obtain ⟨i, hi, rfl⟩ := List.getElem_of_mem hx
    rw [← nth_eq hi] at h1 h2
    have h3 : ¬ i < l.countP (· < a) := fun h => by have := (count_below hs a i hi).1 h; omega
    refine ⟨by omega, ?_⟩
    have := sorted_at hs (show l.countP (· < a) ≤ i by omega) hi
    omega
  · rintro ⟨h1, h2⟩
    have h3 : ¬ nth l (l.countP (· < a)) < a := fun h => by have := (count_below hs a _ h1).2 h; omega
    exact ⟨_, nth_mem h1, by omega, h2⟩
theorem asc_unique : ∀ {a b : List Int}, Asc a → Asc b → (∀ x, x ∈ a ↔ x ∈ b) → a = b
  | [], [], _, _, _ => rfl
  | [], y :: s, _, _, h => by have := (h y).2 (List.mem_cons_self ..); cases this
  | x :: r, [], _, _, h => by have := (h x).1 (List.mem_cons_self ..); cases this
  | x :: r, y :: s, ha, hb, h => by
    rw [Asc, List.pairwise_cons] at ha hb
    have hxy : x = y := by
      have h1 := (h x).1 (List.mem_cons_self ..)
      have h2 := (h y).2 (List.mem_cons_self ..)
      rcases List.mem_cons.1 h1 with h3 | h3
      · exact h3
      · rcases List.mem_cons.1 h2 with h4 | h4
        · exact h4.symm
        · have := ha.1 y h4; have := hb.1 x h3; omega
    subst hxy
    have : r = s := asc_unique ha.2 hb.2 fun z => by
      constructor
      · intro hz
        have := (h z).1 (List.mem_cons_of_mem _ hz)
        rcases List.mem_cons.1 this with rfl | h3
        · exact absurd (ha.1 z hz) (by omega)
        · exact h3
      · intro hz
        have := (h z).2 (List.mem_cons_of_mem _ hz)
        rcases List.mem_cons.1 this with rfl | h3
        · exact absurd (hb.1 z hz) (by omega)
        · exact h3
    rw [this]
def onceL (l : List Int) : List Int := Lib.compact (l.mergeSort fun x y => decide (x ≤ y))
theorem compact_mem {l : List Int} (x : Int) : x ∈ Lib.compact l ↔ x ∈ l := by
  unfold Lib.compact Lib.compactUpTo
  simp only [List.mem_map, List.mem_filter, List.mem_range]
  constructor
  · rintro ⟨j, ⟨hj, _⟩, rfl⟩
    rw [getElem!_pos _ j (by simpa using hj)]
    simp
  · intro hx
    -- the first place at which x stands
    obtain ⟨i, hi, he⟩ := List.getElem_of_mem hx
    have key : ∀ i, (hi : i < l.length) → l[i] = x → ∃ j, (j < l.length ∧ Lib.keeps l.toArray j = true) ∧ l.toArray[j]! = x := by
      intro i
      induction i with
      | zero =>
        intro hi he
        exact ⟨0, ⟨hi, by simp [Lib.keeps]⟩, by rw [getElem!_pos _ 0 (by simpa using hi)]; simpa using he⟩
      | succ i ih =>
        intro hi he
        by_cases hp : l[i]'(by omega) = x
        · exact ih (by omega) hp
        · refine ⟨i + 1, ⟨hi, ?_⟩, by rw [getElem!_pos _ (i + 1) (by simpa using hi)]; simpa using he⟩
          apply Lib.keeps_pos
          rw [getElem!_pos _ (i + 1) (by simpa using hi), getElem!_pos _ (i + 1 - 1) (by simp; omega)]
          simp only [Nat.add_sub_cancel, List.getElem_toArray]
          rw [he]; exact fun e => hp e.symm
    exact key i hi he
theorem onceL_mem {l : List Int} (x : Int) : x ∈ onceL l ↔ x ∈ l := by
  unfold onceL
  rw [compact_mem, List.mem_mergeSort]
theorem sort_le (l : List Int) : (l.mergeSort fun x y => decide (x ≤ y)).Pairwise (· ≤ ·) := by
  have := List.pairwise_mergeSort (le := fun x y : Int => decide (x ≤ y)) (fun a b c h1 h2 => by simp at *; omega) (fun a b => by simp; omega) l
  exact this.imp (fun h => by simpa using h)
theorem compact_asc {l : List Int} (h : l.Pairwise (· ≤ ·)) : Asc (Lib.compact l) := by
  unfold Lib.compact Lib.compactUpTo Asc
  rw [List.pairwise_map]
  have h0 : ((List.range l.length).filter (Lib.keeps l.toArray)).Pairwise (fun i j => i < j ∧ i < l.length ∧ j < l.length ∧ Lib.keeps l.toArray j = true) := by
    have h1 : ((List.range l.length).filter (Lib.keeps l.toArray)).Pairwise (· < ·) := List.Pairwise.sublist List.filter_sublist List.pairwise_lt_range
    rw [List.pairwise_iff_getElem] at h1 ⊢
    intro i j hi hj hij
    have m1 := List.mem_filter.1 (List.getElem_mem hi)
    have m2 := List.mem_filter.1 (List.getElem_mem hj)
    exact ⟨h1 i j hi hj hij, List.mem_range.1 m1.1, List.mem_range.1 m2.1, m2.2⟩
  refine h0.imp ?_
  rintro i j ⟨hij, hi, hj, hk⟩
  rw [getElem!_pos _ i (by simpa using hi), getElem!_pos _ j (by simpa using hj)]
  simp only [List.getElem_toArray]
  have hk2 : l[j] ≠ l[j - 1]'(by omega) := by
    unfold Lib.keeps at hk
    rw [decide_eq_true_eq] at hk
    rcases hk with h2 | h2
    · omega
    · rw [getElem!_pos _ j (by simpa using hj), getElem!_pos _ (j - 1) (by simp; omega)] at h2
      simpa using h2
  have h3 := sorted_at h (show i ≤ j - 1 by omega) (show j - 1 < l.length by omega)
  have h4 := sorted_at h (show j - 1 ≤ j by omega) hj
  rw [nth_eq (by omega), nth_eq (by omega)] at h3 h4
  omega
theorem onceL_asc (l : List Int) : Asc (onceL l) := compact_asc (sort_le l)
end Go.Att
end
section
namespace Go.Att
open Go.RowKit Go.Sort
def LstI (w : World) (v : Value) (l : List Int) : Prop := ∃ g cap, v = .slice (some ⟨g, 0, none⟩) l.length cap ∧ g < w.heap.size ∧ l.length ≤ cap ∧ cap ≤ maxLen ∧ Holds (Value.int .i64) w g 0 l.toArray
theorem LstI.ints {w : World} {v : Value} {l : List Int} (h : LstI w v l) : Ints w v l := by
  obtain ⟨g, cap, rfl, h1, h2, h3, h4⟩ := h
  refine ⟨some ⟨g, 0, none⟩, cap, rfl, by simp, h2, h3, fun i hi => ⟨g, 0, rfl, ?_⟩⟩
  rw [List.length_map] at hi
  have := (h4 i (by simpa using hi)).1
  rw [this, getElem!_pos _ i (by simpa using hi)]
  simp
theorem LstI.of_own {w : World} {B e n : Nat} {v : Value} {l : List Int} (hn : 1 ≤ n) (h : w.ownsRow B e 1 v n (l.map (Value.int .i64))) : LstI w v l := by
  have hl : l.length = n := by have := h.1; simpa using this
  rcases h.2 with ⟨_, h2⟩ | ⟨g, cap, cur, rfl, hb, hg, hnc, hcm, hcs, hr⟩
  · omega
  · refine ⟨g, cap, by rw [hl], (Array.getElem?_eq_some_iff.1 hg).1, by omega, hcm, fun j hj => ?_⟩
    have hj' : j < l.length := by simpa using hj
    have e2 : cur[j]? = some (.int .i64 l[j]) := by
      have := congrArg (fun q => q[j]?) hr
      simp only [List.getElem?_take, List.getElem?_map] at this
      rw [if_pos (by omega), List.getElem?_eq_getElem hj'] at this
      simpa using this
    rw [getElem!_pos _ j hj]
    refine ⟨?_, ?_⟩
    · simp [World.cell?, hg, e2]
    · simp [World.frozen?, hg]
theorem sort_grown (w : World) (g off m : Nat) (d : Array Int) (os : Array Obj) : w.grownBy (grow (putRow (Value.int .i64) (Sort.ahead w m) g off d) os) (some g) := by
  refine ⟨rfl, rfl, rfl, ?_, fun k hk hne => ?_⟩
  · rw [size_grow]; simp [putRow, mapBlock, Sort.ahead]
  · rw [heap_grow_old _ _ (by simp [putRow, mapBlock, Sort.ahead]; exact hk)]
    have : g ≠ k := fun e => hne (by rw [e])
    simp [putRow, mapBlock, Sort.ahead, Array.getElem?_modify, this]
theorem comp_grown (w : World) (g off m : Nat) (d : Array Int) : w.grownBy (putRow (Value.int .i64) (Sort.ahead w m) g off d) (some g) := by
  have := sort_grown w g off m d #[]
  rwa [grow_empty] at this
theorem compact_le (l : List Int) : (Lib.compact l).length ≤ l.length := by
  unfold Lib.compact Lib.compactUpTo
  rw [List.length_map]
  exact Nat.le_trans (List.length_filter_le _ _) (by simp)
end Go.Att
namespace Go.Proofs.YtfepefbehgbjpaaGreatDoor
open Go.RowKit Go.Att Go.Shelf Go.Sort
def Tryz.laysSort_ren : Go.Shelf.Ren := ⟨fun | 189 => 85 | 125 => 73 | 257 => 129 | 128 => 122 | 129 => 123 | 294 => 152 | 295 => 153 | 296 => 154 | 297 => 155 | 298 => 156 | 299 => 157 | 216 => 158 | 300 => 159 | 301 => 160 | 328 => 170 | 329 => 171 | 330 => 172 | 331 => 173 | 332 => 174 | 215 => 175 | 343 => 180 | n => n, fun | 28 => 22 | 3 => 3 | 46 => 121 | 0 => 0 | 51 => 153 | 53 => 155 | 4 => 4 | 183 => 191 | 182 => 190 | 131 => 53 | 5 => 5 | 9 => 9 | 218 => 212 | 222 => 216 | 228 => 218 | 229 => 219 | n => n, fun | n => n⟩
theorem Tryz.laysSort : Go.Proofs.Lays.n189 Tryz.prog Tryz.laysSort_ren := {
  mixed := by kernel_rfl,
  f125 := Tryz.func73.trans (congrArg some (by kernel_rfl)),
  f128 := Tryz.func122.trans (congrArg some (by kernel_rfl)),
  f129 := Tryz.func123.trans (congrArg some (by kernel_rfl)),
  f189 := Tryz.func85.trans (congrArg some (by kernel_rfl)),
  f215 := Tryz.func175.trans (congrArg some (by kernel_rfl)),
  f216 := Tryz.func158.trans (congrArg some (by kernel_rfl)),
  f257 := Tryz.func129.trans (congrArg some (by kernel_rfl)),
  f294 := Tryz.func152.trans (congrArg some (by kernel_rfl)),
  f295 := Tryz.func153.trans (congrArg some (by kernel_rfl)),
  f296 := Tryz.func154.trans (congrArg some (by kernel_rfl)),
  f297 := Tryz.func155.trans (congrArg some (by kernel_rfl)),
  f298 := Tryz.func156.trans (congrArg some (by kernel_rfl)),
  f299 := Tryz.func157.trans (congrArg some (by kernel_rfl)),
  f300 := Tryz.func159.trans (congrArg some (by kernel_rfl)),
  f301 := Tryz.func160.trans (congrArg some (by kernel_rfl)),
  f328 := Tryz.func170.trans (congrArg some (by kernel_rfl)),
  f329 := Tryz.func171.trans (congrArg some (by kernel_rfl)),
  f330 := Tryz.func172.trans (congrArg some (by kernel_rfl)),
  f331 := Tryz.func173.trans (congrArg some (by kernel_rfl)),
  f332 := Tryz.func174.trans (congrArg some (by kernel_rfl)),
  f343 := Tryz.func180.trans (congrArg some (by kernel_rfl)),
  t0 := Tryz.underlying0,
  a0 := Tryz.isAgg0,
  z0 := Tryz.sizeOf0,
  v0 := Tryz.zeroValue0,
  t3 := Tryz.underlying3,
  a3 := Tryz.isAgg3,
  z3 := Tryz.sizeOf3,
  v3 := Tryz.zeroValue3,
  t4 := Tryz.underlying4,
  a4 := Tryz.isAgg4,
  z4 := Tryz.sizeOf4,
  v4 := Tryz.zeroValue4,
  t5 := Tryz.underlying5,
  a5 := Tryz.isAgg5,
  z5 := Tryz.sizeOf5,
  v5 := Tryz.zeroValue5,
  t9 := Tryz.underlying9,
  a9 := Tryz.isAgg9,
  z9 := Tryz.sizeOf9,
  v9 := Tryz.zeroValue9,
  t28 := Tryz.underlying22,
  a28 := Tryz.isAgg22,
  z28 := Tryz.sizeOf22,
  v28 := Tryz.zeroValue22,
  t46 := Tryz.underlying121,
  a46 := Tryz.isAgg121,
  z46 := Tryz.sizeOf121,
  v46 := Tryz.zeroValue121,
  t51 := Tryz.underlying153,
  a51 := Tryz.isAgg153,
  z51 := Tryz.sizeOf153,
  v51 := Tryz.zeroValue153,
  t53 := Tryz.underlying155,
  a53 := Tryz.isAgg155,
  z53 := Tryz.sizeOf155,
  v53 := Tryz.zeroValue155,
  t131 := Tryz.underlying53,
  a131 := Tryz.isAgg53,
  z131 := Tryz.sizeOf53,
  v131 := Tryz.zeroValue53,
  t182 := Tryz.underlying190,
  a182 := Tryz.isAgg190,
  z182 := Tryz.sizeOf190,
  v182 := Tryz.zeroValue190,
  t183 := Tryz.underlying191,
  a183 := Tryz.isAgg191,
  z183 := Tryz.sizeOf191,
  v183 := Tryz.zeroValue191,
  t218 := Tryz.underlying212,
  a218 := Tryz.isAgg212,
  z218 := Tryz.sizeOf212,
  v218 := Tryz.zeroValue212,
  t222 := Tryz.underlying216,
  a222 := Tryz.isAgg216,
  z222 := Tryz.sizeOf216,
  v222 := Tryz.zeroValue216,
  t228 := Tryz.underlying218,
  a228 := Tryz.isAgg218,
  z228 := Tryz.sizeOf218,
  v228 := Tryz.zeroValue218,
  t229 := Tryz.underlying219,
  a229 := Tryz.isAgg219,
  z229 := Tryz.sizeOf219,
  v229 := Tryz.zeroValue219 }
def Tryz.laysEqual_ren : Go.Shelf.Ren := ⟨fun | 111 => 58 | n => n, fun | 28 => 22 | 3 => 3 | 4 => 4 | 0 => 0 | n => n, fun | n => n⟩
theorem Tryz.laysEqual : Go.Proofs.Lays.n111 Tryz.prog Tryz.laysEqual_ren := {
  mixed := by kernel_rfl,
  f111 := Tryz.func58.trans (congrArg some (by kernel_rfl)),
  t0 := Tryz.underlying0,
  a0 := Tryz.isAgg0,
  z0 := Tryz.sizeOf0,
  v0 := Tryz.zeroValue0,
  t3 := Tryz.underlying3,
  a3 := Tryz.isAgg3,
  z3 := Tryz.sizeOf3,
  v3 := Tryz.zeroValue3,
  t4 := Tryz.underlying4,
  a4 := Tryz.isAgg4,
  z4 := Tryz.sizeOf4,
  v4 := Tryz.zeroValue4,
  t28 := Tryz.underlying22,
  a28 := Tryz.isAgg22,
  z28 := Tryz.sizeOf22,
  v28 := Tryz.zeroValue22 }
def Tryz.laysCompact_ren : Go.Shelf.Ren := ⟨fun | 20 => 87 | n => n, fun | 22 => 22 | 3 => 3 | 4 => 4 | 0 => 0 | n => n, fun | n => n⟩
theorem Tryz.laysCompact : Go.Proofs.Lays2.n20 Tryz.prog Tryz.laysCompact_ren := {
  mixed := by kernel_rfl,
  f20 := Tryz.func87.trans (congrArg some (by kernel_rfl)),
  t0 := Tryz.underlying0,
  a0 := Tryz.isAgg0,
  z0 := Tryz.sizeOf0,
  v0 := Tryz.zeroValue0,
  t3 := Tryz.underlying3,
  a3 := Tryz.isAgg3,
  z3 := Tryz.sizeOf3,
  v3 := Tryz.zeroValue3,
  t4 := Tryz.underlying4,
  a4 := Tryz.isAgg4,
  z4 := Tryz.sizeOf4,
  v4 := Tryz.zeroValue4,
  t22 := Tryz.underlying22,
  a22 := Tryz.isAgg22,
  z22 := Tryz.sizeOf22,
  v22 := Tryz.zeroValue22,
  i3 := by kernel_rfl }
def Tryz.laysSearch_ren : Go.Shelf.Ren := ⟨fun | 25 => 161 | 31 => 158 | 32 => 176 | 37 => 175 | n => n, fun | 22 => 22 | 3 => 3 | 4 => 4 | 40 => 121 | 0 => 0 | n => n, fun | n => n⟩
theorem Tryz.laysSearch : Go.Proofs.Lays2.n25 Tryz.prog Tryz.laysSearch_ren := {
  mixed := by kernel_rfl,
  f25 := Tryz.func161.trans (congrArg some (by kernel_rfl)),
  f31 := Tryz.func158.trans (congrArg some (by kernel_rfl)),
  f32 := Tryz.func176.trans (congrArg some (by kernel_rfl)),
  f37 := Tryz.func175.trans (congrArg some (by kernel_rfl)),
  t0 := Tryz.underlying0,
  a0 := Tryz.isAgg0,
  z0 := Tryz.sizeOf0,
  v0 := Tryz.zeroValue0,
  t3 := Tryz.underlying3,
  a3 := Tryz.isAgg3,
  z3 := Tryz.sizeOf3,
  v3 := Tryz.zeroValue3,
  t4 := Tryz.underlying4,
  a4 := Tryz.isAgg4,
  z4 := Tryz.sizeOf4,
  v4 := Tryz.zeroValue4,
  t22 := Tryz.underlying22,
  a22 := Tryz.isAgg22,
  z22 := Tryz.sizeOf22,
  v22 := Tryz.zeroValue22,
  t40 := Tryz.underlying121,
  a40 := Tryz.isAgg121,
  z40 := Tryz.sizeOf121,
  v40 := Tryz.zeroValue121 }
theorem psort_any {w : World} {v : Value} {l : List Int} (h : LstI w v l) (hl : l.length < 4611686018427387904) :
    Calls Tryz.prog 85 #[v] w fun e w' => e = .returned (.tuple #[]) ∧ w.grownBy w' v.ownBlock ∧ LstI w' v (l.mergeSort fun x y => decide (x ≤ y)) := by
  obtain ⟨g, cap, rfl, h1, h2, h3, h4⟩ := h
  refine (Any.slices_Sort_int Tryz.laysSort g 0 cap l w h4 h1 hl).mono ?_
  rintro e w' ⟨he, n, os, rfl⟩
  refine ⟨he, sort_grown w g 0 n _ os, g, cap, by rw [List.length_mergeSort], ?_, by rw [List.length_mergeSort]; exact h2, h3, ?_⟩
  · exact Nat.lt_of_lt_of_le h1 (sort_grown w g 0 n _ os).size
  · refine holds_grow _ _ _ _ _ _ (by simp [putRow, mapBlock, Sort.ahead]; exact h1) ?_
    exact holds_putRow _ _ _ _ l.toArray _ (holds_ahead _ w n g 0 _ h4) (by simp)
theorem pcompact_any {w : World} {v : Value} {l : List Int} (h : LstI w v l) (hl : l.length ≤ 9223372036854775807) :
    Calls Tryz.prog 87 #[v] w fun e w' => ∃ u, e = .returned u ∧ w.grownBy w' v.ownBlock ∧ u.ownBlock = v.ownBlock ∧ LstI w' u (Lib.compact l) := by
  obtain ⟨g, cap, rfl, h1, h2, h3, h4⟩ := h
  refine (Any.slices_Compact_int Tryz.laysCompact g 0 cap l w h4 hl h2).mono ?_
  rintro e w' ⟨he, q, rfl⟩
  have hcl := compact_le l
  refine ⟨_, he, comp_grown w g 0 q _, rfl, g, cap, rfl, Nat.lt_of_lt_of_le h1 (comp_grown w g 0 q _).size, Nat.le_trans hcl h2, h3, fun j hj => ?_⟩
  have hj' : j < (Lib.compact l).length := by simpa using hj
  have := holds_putRow (Value.int .i64) (Sort.ahead w q) g 0 l.toArray (Lib.compact l ++ List.replicate (l.length - (Lib.compact l).length) 0).toArray (holds_ahead _ w q g 0 _ h4) (by simp; omega) j (by simp; omega)
  rw [getElem!_pos _ j (by simp; omega)] at this
  rw [getElem!_pos _ j hj]
  refine ⟨this.1.trans ?_, this.2⟩
  congr 2
  simp only [List.getElem_toArray]
  exact List.getElem_append_left hj'
theorem psearch_any {w : World} {v : Value} {l : List Int} (h : Ints w v l) (hs : l.Pairwise (· ≤ ·)) (hl : l.length < 4611686018427387904) (x : Int) :
    Calls Tryz.prog 161 #[v, .int .i64 x] w fun e w' => e = .returned (.tuple #[.int .i64 ((l.countP (· < x) : Nat) : Int), .bool (l.contains x)]) ∧ ∃ q, w' = w.drewN q := by
  obtain ⟨ao, cap, rfl, h2, h3, h4, h5⟩ := h
  by_cases h0 : l.length = 0
  · have hl0 := List.eq_nil_of_length_eq_zero h0
    subst hl0
    refine (Any.slices_BinarySearch_int_empty Tryz.laysSearch ao cap x w).mono ?_
    rintro e w' ⟨he, hw⟩
    exact ⟨he, 0, hw⟩
  obtain ⟨b, off, rfl, hc0⟩ := h5 0 (by rw [List.length_map]; omega)
  have hc : ∀ j, j < l.length → w.cell? ⟨b, off + j, none⟩ = some (.int .i64 (l.getD j 0)) := fun j hj => by
    obtain ⟨b', off', he, hcj⟩ := h5 j (by rw [List.length_map]; exact hj)
    obtain ⟨rfl, rfl⟩ : b' = b ∧ off' = off := by simp at he; exact ⟨he.1.symm, he.2.symm⟩
    rw [hcj, List.getElem_map]; simp [List.getD_eq_getElem?_getD, List.getElem?_eq_getElem hj]
  have := Any.slices_BinarySearch_int Tryz.laysSearch b off l.length cap l x w (Nat.le_refl _) hl hc (by rw [List.take_length]; exact hs)
  rw [List.take_length] at this
  exact this
theorem pequal_any {w : World} {v u : Value} {l m : List Int} (h : Ints w v l) (k : Ints w u m) : Calls Tryz.prog 58 #[v, u] w fun e w' => e = .returned (.bool (l == m)) ∧ ∃ q, w' = w.drewN q := by
  have hlv := h.len; have hlu := k.len
  obtain ⟨ao, cap, rfl, h2, h3, h4, h5⟩ := h
  obtain ⟨bo, dap, rfl, k2, k3, k4, k5⟩ := k
  by_cases hnm : l.length = m.length
  · by_cases h0 : l.length = 0
    · have hl0 := List.eq_nil_of_length_eq_zero h0
      have hm0 := List.eq_nil_of_length_eq_zero (hnm ▸ h0)
      subst hl0 hm0
      refine (Any.slices_Equal_int_empty Tryz.laysEqual ao bo cap 0 dap w (by omega)).mono ?_
      rintro e w' ⟨he, hw⟩
      exact ⟨he, 0, hw⟩
    · obtain ⟨b, off, rfl, hc0⟩ := h5 0 (by rw [List.length_map]; omega)
      obtain ⟨d, uff, rfl, kc0⟩ := k5 0 (by rw [List.length_map]; omega)
      have hc : ∀ j, j < l.length → w.cell? ⟨b, off + j, none⟩ = some (.int .i64 (l.getD j 0)) := fun j hj => by
        obtain ⟨b', off', he, hcj⟩ := h5 j (by rw [List.length_map]; exact hj)
        obtain ⟨rfl, rfl⟩ : b' = b ∧ off' = off := by simp at he; exact ⟨he.1.symm, he.2.symm⟩
        rw [hcj, List.getElem_map]; simp [List.getD_eq_getElem?_getD, List.getElem?_eq_getElem hj]
      have kc : ∀ j, j < m.length → w.cell? ⟨d, uff + j, none⟩ = some (.int .i64 (m.getD j 0)) := fun j hj => by
        obtain ⟨b', off', he, hcj⟩ := k5 j (by rw [List.length_map]; exact hj)
        obtain ⟨rfl, rfl⟩ : b' = d ∧ off' = uff := by simp at he; exact ⟨he.1.symm, he.2.symm⟩
        rw [hcj, List.getElem_map]; simp [List.getD_eq_getElem?_getD, List.getElem?_eq_getElem hj]
      have := Any.slices_Equal_int Tryz.laysEqual b off l.length cap d uff m.length dap l m w (Nat.le_refl _) (Nat.le_refl _) hlv hlu hc kc
      rw [List.take_length, List.take_length] at this
      exact this
  · refine (Any.slices_Equal_int_lens Tryz.laysEqual ao bo l.length cap m.length dap w hnm).mono ?_
    rintro e w' ⟨he, hw⟩
    have : (l == m) = false := by rw [beq_eq_false_iff_ne]; exact fun e => hnm (by rw [e])
    rw [this]
    exact ⟨he, 0, hw⟩
end Go.Proofs.YtfepefbehgbjpaaGreatDoor
end
section
namespace Go.Att
open Go.RowKit
def cndO (lo : Option Int) (x : Int) : Bool := match lo with
  | none => true
  | some a => decide (a < x)
def bstO (zs : List Int) (lo : Option Int) : Nat → Int
  | 0 => -1
  | i + 1 => if (cndO lo (nth zs i) && (decide (bstO zs lo i < 0) || decide (nth zs i < nth zs (bstO zs lo i).toNat))) = true then i else bstO zs lo i
theorem bstO_ok (zs : List Int) (lo : Option Int) : ∀ i, (bstO zs lo i = -1 ∧ ∀ j, j < i → cndO lo (nth zs j) = false) ∨ (∃ q : Nat, q < i ∧ bstO zs lo i = q ∧ cndO lo (nth zs q) = true ∧ ∀ j, j < i → cndO lo (nth zs j) = true → nth zs q ≤ nth zs j)
  | 0 => .inl ⟨rfl, fun j hj => by omega⟩
  | i + 1 => by
    simp only [bstO]
    rcases bstO_ok zs lo i with ⟨h1, h2⟩ | ⟨q, hq, h1, h2, h3⟩
    · by_cases hc : cndO lo (nth zs i) = true
      · rw [if_pos (by rw [hc, h1]; rfl)]
        exact .inr ⟨i, by omega, rfl, hc, fun j hj hcj => by
          rcases Nat.lt_or_eq_of_le (show j ≤ i by omega) with h | rfl
          · rw [h2 j h] at hcj; cases hcj
          · exact Int.le_refl _⟩
      · have hc' : cndO lo (nth zs i) = false := by simpa using hc
        rw [if_neg (by rw [hc']; simp)]
        exact .inl ⟨h1, fun j hj => by
          rcases Nat.lt_or_eq_of_le (show j ≤ i by omega) with h | rfl
          · exact h2 j h
          · exact hc'⟩
    · by_cases hc : (cndO lo (nth zs i) && (decide (bstO zs lo i < 0) || decide (nth zs i < nth zs (bstO zs lo i).toNat))) = true
      · rw [if_pos hc]
        rw [h1, Int.toNat_natCast] at hc
        simp only [Bool.and_eq_true, Bool.or_eq_true, decide_eq_true_eq] at hc
        exact .inr ⟨i, by omega, rfl, hc.1, fun j hj hcj => by
          rcases Nat.lt_or_eq_of_le (show j ≤ i by omega) with h | rfl
          · have := h3 j h hcj
            rcases hc.2 with h4 | h4 <;> omega
          · exact Int.le_refl _⟩
      · rw [if_neg hc]
        rw [h1, Int.toNat_natCast] at hc
        simp only [Bool.and_eq_true, Bool.or_eq_true, decide_eq_true_eq, not_and, not_or] at hc
        exact .inr ⟨q, by omega, h1, h2, fun j hj hcj => by
          rcases Nat.lt_or_eq_of_le (show j ≤ i by omega) with h | rfl
          · exact h3 j h hcj
          · have := (hc hcj).2; omega⟩
def lstO (L : List Int) (k : Nat) : Option Int := if k = 0 then none else some (nth L (k - 1))
theorem cnd_lst {L : List Int} (hA : Asc L) {k t : Nat} (hk : k ≤ L.length) (ht : t < L.length) : cndO (lstO L k) (nth L t) = decide (k ≤ t) := by
  unfold lstO
  by_cases h0 : k = 0
  · subst h0; simp [cndO]
  · rw [if_neg h0]
    unfold cndO
    rw [decide_eq_decide]
    constructor
    · intro h
      by_cases hlt : k ≤ t
      · exact hlt
      · exfalso
        rcases Nat.lt_or_eq_of_le (show t ≤ k - 1 by omega) with h2 | h2
        · have := hA.at h2 (show k - 1 < L.length by omega); omega
        · rw [h2] at h; omega
    · intro h
      exact hA.at (show k - 1 < t by omega) ht
theorem once_end {zs : List Int} {k : Nat} (hk : k ≤ (onceL zs).length) (h : bstO zs (lstO (onceL zs) k) zs.length < 0) : k = (onceL zs).length := by
  rcases bstO_ok zs (lstO (onceL zs) k) zs.length with ⟨_, h2⟩ | ⟨q, _, h1, _⟩
  · rcases Nat.lt_or_eq_of_le hk with h3 | h3
    · have hm := (onceL_mem (l := zs) _).1 (nth_mem h3)
      obtain ⟨j, hj, he⟩ := List.getElem_of_mem hm
      rw [← nth_eq hj] at he
      have := h2 j hj
      rw [he, cnd_lst (onceL_asc zs) hk h3] at this
      simp at this
    · exact h3
  · omega
theorem once_go {zs : List Int} {k q : Nat} (hk : k ≤ (onceL zs).length) (h : bstO zs (lstO (onceL zs) k) zs.length = q) : q < zs.length ∧ k < (onceL zs).length ∧ nth zs q = nth (onceL zs) k := by
  rcases bstO_ok zs (lstO (onceL zs) k) zs.length with ⟨h1, _⟩ | ⟨q', hq, h1, h2, h3⟩
  · omega
  · obtain rfl : q' = q := by omega
    obtain ⟨t, ht, he⟩ := List.getElem_of_mem ((onceL_mem (l := zs) _).2 (nth_mem hq))
    rw [← nth_eq ht] at he
    rw [← he, cnd_lst (onceL_asc zs) hk ht, decide_eq_true_eq] at h2
    have hkl : k < (onceL zs).length := by omega
    refine ⟨hq, hkl, ?_⟩
    obtain ⟨j, hj, hje⟩ := List.getElem_of_mem ((onceL_mem (l := zs) _).1 (nth_mem hkl))
    rw [← nth_eq hj] at hje
    have h4 := h3 j hj (by rw [hje, cnd_lst (onceL_asc zs) hk hkl]; simp)
    rw [hje] at h4
    have h5 := sorted_at (onceL_asc zs).le h2 ht
    omega
theorem once_len (zs : List Int) : (onceL zs).length ≤ zs.length := by
  unfold onceL
  exact Nat.le_trans (compact_le _) (by rw [List.length_mergeSort]; exact Nat.le_refl _)
end Go.Att
namespace Go.Proofs.YtfepefbehgbjpaaGreatDoor
open Go.RowKit Go.Att
set_option maxRecDepth 100000 in
set_option maxHeartbeats 4000000 in
theorem once_any {w : World} {v : Value} {zs : List Int} (h : Ints w v zs) (hl : zs.length ≤ 4294967000) :
    Calls Tryz.prog 106 #[v] w (Gives w fun u w' => w'.ownsRow w.heap.size 3 1 u (onceL zs).length ((onceL zs).map (Value.int .i64))) := by
  have hll := h.run_len (P := Tryz.prog) slInts
  have HV := Lib.hid h
  have HOL := Lib.hid (once_len zs)
  clear h
  go_enter Tryz.func106, Tryz.ntmps106
  go_wp2_with fail
  go_loopw [3, 4, 5] (fun x3 _ _ wr => ∃ k : Nat, k ≤ (onceL zs).length ∧ Hid (wr.ownsRow w.heap.size 3 1 x3 k (((onceL zs).take k).map (Value.int .i64))) ∧ Hid (Ext w wr)) (fun x3 _ _ _ => (onceL zs).length - slen x3)
  case atStart => exact ⟨0, Nat.zero_le _, Lib.hid (World.ownsRow_nil _ _ _ _), Lib.hid (Ext.refl _)⟩
  case round =>
    obtain ⟨k, hk, HO, HX⟩ := hrel
    have hio := Ints.of_own HO.out
    have hll0 : ((onceL zs).take k).length = k := by rw [List.length_take]; omega
    have hlo := hio.run_len (P := Tryz.prog) slInts
    rw [hll0] at hlo
    obtain ⟨va, vc, rfl⟩ := own_shape HO.out
    by_cases hk0 : k = 0
    · subst hk0
      obtain ⟨lo, hloe⟩ : ∃ lo, lstO (onceL zs) 0 = lo := ⟨_, rfl⟩
      have HLO := Lib.hid hloe
      have HC : Hid (∀ x, cndO lo x = true) := Lib.hid fun x => by rw [← hloe]; rfl
      clear hloe hio hll0
      go_wp2_with fail
      generalize wr = wo at *
      go_loopw [4, 5] (fun x4 x5 ws => ∃ i : Nat, i ≤ zs.length ∧ x5 = .int .i64 i ∧ x4 = .int .i64 (bstO zs lo i) ∧ Hid (Ext wo ws)) (fun _ x5 _ => zs.length - (intOf x5).toNat)
      case atStart => exact ⟨0, Nat.zero_le _, rfl, rfl, Lib.hid (Ext.refl _)⟩
      case round =>
        obtain ⟨i, hi, rfl, rfl, HXI⟩ := hrel
        by_cases hil : i < zs.length
        · have hix := HV.out.run_index (P := Tryz.prog) slInts i hil
          have hcx := (HV.out.ext (HX.out.trans HXI.out)).cell i hil
          obtain ⟨y, hy⟩ : ∃ y, nth zs i = y := ⟨_, rfl⟩
          rw [hy] at hcx
          have HY := Lib.hid hy
          clear hy
          have HCY := Lib.hid (show cndO lo (nth zs i) = true from HC.out _)
          rcases bstO_ok zs lo i with ⟨hb1, -⟩ | ⟨q, hq, hb1, -, -⟩
          · have HBN := Lib.hid (show bstO zs lo (i + 1) = i from by simp only [bstO]; rw [HCY.out, hb1]; simp)
            rw [hb1]
            clear hb1
            go_wp2_with fail
            obtain ⟨ia, hia⟩ : ∃ a, elt v i 1 = a := ⟨_, rfl⟩
            obtain ⟨ii, hii⟩ : ∃ z : Int, (i : Int) = z := ⟨_, rfl⟩
            rw [hia] at hix hcx
            rw [hii] at hix ⊢
            have HII := Lib.hid hii
            clear hia hii
            go_quiet (fail)
            obtain rfl := HII.out
            go_wp2_with fail
            go_roundw
            case rel => exact ⟨i + 1, by omega, by go_num, by rw [HBN.out], Lib.hid (HXI.out.trans (Ext.drewN _ _))⟩
            case measure => simp [intOf]; omega
          · have hiq := HV.out.run_index (P := Tryz.prog) slInts q (by omega)
            have hcq := (HV.out.ext (HX.out.trans HXI.out)).cell q (by omega)
            obtain ⟨z, hz⟩ : ∃ z, nth zs q = z := ⟨_, rfl⟩
            rw [hz] at hcq
            have hq0 : ¬ (q : Int) < 0 := by omega
            by_cases hyz : y < z
            · have HBN := Lib.hid (show bstO zs lo (i + 1) = i from by simp only [bstO]; rw [HCY.out, hb1, Int.toNat_natCast, HY.out, hz, decide_eq_true hyz]; simp)
              rw [hb1]
              clear hb1 hz
              go_wp2_with fail
              obtain ⟨qa, hqa⟩ : ∃ a, elt v q 1 = a := ⟨_, rfl⟩
              obtain ⟨qq, hqq⟩ : ∃ z : Int, (q : Int) = z := ⟨_, rfl⟩
              obtain ⟨ia, hia⟩ : ∃ a, elt v i 1 = a := ⟨_, rfl⟩
              obtain ⟨ii, hii⟩ : ∃ z : Int, (i : Int) = z := ⟨_, rfl⟩
              rw [hqa] at hiq hcq
              rw [hqq] at hiq ⊢
              have hqz : ¬ qq < 0 := by omega
              have HQQ := Lib.hid hqq
              rw [hia] at hix hcx
              rw [hii] at hix ⊢
              have HII := Lib.hid hii
              clear hia hii hqa hqq hq0 hq
              go_quiet (fail)
              obtain rfl := HII.out
              obtain rfl := HQQ.out
              go_wp2_with fail
              go_roundw
              case rel => exact ⟨i + 1, by omega, by go_num, by rw [HBN.out], Lib.hid (HXI.out.trans (Ext.drewN _ _))⟩
              case measure => simp [intOf]; omega
            · have HBN := Lib.hid (show bstO zs lo (i + 1) = q from by simp only [bstO]; rw [HCY.out, hb1, Int.toNat_natCast, HY.out, hz, decide_eq_false hyz, decide_eq_false hq0]; simp)
              rw [hb1]
              clear hb1 hz
              go_wp2_with fail
              obtain ⟨qa, hqa⟩ : ∃ a, elt v q 1 = a := ⟨_, rfl⟩
              obtain ⟨qq, hqq⟩ : ∃ z : Int, (q : Int) = z := ⟨_, rfl⟩
              obtain ⟨ia, hia⟩ : ∃ a, elt v i 1 = a := ⟨_, rfl⟩
              obtain ⟨ii, hii⟩ : ∃ z : Int, (i : Int) = z := ⟨_, rfl⟩
              rw [hqa] at hiq hcq
              rw [hqq] at hiq ⊢
              have hqz : ¬ qq < 0 := by omega
              have HQQ := Lib.hid hqq
              rw [hia] at hix hcx
              rw [hii] at hix ⊢
              have HII := Lib.hid hii
              clear hia hii hqa hqq hq0 hq
              go_quiet (fail)
              obtain rfl := HII.out
              obtain rfl := HQQ.out
              go_wp2_with fail
              go_roundw
              case rel => exact ⟨i + 1, by omega, by go_num, by rw [HBN.out], Lib.hid (HXI.out.trans (Ext.drewN _ _))⟩
              case measure => simp [intOf]; omega
        · obtain rfl : i = zs.length := by omega
          have HXW := Lib.hid (HX.out.trans HXI.out)
          have HOW := Lib.hid (own_ext HO.out HXI.out)
          have hke := fun h => once_end hk (by rw [HLO.out]; exact h)
          have hkg := fun q h => once_go (q := q) hk (by rw [HLO.out]; exact h)
          rcases bstO_ok zs lo zs.length with ⟨hb1, -⟩ | ⟨q, hq, hb1, -, -⟩
          · have HE := Lib.hid (hke (by rw [hb1]; decide))
            rw [hb1]
            clear hb1 hke hkg
            go_wp2_with fail
            go_ret
            exact .mk _ rfl HXW.out (by rw [← HE.out]; have := HOW.out; rw [HE.out, List.take_length] at this; rw [HE.out]; exact this)
          · obtain ⟨-, hkl, hqe⟩ := hkg q hb1
            have HKL := Lib.hid hkl
            have hiq := HV.out.run_index (P := Tryz.prog) slInts q hq
            have hcq := (HV.out.ext HXW.out).cell q hq
            rw [hqe] at hcq
            have HTK := Lib.hid (show (onceL zs).take (0 + 1) = (onceL zs).take 0 ++ [nth (onceL zs) 0] from by rw [List.take_succ_eq_append_getElem hkl, nth_eq hkl])
            obtain ⟨z, hz⟩ : ∃ z, nth (onceL zs) 0 = z := ⟨_, rfl⟩
            rw [hz] at hcq HTK
            have hq0 : ¬ (q : Int) < 0 := by omega
            have hsx : w.heap.size ≤ wr.heap.size := HXW.out.size
            have hk32 : 0 + 1 ≤ 4294967296 := by have := HOL.out; omega
            rw [hb1]
            clear hb1 hke hkg hz hqe
            go_wp2_with (at_builtin; refine wpList_appNw rfl _ _ 22 rfl slInts rfl hsx HOW.out rfl #[.int .i64 z] rfl (by intro u hu; simp at hu; subst hu; rfl) rfl (by omega) (by omega) ?_; intro v6 w6 HO6 HG6 _)
            have HOA := Lib.hid (show w6.ownsRow w.heap.size 3 1 v6 (0 + 1) (((onceL zs).take (0 + 1)).map (Value.int .i64)) from by rw [HTK.out, List.map_append]; exact HO6)
            have HXA := Lib.hid (Ext.own_grown HXW.out HOW.out HG6)
            have hsl := own_slen HO6
            have hkl2 := HKL.out
            go_roundw
            case rel => exact ⟨0 + 1, by omega, HOA, HXA⟩
            case measure => rw [hsl]; simp only [slen]; omega
    · obtain ⟨lo, hloe⟩ : ∃ lo, lstO (onceL zs) k = lo := ⟨_, rfl⟩
      have HLO := Lib.hid hloe
      obtain ⟨a, ha⟩ : ∃ a, nth (onceL zs) (k - 1) = a := ⟨_, rfl⟩
      have HC : Hid (∀ x, cndO lo x = decide (a < x)) := Lib.hid fun x => by rw [← hloe]; unfold lstO; rw [if_neg hk0, ha]; rfl
      have hkb : ((k : Int) == 0) = false := by rw [beq_eq_false_iff_ne]; omega
      have hk1 : ((k - 1 : Nat) : Int) = (k : Int) - 1 := by omega
      have hwk : IntKind.i64.wrap ((k : Int) - 1) = (k : Int) - 1 := IntWalk.i64_in _ (by have := HOL.out; omega)
      have hixo := hio.run_index (P := Tryz.prog) slInts (k - 1) (by omega)
      rw [hk1] at hixo
      have hcell := hio.cell (k - 1) (by omega)
      have hnt : nth ((onceL zs).take k) (k - 1) = a := by rw [← ha, nth_eq (by omega), nth_eq (by omega)]; simp
      rw [hnt] at hcell
      obtain ⟨oa, hoa⟩ : ∃ oa, elt (.slice va k vc) (k - 1) 1 = oa := ⟨_, rfl⟩
      rw [hoa] at hixo hcell
      clear hoa
      have HOC : Hid (∀ {ws : World}, Ext wr ws → ws.cell? oa = some (.int .i64 a)) := Lib.hid fun hx => hx.cell hcell
      clear hloe hio hll0 ha hnt hcell
      go_wp2_with fail
      generalize wr = wo at *
      go_loopw [4, 5] (fun x4 x5 ws => ∃ i : Nat, i ≤ zs.length ∧ x5 = .int .i64 i ∧ x4 = .int .i64 (bstO zs lo i) ∧ Hid (Ext wo ws)) (fun _ x5 _ => zs.length - (intOf x5).toNat)
      case atStart => exact ⟨0, Nat.zero_le _, rfl, rfl, Lib.hid (Ext.refl _)⟩
      case round =>
        obtain ⟨i, hi, rfl, rfl, HXI⟩ := hrel
        by_cases hil : i < zs.length
        · have hix := HV.out.run_index (P := Tryz.prog) slInts i hil
          have hcx := (HV.out.ext (HX.out.trans HXI.out)).cell i hil
          obtain ⟨y, hy⟩ : ∃ y, nth zs i = y := ⟨_, rfl⟩
          rw [hy] at hcx
          have HY := Lib.hid hy
          clear hy
          by_cases hay : a < y
          · have HCY := Lib.hid (show cndO lo (nth zs i) = true from by rw [HC.out, HY.out, decide_eq_true hay])
            have hco := HOC.out HXI.out
            rcases bstO_ok zs lo i with ⟨hb1, -⟩ | ⟨q, hq, hb1, -, -⟩
            · have HBN := Lib.hid (show bstO zs lo (i + 1) = i from by simp only [bstO]; rw [HCY.out, hb1]; simp)
              rw [hb1]
              clear hb1
              go_wp2_with fail
              obtain ⟨ia, hia⟩ : ∃ a, elt v i 1 = a := ⟨_, rfl⟩
              obtain ⟨ii, hii⟩ : ∃ z : Int, (i : Int) = z := ⟨_, rfl⟩
              rw [hia] at hix hcx
              rw [hii] at hix ⊢
              have HII := Lib.hid hii
              clear hia hii
              go_quiet (fail)
              obtain rfl := HII.out
              go_wp2_with fail
              go_roundw
              case rel => exact ⟨i + 1, by omega, by go_num, by rw [HBN.out], Lib.hid (HXI.out.trans (Ext.drewN _ _))⟩
              case measure => simp [intOf]; omega
            · have hiq := HV.out.run_index (P := Tryz.prog) slInts q (by omega)
              have hcq := (HV.out.ext (HX.out.trans HXI.out)).cell q (by omega)
              obtain ⟨z, hz⟩ : ∃ z, nth zs q = z := ⟨_, rfl⟩
              rw [hz] at hcq
              have hq0 : ¬ (q : Int) < 0 := by omega
              by_cases hyz : y < z
              · have HBN := Lib.hid (show bstO zs lo (i + 1) = i from by simp only [bstO]; rw [HCY.out, hb1, Int.toNat_natCast, HY.out, hz, decide_eq_true hyz]; simp)
                rw [hb1]
                clear hb1 hz
                go_wp2_with fail
                obtain ⟨qa, hqa⟩ : ∃ a, elt v q 1 = a := ⟨_, rfl⟩
                obtain ⟨qq, hqq⟩ : ∃ z : Int, (q : Int) = z := ⟨_, rfl⟩
                obtain ⟨ia, hia⟩ : ∃ a, elt v i 1 = a := ⟨_, rfl⟩
                obtain ⟨ii, hii⟩ : ∃ z : Int, (i : Int) = z := ⟨_, rfl⟩
                rw [hqa] at hiq hcq
                rw [hqq] at hiq ⊢
                have hqz : ¬ qq < 0 := by omega
                have HQQ := Lib.hid hqq
                rw [hia] at hix hcx
                rw [hii] at hix ⊢
                have HII := Lib.hid hii
                clear hia hii hqa hqq hq0 hq
                go_quiet (fail)
                obtain rfl := HII.out
                obtain rfl := HQQ.out
                go_wp2_with fail
                go_roundw
                case rel => exact ⟨i + 1, by omega, by go_num, by rw [HBN.out], Lib.hid (HXI.out.trans (Ext.drewN _ _))⟩
                case measure => simp [intOf]; omega
              · have HBN := Lib.hid (show bstO zs lo (i + 1) = q from by simp only [bstO]; rw [HCY.out, hb1, Int.toNat_natCast, HY.out, hz, decide_eq_false hyz, decide_eq_false hq0]; simp)
                rw [hb1]
                clear hb1 hz
                go_wp2_with fail
                obtain ⟨qa, hqa⟩ : ∃ a, elt v q 1 = a := ⟨_, rfl⟩
                obtain ⟨qq, hqq⟩ : ∃ z : Int, (q : Int) = z := ⟨_, rfl⟩
                obtain ⟨ia, hia⟩ : ∃ a, elt v i 1 = a := ⟨_, rfl⟩
                obtain ⟨ii, hii⟩ : ∃ z : Int, (i : Int) = z := ⟨_, rfl⟩
                rw [hqa] at hiq hcq
                rw [hqq] at hiq ⊢
                have hqz : ¬ qq < 0 := by omega
                have HQQ := Lib.hid hqq
                rw [hia] at hix hcx
                rw [hii] at hix ⊢
                have HII := Lib.hid hii
                clear hia hii hqa hqq hq0 hq
                go_quiet (fail)
                obtain rfl := HII.out
                obtain rfl := HQQ.out
                go_wp2_with fail
                go_roundw
                case rel => exact ⟨i + 1, by omega, by go_num, by rw [HBN.out], Lib.hid (HXI.out.trans (Ext.drewN _ _))⟩
                case measure => simp [intOf]; omega
          · have HCN := Lib.hid (show cndO lo (nth zs i) = false from by rw [HC.out, HY.out, decide_eq_false hay])
            have HBN := Lib.hid (show bstO zs lo (i + 1) = bstO zs lo i from by simp only [bstO]; rw [HCN.out]; simp)
            have hco := HOC.out HXI.out
            have hayb : decide (a < y) = false := decide_eq_false hay
            have hya : y ≤ a := by omega
            generalize bstO zs lo i = bi at *
            go_wp2_with fail
            obtain ⟨ia, hia⟩ : ∃ a, elt v i 1 = a := ⟨_, rfl⟩
            obtain ⟨ii, hii⟩ : ∃ z : Int, (i : Int) = z := ⟨_, rfl⟩
            rw [hia] at hix hcx
            rw [hii] at hix ⊢
            have HII := Lib.hid hii
            clear hia hii
            go_quiet (fail)
            obtain rfl := HII.out
            go_wp2_with fail
            go_roundw
            case rel => exact ⟨i + 1, by omega, by go_num, by rw [HBN.out], Lib.hid (HXI.out.trans (Ext.drewN _ _))⟩
            case measure => simp [intOf]; omega
        · obtain rfl : i = zs.length := by omega
          have HXW := Lib.hid (HX.out.trans HXI.out)
          have HOW := Lib.hid (own_ext HO.out HXI.out)
          have hke := fun h => once_end hk (by rw [HLO.out]; exact h)
          have hkg := fun q h => once_go (q := q) hk (by rw [HLO.out]; exact h)
          rcases bstO_ok zs lo zs.length with ⟨hb1, -⟩ | ⟨q, hq, hb1, -, -⟩
          · have HE := Lib.hid (hke (by rw [hb1]; decide))
            rw [hb1]
            clear hb1 hke hkg
            go_wp2_with fail
            go_ret
            exact .mk _ rfl HXW.out (by rw [← HE.out]; have := HOW.out; rw [HE.out, List.take_length] at this; rw [HE.out]; exact this)
          · obtain ⟨-, hkl, hqe⟩ := hkg q hb1
            have HKL := Lib.hid hkl
            have hiq := HV.out.run_index (P := Tryz.prog) slInts q hq
            have hcq := (HV.out.ext HXW.out).cell q hq
            rw [hqe] at hcq
            have HTK := Lib.hid (show (onceL zs).take (k + 1) = (onceL zs).take k ++ [nth (onceL zs) k] from by rw [List.take_succ_eq_append_getElem hkl, nth_eq hkl])
            obtain ⟨z, hz⟩ : ∃ z, nth (onceL zs) k = z := ⟨_, rfl⟩
            rw [hz] at hcq HTK
            have hq0 : ¬ (q : Int) < 0 := by omega
            have hsx : w.heap.size ≤ wr.heap.size := HXW.out.size
            have hk32 : k + 1 ≤ 4294967296 := by have := HOL.out; omega
            rw [hb1]
            clear hb1 hke hkg hz hqe
            go_wp2_with (at_builtin; refine wpList_appNw rfl _ _ 22 rfl slInts rfl hsx HOW.out rfl #[.int .i64 z] rfl (by intro u hu; simp at hu; subst hu; rfl) rfl (by omega) (by omega) ?_; intro v6 w6 HO6 HG6 _)
            have HOA := Lib.hid (show w6.ownsRow w.heap.size 3 1 v6 (k + 1) (((onceL zs).take (k + 1)).map (Value.int .i64)) from by rw [HTK.out, List.map_append]; exact HO6)
            have HXA := Lib.hid (Ext.own_grown HXW.out HOW.out HG6)
            have hsl := own_slen HO6
            have hkl2 := HKL.out
            go_roundw
            case rel => exact ⟨k + 1, by omega, HOA, HXA⟩
            case measure => rw [hsl]; simp only [slen]; omega
end Go.Proofs.YtfepefbehgbjpaaGreatDoor
end
section
namespace Go.Att
open Go.RowKit
def hidN (pl : List Int) : Nat → Nat → Nat → Nat
  | 0, _, _ => 0
  | f + 1, a, n => if sho pl a ((a : Int) + n) = true then (if n = 1 then 0 else hidN pl f a (lfN n) + hidN pl f (a + lfN n) (n - lfN n)) else 1
def rowOf (pl : List Int) (rows : List (List Int)) (a : Int) : List Int := nthL rows (pl.countP (· < a))
def clbF (p : Int) (k : Nat) (pl : List Int) (rows : List (List Int)) : Nat → Nat → Nat → List (List Int) → Option (List Int × List (List Int))
  | 0, _, _, _ => none
  | f + 1, a, n, nodes => if sho pl a ((a : Int) + n) = true then
      (if n = 1 then some (hashP p k (0 :: rowOf pl rows a), nodes)
       else match clbF p k pl rows f a (lfN n) nodes with
        | none => none
        | some (x, r) => match clbF p k pl rows f (a + lfN n) (n - lfN n) r with
          | none => none
          | some (y, s) => some (hashP p k (1 :: (x ++ y)), s))
    else match nodes with
      | [] => none
      | d :: r => if d.length = 4 then some (d.map (fof p), r) else none
theorem clbF_len {p : Int} {k : Nat} {pl : List Int} {rows : List (List Int)} : ∀ {f a n : Nat} {nodes : List (List Int)} {d : List Int} {r : List (List Int)}, clbF p k pl rows f a n nodes = some (d, r) → d.length = 4
  | 0, _, _, _, _, _, h => by simp [clbF] at h
  | f + 1, a, n, nodes, d, r, h => by
    simp only [clbF] at h
    split at h
    · split at h
      · obtain ⟨rfl, rfl⟩ := Prod.mk.inj (Option.some.inj h); exact hashP_length _ _ _
      · split at h
        · cases h
        · split at h
          · cases h
          · obtain ⟨rfl, rfl⟩ := Prod.mk.inj (Option.some.inj h); exact hashP_length _ _ _
    · split at h
      · cases h
      · split at h
        · rename_i hd
          obtain ⟨rfl, rfl⟩ := Prod.mk.inj (Option.some.inj h)
          simpa using hd
        · cases h
theorem clbF_some {p : Int} {k : Nat} {pl : List Int} {rows : List (List Int)} : ∀ {f a n : Nat} {nodes : List (List Int)}, 1 ≤ n → n ≤ f → hidN pl f a n ≤ nodes.length → (∀ d ∈ nodes, d.length = 4) →
    ∃ d, clbF p k pl rows f a n nodes = some (d, nodes.drop (hidN pl f a n))
  | 0, _, _, _, h1, h2, _, _ => by omega
  | f + 1, a, n, nodes, h1, h2, h3, h4 => by
    simp only [clbF]
    simp only [hidN] at h3 ⊢
    by_cases hs : sho pl a ((a : Int) + n) = true
    · rw [if_pos hs] at h3
      rw [if_pos hs, if_pos hs]
      by_cases hn : n = 1
      · rw [if_pos hn, if_pos hn]; exact ⟨_, rfl⟩
      · rw [if_neg hn] at h3
        rw [if_neg hn, if_neg hn]
        have hb := lfN_bd (show 2 ≤ n by omega)
        obtain ⟨x, hx⟩ := clbF_some (p := p) (k := k) (pl := pl) (rows := rows) (f := f) (a := a) (n := lfN n) (nodes := nodes) hb.1 (by omega) (by omega) h4
        rw [hx]
        obtain ⟨y, hy⟩ := clbF_some (p := p) (k := k) (pl := pl) (rows := rows) (f := f) (a := a + lfN n) (n := n - lfN n) (nodes := nodes.drop (hidN pl f a (lfN n))) (by omega) (by omega) (by rw [List.length_drop]; omega) (fun d hd => h4 d (List.mem_of_mem_drop hd))
        simp only [hy, List.drop_drop]
        exact ⟨_, rfl⟩
    · rw [if_neg hs] at h3
      rw [if_neg hs, if_neg hs]
      match nodes, h3, h4 with
      | d :: r, _, h4 =>
        simp only
        rw [if_pos (h4 d (List.mem_cons_self ..))]
        exact ⟨_, rfl⟩
theorem clbF_used {p : Int} {k : Nat} {pl : List Int} {rows : List (List Int)} : ∀ {f a n : Nat} {nodes : List (List Int)} {d : List Int} {r : List (List Int)}, clbF p k pl rows f a n nodes = some (d, r) →
    hidN pl f a n ≤ nodes.length ∧ r = nodes.drop (hidN pl f a n) ∧ ∀ i, i < hidN pl f a n → (nthL nodes i).length = 4
  | 0, _, _, _, _, _, h => by simp [clbF] at h
  | f + 1, a, n, nodes, d, r, h => by
    simp only [clbF] at h
    simp only [hidN]
    by_cases hs : sho pl a ((a : Int) + n) = true
    · rw [if_pos hs] at h ⊢
      by_cases hn : n = 1
      · rw [if_pos hn] at h ⊢
        obtain ⟨rfl, rfl⟩ := Prod.mk.inj (Option.some.inj h)
        exact ⟨Nat.zero_le _, rfl, fun i hi => by omega⟩
      · rw [if_neg hn] at h ⊢
        cases hx : clbF p k pl rows f a (lfN n) nodes with
        | none => rw [hx] at h; cases h
        | some xr =>
          obtain ⟨x, r1⟩ := xr
          rw [hx] at h
          simp only at h
          obtain ⟨u1, u2, u3⟩ := clbF_used hx
          cases hy : clbF p k pl rows f (a + lfN n) (n - lfN n) r1 with
          | none => rw [hy] at h; cases h
          | some ys =>
            obtain ⟨y, s⟩ := ys
            rw [hy] at h
            simp only at h
            obtain ⟨v1, v2, v3⟩ := clbF_used hy
            obtain ⟨rfl, rfl⟩ := Prod.mk.inj (Option.some.inj h)
            subst u2
            rw [List.length_drop] at v1
            refine ⟨by omega, by rw [v2, List.drop_drop], fun i hi => ?_⟩
            by_cases h1 : i < hidN pl f a (lfN n)
            · exact u3 i h1
            · have := v3 (i - hidN pl f a (lfN n)) (by omega)
              unfold nthL at this ⊢
              rw [List.getD_eq_getElem?_getD, List.getElem?_drop, show hidN pl f a (lfN n) + (i - hidN pl f a (lfN n)) = i by omega] at this
              rw [List.getD_eq_getElem?_getD]; exact this
    · rw [if_neg hs] at h ⊢
      match nodes, h with
      | [], h => cases h
      | e :: q, h =>
        simp only at h
        by_cases hd : e.length = 4
        · rw [if_pos hd] at h
          obtain ⟨rfl, rfl⟩ := Prod.mk.inj (Option.some.inj h)
          exact ⟨by simp, rfl, fun i hi => by
            obtain rfl : i = 0 := by omega
            exact hd⟩
        · rw [if_neg hd] at h; cases h
def ascB (pl : List Int) (n : Int) : Bool := (List.range pl.length).all fun i => decide (0 ≤ nth pl i ∧ nth pl i < n) && (i == 0 || decide (nth pl (i - 1) < nth pl i))
theorem ascB_asc {pl : List Int} {n : Int} (h : ascB pl n = true) : Asc pl := by
  unfold ascB at h
  rw [List.all_eq_true] at h
  have step : ∀ i, i + 1 < pl.length → nth pl i < nth pl (i + 1) := fun i hi => by
    have := h (i + 1) (List.mem_range.2 hi)
    rw [Bool.and_eq_true, Bool.or_eq_true] at this
    rcases this.2 with h1 | h1
    · simp at h1
    · simpa using h1
  have far : ∀ d i, i + d + 1 < pl.length → nth pl i < nth pl (i + d + 1) := by
    intro d
    induction d with
    | zero => intro i hi; exact step i hi
    | succ d ih =>
      intro i hi
      have h1 := ih i (by omega)
      have h2 := step (i + d + 1) (by omega)
      rw [show i + (d + 1) + 1 = i + d + 1 + 1 by omega]
      omega
  unfold Asc
  rw [List.pairwise_iff_getElem]
  intro i j hi hj hij
  have := far (j - i - 1) i (by omega)
  rw [show i + (j - i - 1) + 1 = j by omega, nth_eq hi, nth_eq hj] at this
  exact this
theorem ascB_in {pl : List Int} {n : Int} (h : ascB pl n = true) {x : Int} (hx : x ∈ pl) : 0 ≤ x ∧ x < n := by
  unfold ascB at h
  rw [List.all_eq_true] at h
  obtain ⟨i, hi, rfl⟩ := List.getElem_of_mem hx
  have := h i (List.mem_range.2 hi)
  rw [Bool.and_eq_true, decide_eq_true_eq, nth_eq hi] at this
  exact this.1
def treeB (p : Int) (k : Nat) (top : List Int) (n : Nat) (pl : List Int) (rows nodes : List (List Int)) : Bool :=
  decide (1 ≤ n ∧ n ≤ 65536) && decide (top.length = 4) && decide (rows.length = pl.length) && ascB pl n && (clbF p k pl rows n 0 n nodes == some (top.map (fof p), []))
end Go.Att
end
section
namespace Go.Att
open Go.RowKit
theorem sho_yes {pl : List Int} {a b : Int} {i : Nat} (hi : i < pl.length) (h1 : a ≤ nth pl i) (h2 : nth pl i < b) : sho pl a b = true := sho_iff.2 ⟨_, nth_mem hi, h1, h2⟩
theorem sho_no {pl : List Int} {a b : Int} (h : ∀ i, i < pl.length → ¬ (a ≤ nth pl i ∧ nth pl i < b)) : sho pl a b = false := by
  cases hs : sho pl a b with
  | false => rfl
  | true =>
    obtain ⟨x, hx, h1, h2⟩ := sho_iff.1 hs
    obtain ⟨i, hi, rfl⟩ := List.getElem_of_mem hx
    exact absurd ⟨by rw [nth_eq hi]; exact h1, by rw [nth_eq hi]; exact h2⟩ (h i hi)
end Go.Att
namespace Go.Proofs.YtfepefbehgbjpaaGreatDoor
open Go.RowKit Go.Att
set_option maxRecDepth 100000 in
set_option maxHeartbeats 2000000 in
theorem some_any {w : World} {v : Value} {pl : List Int} (h : Ints w v pl) (a b : Int) :
    Calls Tryz.prog 142 #[v, .int .i64 a, .int .i64 b] w fun e w' => e = .returned (.bool (sho pl a b)) ∧ Ext w w' := by
  have hll := h.run_len (P := Tryz.prog) slInts
  have HV := Lib.hid h
  have hln := h.len
  obtain ⟨r, hr⟩ : ∃ r, sho pl a b = r := ⟨_, rfl⟩
  rw [hr]
  have HR := Lib.hid hr
  clear h hr
  go_enter Tryz.func142, Tryz.ntmps142
  go_wp2_with fail
  go_loopw [7] (fun x7 wr => ∃ i : Nat, i ≤ pl.length ∧ x7 = .int .i64 i ∧ Hid (∀ j, j < i → ¬ (a ≤ nth pl j ∧ nth pl j < b)) ∧ Hid (Ext w wr)) (fun x7 _ => pl.length - (intOf x7).toNat)
  case atStart => exact ⟨0, Nat.zero_le _, rfl, Lib.hid fun j hj => by omega, Lib.hid (Ext.refl _)⟩
  case round =>
    obtain ⟨i, hi, rfl, HN, HX⟩ := hrel
    by_cases hil : i < pl.length
    · have hix := HV.out.run_index (P := Tryz.prog) slInts i hil
      have hcx := (HV.out.ext HX.out).cell i hil
      have HY := Lib.hid (fun h1 h2 => sho_yes (a := a) (b := b) hil h1 h2)
      obtain ⟨y, hy⟩ : ∃ y, nth pl i = y := ⟨_, rfl⟩
      rw [hy] at hcx HY
      have HYE := Lib.hid hy
      clear hy
      by_cases h1 : a ≤ y
      · by_cases h2 : y < b
        · have HT := Lib.hid (show r = true from by rw [← HR.out]; exact HY.out h1 h2)
          go_wp2_with fail
          go_ret
          exact ⟨by rw [HT.out]; trivial, HX.out⟩
        · have HM : Hid (∀ j, j < i + 1 → ¬ (a ≤ nth pl j ∧ nth pl j < b)) := Lib.hid fun j hj => by
            by_cases e : j = i
            · subst e; rw [HYE.out]; omega
            · exact HN.out j (by omega)
          go_wp2_with fail
          go_roundw
          case rel => exact ⟨i + 1, by omega, by go_num, HM, HX⟩
          case measure => simp [intOf]; omega
      · have HM : Hid (∀ j, j < i + 1 → ¬ (a ≤ nth pl j ∧ nth pl j < b)) := Lib.hid fun j hj => by
          by_cases e : j = i
          · subst e; rw [HYE.out]; omega
          · exact HN.out j (by omega)
        go_wp2_with fail
        go_roundw
        case rel => exact ⟨i + 1, by omega, by go_num, HM, HX⟩
        case measure => simp [intOf]; omega
    · obtain rfl : i = pl.length := by omega
      have HF := Lib.hid (show r = false from by rw [← HR.out]; exact sho_no HN.out)
      go_wp2_with fail
      go_ret
      exact ⟨by rw [HF.out]; trivial, HX.out⟩
set_option maxRecDepth 100000 in
set_option maxHeartbeats 2000000 in
theorem shows_any {w : World} {v : Value} {pl : List Int} (h : Ints w v pl) (hs : pl.Pairwise (· ≤ ·)) (hl : pl.length ≤ 1000000) (a b : Int) :
    Calls Tryz.prog 130 #[.agg #[.int .i64 a, .int .i64 b], v] w fun e w' => e = .returned (.bool (sho pl a b)) ∧ Ext w w' := by
  have hll := h.run_len (P := Tryz.prog) slInts
  have HV := Lib.hid h
  have hx := Ext.alloc w (Obj.cells #[.int .i64 a, .int .i64 b] 127)
  have HX0 := Lib.hid hx
  have HBK := Lib.hid (BlkOf.new w [.int .i64 a, .int .i64 b] 127)
  have CS := Lib.hid (fun W (h : Ints W v pl) => psearch_any h hs (by omega) a)
  have HSH := Lib.hid (sho_search hs a b)
  have hcl : pl.countP (· < a) ≤ pl.length := List.countP_le_length
  obtain ⟨c, hc⟩ : ∃ c, pl.countP (· < a) = c := ⟨_, rfl⟩
  rw [hc] at CS HSH hcl
  obtain ⟨fd, hfd⟩ : ∃ fd, pl.contains a = fd := ⟨_, rfl⟩
  rw [hfd] at CS
  clear h hs hc hfd hx
  go_enter Tryz.func130, Tryz.ntmps130
  go_upto_region 1 with (fail)
  generalize w.alloc (Obj.cells #[.int .i64 a, .int .i64 b] 127) = W0 at *
  generalize w.heap.size = kb at *
  have e0 : W0.cell? ⟨kb, 0, none⟩ = some (.int .i64 a) := HBK.out.cell 0
  go_upto_region 2 with (go_at_call 161; refine (CS.out _ (HV.out.ext HX0.out)).mono ?_; rintro e w1 ⟨rfl, n1, rfl⟩)
  have HX1 := Lib.hid (HX0.out.trans (Ext.drewN W0 n1))
  have e1 : (W0.drewN n1).cell? ⟨kb, 1, none⟩ = some (.int .i64 b) := HBK.out.cell 1
  clear e0
  generalize W0.drewN n1 = W1 at *
  by_cases h1 : c < pl.length
  · have hix := HV.out.run_index (P := Tryz.prog) slInts c h1
    have hcx := (HV.out.ext HX1.out).cell c h1
    obtain ⟨y, hy⟩ : ∃ y, nth pl c = y := ⟨_, rfl⟩
    rw [hy] at hcx HSH
    clear hy
    by_cases h2 : y < b
    · have HT := Lib.hid (show sho pl a b = true from by rw [HSH.out, decide_eq_true h1, decide_eq_true h2]; rfl)
      go_quiet (fail)
      go_wp2_with fail
      go_ret
      exact ⟨by rw [HT.out]; trivial, HX1.out.trans (Ext.drewN _ _)⟩
    · have HT := Lib.hid (show sho pl a b = false from by rw [HSH.out, decide_eq_false h2, Bool.and_false])
      go_quiet (fail)
      go_wp2_with fail
      go_ret
      exact ⟨by rw [HT.out]; trivial, HX1.out.trans (Ext.drewN _ _)⟩
  · have HT := Lib.hid (show sho pl a b = false from by rw [HSH.out, decide_eq_false h1]; rfl)
    obtain rfl : c = pl.length := by omega
    go_quiet (fail)
    go_wp2_with fail
    go_ret
    exact ⟨by rw [HT.out]; trivial, HX1.out.trans (Ext.drewN _ _)⟩
end Go.Proofs.YtfepefbehgbjpaaGreatDoor
end
section
namespace Go.Proofs.YtfepefbehgbjpaaGreatDoor
open Go.RowKit Go.Att
set_option maxRecDepth 100000 in
set_option maxHeartbeats 2000000 in
theorem elements_any {w : World} {f : Value} {p g : Int} {fs : List Int} (hf : Fld w f p g fs) {v : Value} {l : List Int} (h : Ints w v l) (hl : l.length ≤ 4294967000) :
    Calls Tryz.prog 88 #[f, v] w (Gives w fun u w' => w'.ownsRow w.heap.size 3 1 u l.length ((l.map (fof p)).map (Value.int .i64))) := by
  have hll := h.run_len (P := Tryz.prog) slInts
  have HV := Lib.hid h; have HF := Lib.hid hf
  clear h hf
  go_enter Tryz.func88, Tryz.ntmps88
  go_upto_region 2 with (refine wpList_mk0 rfl _ _ 22 rfl slInts (Ext.refl w) rfl rfl (by omega) (by omega) (by omega) ?_; intro v0 w0 HO0 HX0 _)
  have HO0H := Lib.hid HO0; have HX0H := Lib.hid HX0
  clear HO0 HX0
  go_wp2_with fail
  go_loopw [5, 7, 13] (fun x5 _ x13 wr => ∃ i : Nat, i ≤ l.length ∧ x13 = .int .i64 i ∧ Hid (wr.ownsRow w.heap.size 3 1 x5 i (((l.map (fof p)).take i).map (Value.int .i64))) ∧ Hid (Ext w wr)) (fun _ _ x13 _ => l.length - (intOf x13).toNat)
  case atStart => exact ⟨0, Nat.zero_le _, rfl, Lib.hid (by simpa using HO0H.out), HX0H⟩
  case round =>
    clear HO0H HX0H
    obtain ⟨i, hi, rfl, HO, HX⟩ := hrel
    by_cases hil : i < l.length
    · have hix := HV.out.run_index (P := Tryz.prog) slInts i hil
      have hcx := (HV.out.ext HX.out).cell i hil
      have HTK := Lib.hid (show (l.map (fof p)).take (i + 1) = (l.map (fof p)).take i ++ [fof p (nth l i)] from by rw [List.take_succ_eq_append_getElem (by simpa using hil), List.getElem_map, nth_eq hil])
      obtain ⟨x, hx⟩ : ∃ x, nth l i = x := ⟨_, rfl⟩
      rw [hx] at hcx HTK
      clear hx
      obtain ⟨va, vc, rfl⟩ := own_shape HO.out
      have HFW := Lib.hid (HF.out.ext HX.out)
      go_wp2_with (first | (go_at_call 66; refine (of_any HFW.out _).mono ?_; rintro e w1 ⟨rfl, n1, rfl⟩; have HO1 := own_ext HO.out (Ext.drewN wr n1); have hsx : w.heap.size ≤ (wr.drewN n1).heap.size := (HX.out.trans (Ext.drewN _ _)).size) | (at_builtin; refine wpList_appNw rfl _ _ 22 rfl slInts rfl hsx HO1 rfl #[.int .i64 (fof p x)] rfl (by intro u hu; simp at hu; subst hu; rfl) rfl (by omega) (by omega) ?_; intro v6 w6 HO6 HG6 _))
      have HOA := Lib.hid (show w6.ownsRow w.heap.size 3 1 v6 (i + 1) (((l.map (fof p)).take (i + 1)).map (Value.int .i64)) from by rw [HTK.out, List.map_append]; exact HO6)
      have HXA := Lib.hid (Ext.own_grown (HX.out.trans (Ext.drewN _ _)) HO1 HG6)
      go_roundw
      case rel => exact ⟨i + 1, by omega, by go_num, HOA, HXA⟩
      case measure => simp [intOf]; omega
    · obtain rfl : i = l.length := by omega
      go_wp2_with fail
      go_ret
      exact .mk _ rfl HX.out (by have := HO.out; rwa [List.take_of_length_le (by simp)] at this)
end Go.Proofs.YtfepefbehgbjpaaGreatDoor
end
section
namespace Go.Att
open Go.RowKit
theorem fofE_bd {p : Int} (hp : 2 ≤ p) (x : Int) : 0 ≤ fof p x ∧ fof p x < p := ⟨Int.emod_nonneg _ (by omega), Int.emod_lt_of_pos _ (by omega)⟩
theorem dotP_bd {p : Int} (hp : 2 ≤ p) (f : Nat → Int) : ∀ n, 0 ≤ dotP p f n ∧ dotP p f n < p
  | 0 => ⟨Int.le_refl _, by show (0 : Int) < p; omega⟩
  | n + 1 => fofE_bd hp _
theorem hashP_bd {p : Int} (hp : 2 ≤ p) (k : Nat) (l : List Int) {i : Nat} (hi : i < 4) : 0 ≤ nth (hashP p k l) i ∧ nth (hashP p k l) i < p := by
  have e : nth (hashP p k l) i = nth (hashS p k (padP p l) ((padP p l).length / 4)) i := by
    unfold hashP
    rw [nth_eq (by rw [List.length_take, hashS_length]; omega), nth_eq (by rw [hashS_length]; omega)]
    simp
  rw [e]
  cases (padP p l).length / 4 with
  | zero =>
    have : nth (hashS p k (padP p l) 0) i = 0 := by
      show nth (List.replicate 8 (0 : Int)) i = 0
      rw [nth_eq (by simp; omega), List.getElem_replicate]
    rw [this]; omega
  | succ c =>
    show 0 ≤ nth (mixT p _) i ∧ nth (mixT p _) i < p
    rw [mixT_nth p _ (by omega)]
    exact dotP_bd hp _ _
def plcV (p : Int) (D : List Int) (n : Int) : Int := (nth D 0 * p + nth D 1) % n
theorem plcV_bd {p : Int} {D : List Int} {n : Int} (hn : 1 ≤ n) : 0 ≤ plcV p D n ∧ plcV p D n < n := ⟨Int.emod_nonneg _ (by omega), Int.emod_lt_of_pos _ (by omega)⟩
theorem step_bd {p : Int} (hp : 2 ≤ p) (k : Nat) (kind : Int) (D l : List Int) {i : Nat} (hi : i < 4) : 0 ≤ nth (stepP p k kind D l) i ∧ nth (stepP p k kind D l) i < p := hashP_bd hp k _ hi
theorem place_small {a b p : Int} (ha : 0 ≤ a ∧ a < p) (hb : 0 ≤ b ∧ b < p) (hp : p ≤ 2147483647) : 0 ≤ a * p ∧ a * p + b ≤ 4611686018427387904 := by
  have h1 : 0 ≤ a * p := Int.mul_nonneg ha.1 (by omega)
  have h2 : a * p ≤ 2147483646 * 2147483647 := Int.mul_le_mul (by omega) hp (by omega) (by omega)
  omega
end Go.Att
namespace Go.Proofs.YtfepefbehgbjpaaGreatDoor
open Go.RowKit Go.Att
set_option maxRecDepth 100000 in
set_option maxHeartbeats 4000000 in
theorem rplace_any (p : Int) (k : Nat) (D : List Int) (b : Nat) (w : World) (h23 : 23 ≤ p) (hp2 : p ≤ 2147483647) (hk : IsPw p k) (hc : ChD w b p D) (hs : D.length ≤ 1048570000) (n : Int) (h1 : 1 ≤ n) (hn : n ≤ 65536) :
    Calls Tryz.prog 105 #[.pointer (some ⟨b, 0, none⟩), .int .i64 n] w fun e w' => e = .returned (.int .i64 (plcV p (stepP p k 4 D []) n)) ∧ w.grownBy w' (some b) ∧ ChD w' b p (stepP p k 4 D []) ∧ DigNew w w' b := by
  have C := Lib.hid (rstep_any p k 4 _ [] D b w h23 hp2 hk hc (Ints.nil w) (by simpa using hs))
  have b0 := step_bd (p := p) (by omega) k 4 D [] (i := 0) (by omega)
  have b1 := step_bd (p := p) (by omega) k 4 D [] (i := 1) (by omega)
  have hSl := stepP_length p k 4 D []
  obtain ⟨E, hE⟩ : ∃ E, stepP p k 4 D [] = E := ⟨_, rfl⟩
  rw [hE] at C b0 b1 hSl ⊢
  have HSL := Lib.hid hSl
  have HPV := Lib.hid (show plcV p E n = (nth E 0 * p + nth E 1) % n from rfl)
  have hm := place_small b0 b1 hp2
  clear hk hc hs hE hSl
  go_enter Tryz.func105, Tryz.ntmps105
  go_wp2_with (go_at_call 44; refine C.out.mono ?_; rintro e w1 ⟨rfl, hx1, hc1, hd1⟩; have HDN := Lib.hid hd1; have HC1 := Lib.hid hc1; have HX1 := Lib.hid hx1; clear hd1 hc1 hx1)
  obtain ⟨v1, k1, hd1⟩ := HC1.out.c1
  have k0 := HC1.out.c0
  have hix0 := hd1.run_index (P := Tryz.prog) slInts 0 (by rw [HSL.out]; omega)
  have hix1 := hd1.run_index (P := Tryz.prog) slInts 1 (by rw [HSL.out]; omega)
  have hc0 := hd1.cell 0 (by rw [HSL.out]; omega)
  have hc1 := hd1.cell 1 (by rw [HSL.out]; omega)
  rw [show ((0 : Nat) : Int) = 0 from rfl] at hix0
  rw [show ((1 : Nat) : Int) = 1 from rfl] at hix1
  clear hd1
  generalize nth E 0 = x at *
  generalize nth E 1 = y at *
  obtain ⟨a0, ha0⟩ : ∃ a, elt v1 0 1 = a := ⟨_, rfl⟩
  obtain ⟨a1, ha1⟩ : ∃ a, elt v1 1 1 = a := ⟨_, rfl⟩
  rw [ha0] at hix0 hc0
  rw [ha1] at hix1 hc1
  clear ha0 ha1
  have w1' : IntKind.i64.wrap (x * p) = x * p := IntWalk.i64_in _ (by omega)
  have w2' : IntKind.i64.wrap (x * p + y) = x * p + y := IntWalk.i64_in _ (by omega)
  have ht : (x * p + y).tmod n = (x * p + y) % n := Int.tmod_eq_emod_of_nonneg (by omega)
  have hz : (n == 0) = false := by rw [beq_eq_false_iff_ne]; omega
  have w3' : IntKind.i64.wrap ((x * p + y) % n) = (x * p + y) % n := IntWalk.i64_in _ (by have := Int.emod_nonneg (x * p + y) (show n ≠ 0 by omega); have := Int.emod_lt_of_pos (x * p + y) (show 0 < n by omega); omega)
  go_quiet (fail)
  go_wp2_with fail
  go_ret
  exact ⟨by rw [HPV.out]; trivial, HX1.out.trans ((Ext.drewN w1 nq).grownBy _), HC1.out.ext (Ext.drewN w1 nq), HDN.out.ext HC1.out.lt (Ext.drewN w1 nq)⟩
set_option maxRecDepth 100000 in
set_option maxHeartbeats 4000000 in
theorem cplace_any {w : World} {cb bs : Nat} {p : Int} {k : Nat} {D : List Int} (hp : 2 ≤ p) (hp2 : p ≤ 2147483647) (hc : ChP w cb (.pointer (some ⟨bs, 0, none⟩)) D) (hs : Spg w (.pointer (some ⟨bs, 0, none⟩)) p k) (hbs : ∀ w', w.grownBy w' (some cb) → Spg w' (.pointer (some ⟨bs, 0, none⟩)) p k) (hl : D.length ≤ 4294960000) (n : Int) (h1 : 1 ≤ n) (hn : n ≤ 65536) :
    Calls Tryz.prog 92 #[.pointer (some ⟨cb, 0, none⟩), .int .i64 n] w fun e w' => e = .returned (.int .i64 (plcV p (stepP p k 4 D []) n)) ∧ w.grownBy w' (some cb) ∧ ChP w' cb (.pointer (some ⟨bs, 0, none⟩)) (stepP p k 4 D []) ∧ DigNew w w' cb := by
  have C := Lib.hid (cdraw_any hc hs hl)
  have b0 := step_bd (p := p) hp k 4 D [] (i := 0) (by omega)
  have b1 := step_bd (p := p) hp k 4 D [] (i := 1) (by omega)
  have hSl := stepP_length p k 4 D []
  have HBS := Lib.hid hbs
  obtain ⟨E, hE⟩ : ∃ E, stepP p k 4 D [] = E := ⟨_, rfl⟩
  rw [hE] at C b0 b1 hSl ⊢
  have HSL := Lib.hid hSl
  have HPV := Lib.hid (show plcV p E n = (nth E 0 * p + nth E 1) % n from rfl)
  have hm := place_small b0 b1 hp2
  clear hc hs hE hSl hbs
  go_enter Tryz.func92, Tryz.ntmps92
  go_wp2_with (go_at_call 29; refine C.out.mono ?_; rintro e w1 ⟨rfl, hx1, hc1, hd1⟩; have HDN := Lib.hid hd1; have HC1 := Lib.hid hc1; have HX1 := Lib.hid hx1; clear hd1 hc1 hx1)
  obtain ⟨v1, k1, hd1⟩ := HC1.out.c1
  have k0 := HC1.out.c0
  obtain ⟨sb, bf, rt, g, fs, he, hsp, hf, _⟩ := HBS.out w1 HX1.out
  obtain rfl : bs = sb := by simpa using he
  have c0 := hsp.c0
  have HF := Lib.hid hf
  have hix1 := hd1.run_index (P := Tryz.prog) slInts 1 (by rw [HSL.out]; omega)
  have hc1 := hd1.cell 1 (by rw [HSL.out]; omega)
  rw [show ((1 : Nat) : Int) = 1 from rfl] at hix1
  clear hd1 hsp hf he
  generalize nth E 0 = x at *
  generalize nth E 1 = y at *
  obtain ⟨a1, ha1⟩ : ∃ a, elt v1 1 1 = a := ⟨_, rfl⟩
  rw [ha1] at hix1 hc1
  clear ha1
  have w1' : IntKind.i64.wrap (x * p) = x * p := IntWalk.i64_in _ (by omega)
  have w2' : IntKind.i64.wrap (x * p + y) = x * p + y := IntWalk.i64_in _ (by omega)
  have ht : (x * p + y).tmod n = (x * p + y) % n := Int.tmod_eq_emod_of_nonneg (by omega)
  have hz : (n == 0) = false := by rw [beq_eq_false_iff_ne]; omega
  have w3' : IntKind.i64.wrap ((x * p + y) % n) = (x * p + y) % n := IntWalk.i64_in _ (by have := Int.emod_nonneg (x * p + y) (show n ≠ 0 by omega); have := Int.emod_lt_of_pos (x * p + y) (show 0 < n by omega); omega)
  go_quiet ((first | (go_at_call 18; exact sfield_q c0 _) | (go_at_call 69; exact p_q HF.out _)))
  go_wp2_with fail
  go_ret
  exact ⟨by rw [HPV.out]; trivial, HX1.out.trans ((Ext.drewN w1 nq).grownBy _), HC1.out.ext (Ext.drewN w1 nq), HDN.out.ext (World.block_lt_of_cell? w1 _ HC1.out.c0) (Ext.drewN w1 nq)⟩
end Go.Proofs.YtfepefbehgbjpaaGreatDoor
end
