/- Trees that are shown, plain: places once each; what a group shows; a root worked out of what is shown. No program in sight. Lists of numbers by the library: sorted, each once, compared, searched: contracts in plain words. Places once each, the document's side: contract. Trees that are shown, plain: how many groups are hidden; the digest that what is shown comes to. No program in sight. What a group shows, both sides; a list as elements: contracts. A list as elements, the program's side: contract. The next number below another, off a chain, both sides: contracts. -/
import Derived.Test.YtcpnidomdkaefaaGreatDoorZx8
import Derived.Lib.SlicesCompact
import Derived.Test.YtcpnidomdkaefaaGreatDoorZx5
import Derived.Shelf.Sort.Plain
import Derived.Shelf.Slices.CompactI
import Derived.Shelf.Slices.Equal
import Derived.Shelf.Slices.SearchI
import Derived.Shelf.Slices.Empties
import Derived.Shelf.Slices.Empties2
import Derived.BigQuiet
import Derived.Test.YtcpnidomdkaefaaGreatDoorJd
import Derived.Test.YtcpnidomdkaefaaGreatDoorZx15
import Derived.Test.YtcpnidomdkaefaaGreatDoorZx14
import Derived.Test.YtcpnidomdkaefaaGreatDoorZx13
section
namespace Go.Att
open Go.RowKit
/-- Is one of the places from a to b - 1? -/
def sho (pl : List Int) (a b : Int) : Bool := pl.any fun x => decide (a ≤ x ∧ x < b)
theorem sho_iff {pl : List Int} {a b : Int} : sho pl a b = true ↔ ∃ x ∈ pl, a ≤ x ∧ x < b := by
  unfold sho; rw [List.any_eq_true]; simp only [decide_eq_true_eq]
/-- Numbers that ascend. -/
def Asc (l : List Int) : Prop := l.Pairwise (· < ·)
theorem Asc.le {l : List Int} (h : Asc l) : l.Pairwise (· ≤ ·) := List.Pairwise.imp (fun h => Int.le_of_lt h) h
theorem Asc.at {l : List Int} (h : Asc l) {i j : Nat} (hi : i < j) (hj : j < l.length) : nth l i < nth l j := by
  rw [nth_eq (by omega), nth_eq hj]
  exact (List.pairwise_iff_getElem.1 h) i j (by omega) hj hi
theorem sorted_at {l : List Int} (h : l.Pairwise (· ≤ ·)) {i j : Nat} (hi : i ≤ j) (hj : j < l.length) : nth l i ≤ nth l j := by
  rw [nth_eq (by omega), nth_eq hj]
  rcases Nat.lt_or_eq_of_le hi with h1 | rfl
  · exact (List.pairwise_iff_getElem.1 h) i j (by omega) hj h1
  · exact Int.le_refl _
/-- How many of sorted numbers lie below one: those at the front. -/
theorem count_below : ∀ {l : List Int}, l.Pairwise (· ≤ ·) → ∀ (a : Int) (i : Nat), i < l.length → (i < l.countP (· < a) ↔ nth l i < a)
  | [], _, a, i, h => by simp at h
  | x :: r, hs, a, i, h => by
    rw [List.pairwise_cons] at hs
    by_cases hx : x < a
    · rw [List.countP_cons_of_pos (by simpa using hx)]
      cases i with
      | zero =>
        constructor
        · intro _; exact hx
        · intro _; omega
      | succ i =>
        have ih := count_below hs.2 a i (by simpa using h)
        have e : nth (x :: r) (i + 1) = nth r i := by simp [nth]
        rw [e, ← ih]; omega
    · rw [List.countP_cons_of_neg (by simpa using hx)]
      have hz : r.countP (· < a) = 0 := by
        rw [List.countP_eq_zero]
        intro y hy
        have := hs.1 y hy
        simp; omega
      rw [hz]
      constructor
      · intro h0; omega
      · intro h0
        exfalso
        have h1 : x ≤ nth (x :: r) i := by
          cases i with
          | zero => exact Int.le_refl _
          | succ i =>
            have e : nth (x :: r) (i + 1) = nth r i := by simp [nth]
            rw [e]; exact hs.1 _ (nth_mem (by simpa using h))
        omega
/-- What the program's search says. -/
theorem sho_search {l : List Int} (hs : l.Pairwise (· ≤ ·)) (a b : Int) : sho l a b = (decide (l.countP (· < a) < l.length) && decide (nth l (l.countP (· < a)) < b)) := by
  rw [Bool.eq_iff_iff, sho_iff, Bool.and_eq_true, decide_eq_true_eq, decide_eq_true_eq]
  have hle : l.countP (· < a) ≤ l.length := List.countP_le_length
  constructor
  · rintro ⟨x, hx, h1, h2⟩
    obtain ⟨i, hi, rfl⟩ := List.getElem_of_mem hx
    rw [← nth_eq hi] at h1 h2
    have h3 : ¬ i < l.countP (· < a) := fun h => by have := (count_below hs a i hi).1 h; omega
    refine ⟨by omega, ?_⟩
    have := sorted_at hs (show l.countP (· < a) ≤ i by omega) hi
    omega
  · rintro ⟨h1, h2⟩
    have h3 : ¬ nth l (l.countP (· < a)) < a := fun h => by have := (count_below hs a _ h1).2 h; omega
    exact ⟨_, nth_mem h1, by omega, h2⟩
/-- Places ascending, each once. -/
def onceL (l : List Int) : List Int := Lib.compact (l.mergeSort fun x y => decide (x ≤ y))
theorem compact_mem {l : List Int} (x : Int) : x ∈ Lib.compact l ↔ x ∈ l := by
  unfold Lib.compact Lib.compactUpTo
  simp only [List.mem_map, List.mem_filter, List.mem_range]
  constructor
  · rintro ⟨j, ⟨hj, _⟩, rfl⟩
    rw [getElem!_pos _ j (by simpa using hj)]
    simp
  · intro hx
    -- the first place at which x stands
    obtain ⟨i, hi, he⟩ := List.getElem_of_mem hx
    have key : ∀ i, (hi : i < l.length) → l[i] = x → ∃ j, (j < l.length ∧ Lib.keeps l.toArray j = true) ∧ l.toArray[j]! = x := by
      intro i
      induction i with
      | zero =>
        intro hi he
        exact ⟨0, ⟨hi, by simp [Lib.keeps]⟩, by rw [getElem!_pos _ 0 (by simpa using hi)]; simpa using he⟩
      | succ i ih =>
        intro hi he
        by_cases hp : l[i]'(by omega) = x
        · exact ih (by omega) hp
        · refine ⟨i + 1, ⟨hi, ?_⟩, by rw [getElem!_pos _ (i + 1) (by simpa using hi)]; simpa using he⟩
          apply Lib.keeps_pos
          rw [getElem!_pos _ (i + 1) (by simpa using hi), getElem!_pos _ (i + 1 - 1) (by simp; omega)]
          simp only [Nat.add_sub_cancel, List.getElem_toArray]
          rw [he]; exact fun e => hp e.symm
    exact key i hi he
theorem onceL_mem {l : List Int} (x : Int) : x ∈ onceL l ↔ x ∈ l := by
  unfold onceL
  rw [compact_mem, List.mem_mergeSort]
end Go.Att
end
section
namespace Go.Att
open Go.RowKit Go.Sort
/-- A list of numbers in a block that may be written, from its first cell on. -/
def LstI (w : World) (v : Value) (l : List Int) : Prop := ∃ g cap, v = .slice (some ⟨g, 0, none⟩) l.length cap ∧ g < w.heap.size ∧ l.length ≤ cap ∧ cap ≤ maxLen ∧ Holds (Value.int .i64) w g 0 l.toArray
theorem LstI.ints {w : World} {v : Value} {l : List Int} (h : LstI w v l) : Ints w v l := by
  obtain ⟨g, cap, rfl, h1, h2, h3, h4⟩ := h
  refine ⟨some ⟨g, 0, none⟩, cap, rfl, by simp, h2, h3, fun i hi => ⟨g, 0, rfl, ?_⟩⟩
  rw [List.length_map] at hi
  have := (h4 i (by simpa using hi)).1
  rw [this, getElem!_pos _ i (by simpa using hi)]
  simp
theorem LstI.of_own {w : World} {B e n : Nat} {v : Value} {l : List Int} (hn : 1 ≤ n) (h : w.ownsRow B e 1 v n (l.map (Value.int .i64))) : LstI w v l := by
  have hl : l.length = n := by have := h.1; simpa using this
  rcases h.2 with ⟨_, h2⟩ | ⟨g, cap, cur, rfl, hb, hg, hnc, hcm, hcs, hr⟩
  · omega
  · refine ⟨g, cap, by rw [hl], (Array.getElem?_eq_some_iff.1 hg).1, by omega, hcm, fun j hj => ?_⟩
    have hj' : j < l.length := by simpa using hj
    have e2 : cur[j]? = some (.int .i64 l[j]) := by
      have := congrArg (fun q => q[j]?) hr
      simp only [List.getElem?_take, List.getElem?_map] at this
      rw [if_pos (by omega), List.getElem?_eq_getElem hj'] at this
      simpa using this
    rw [getElem!_pos _ j hj]
    refine ⟨?_, ?_⟩
    · simp [World.cell?, hg, e2]
    · simp [World.frozen?, hg]
theorem sort_grown (w : World) (g off m : Nat) (d : Array Int) (os : Array Obj) : w.grownBy (grow (putRow (Value.int .i64) (Sort.ahead w m) g off d) os) (some g) := by
  refine ⟨rfl, rfl, rfl, ?_, fun k hk hne => ?_⟩
  · rw [size_grow]; simp [putRow, mapBlock, Sort.ahead]
  · rw [heap_grow_old _ _ (by simp [putRow, mapBlock, Sort.ahead]; exact hk)]
    have : g ≠ k := fun e => hne (by rw [e])
    simp [putRow, mapBlock, Sort.ahead, Array.getElem?_modify, this]
theorem comp_grown (w : World) (g off m : Nat) (d : Array Int) : w.grownBy (putRow (Value.int .i64) (Sort.ahead w m) g off d) (some g) := by
  have := sort_grown w g off m d #[]
  rwa [grow_empty] at this
theorem compact_le (l : List Int) : (Lib.compact l).length ≤ l.length := by
  unfold Lib.compact Lib.compactUpTo
  rw [List.length_map]
  exact Nat.le_trans (List.length_filter_le _ _) (by simp)
end Go.Att
namespace Go.Proofs.YtcpnidomdkaefaaGreatDoor
open Go.RowKit Go.Att Go.Shelf Go.Sort
def Tryz.laysSort_ren : Go.Shelf.Ren := ⟨fun | 189 => 91 | 125 => 121 | 257 => 141 | 128 => 152 | 129 => 153 | 294 => 164 | 295 => 165 | 296 => 166 | 297 => 167 | 298 => 168 | 299 => 169 | 216 => 170 | 300 => 171 | 301 => 172 | 328 => 182 | 329 => 183 | 330 => 184 | 331 => 185 | 332 => 186 | 215 => 187 | 343 => 191 | n => n, fun | 28 => 22 | 3 => 3 | 46 => 161 | 0 => 0 | 51 => 184 | 53 => 186 | 4 => 4 | 183 => 205 | 182 => 204 | 131 => 34 | 5 => 5 | 9 => 9 | 218 => 225 | 222 => 229 | 228 => 231 | 229 => 232 | n => n, fun | n => n⟩
theorem Tryz.laysSort : Go.Proofs.Lays.n189 Tryz.prog Tryz.laysSort_ren := {
  mixed := by kernel_rfl,
  f125 := Tryz.func121.trans (congrArg some (by kernel_rfl)),
  f128 := Tryz.func152.trans (congrArg some (by kernel_rfl)),
  f129 := Tryz.func153.trans (congrArg some (by kernel_rfl)),
  f189 := Tryz.func91.trans (congrArg some (by kernel_rfl)),
  f215 := Tryz.func187.trans (congrArg some (by kernel_rfl)),
  f216 := Tryz.func170.trans (congrArg some (by kernel_rfl)),
  f257 := Tryz.func141.trans (congrArg some (by kernel_rfl)),
  f294 := Tryz.func164.trans (congrArg some (by kernel_rfl)),
  f295 := Tryz.func165.trans (congrArg some (by kernel_rfl)),
  f296 := Tryz.func166.trans (congrArg some (by kernel_rfl)),
  f297 := Tryz.func167.trans (congrArg some (by kernel_rfl)),
  f298 := Tryz.func168.trans (congrArg some (by kernel_rfl)),
  f299 := Tryz.func169.trans (congrArg some (by kernel_rfl)),
  f300 := Tryz.func171.trans (congrArg some (by kernel_rfl)),
  f301 := Tryz.func172.trans (congrArg some (by kernel_rfl)),
  f328 := Tryz.func182.trans (congrArg some (by kernel_rfl)),
  f329 := Tryz.func183.trans (congrArg some (by kernel_rfl)),
  f330 := Tryz.func184.trans (congrArg some (by kernel_rfl)),
  f331 := Tryz.func185.trans (congrArg some (by kernel_rfl)),
  f332 := Tryz.func186.trans (congrArg some (by kernel_rfl)),
  f343 := Tryz.func191.trans (congrArg some (by kernel_rfl)),
  t0 := Tryz.underlying0,
  a0 := Tryz.isAgg0,
  z0 := Tryz.sizeOf0,
  v0 := Tryz.zeroValue0,
  t3 := Tryz.underlying3,
  a3 := Tryz.isAgg3,
  z3 := Tryz.sizeOf3,
  v3 := Tryz.zeroValue3,
  t4 := Tryz.underlying4,
  a4 := Tryz.isAgg4,
  z4 := Tryz.sizeOf4,
  v4 := Tryz.zeroValue4,
  t5 := Tryz.underlying5,
  a5 := Tryz.isAgg5,
  z5 := Tryz.sizeOf5,
  v5 := Tryz.zeroValue5,
  t9 := Tryz.underlying9,
  a9 := Tryz.isAgg9,
  z9 := Tryz.sizeOf9,
  v9 := Tryz.zeroValue9,
  t28 := Tryz.underlying22,
  a28 := Tryz.isAgg22,
  z28 := Tryz.sizeOf22,
  v28 := Tryz.zeroValue22,
  t46 := Tryz.underlying161,
  a46 := Tryz.isAgg161,
  z46 := Tryz.sizeOf161,
  v46 := Tryz.zeroValue161,
  t51 := Tryz.underlying184,
  a51 := Tryz.isAgg184,
  z51 := Tryz.sizeOf184,
  v51 := Tryz.zeroValue184,
  t53 := Tryz.underlying186,
  a53 := Tryz.isAgg186,
  z53 := Tryz.sizeOf186,
  v53 := Tryz.zeroValue186,
  t131 := Tryz.underlying34,
  a131 := Tryz.isAgg34,
  z131 := Tryz.sizeOf34,
  v131 := Tryz.zeroValue34,
  t182 := Tryz.underlying204,
  a182 := Tryz.isAgg204,
  z182 := Tryz.sizeOf204,
  v182 := Tryz.zeroValue204,
  t183 := Tryz.underlying205,
  a183 := Tryz.isAgg205,
  z183 := Tryz.sizeOf205,
  v183 := Tryz.zeroValue205,
  t218 := Tryz.underlying225,
  a218 := Tryz.isAgg225,
  z218 := Tryz.sizeOf225,
  v218 := Tryz.zeroValue225,
  t222 := Tryz.underlying229,
  a222 := Tryz.isAgg229,
  z222 := Tryz.sizeOf229,
  v222 := Tryz.zeroValue229,
  t228 := Tryz.underlying231,
  a228 := Tryz.isAgg231,
  z228 := Tryz.sizeOf231,
  v228 := Tryz.zeroValue231,
  t229 := Tryz.underlying232,
  a229 := Tryz.isAgg232,
  z229 := Tryz.sizeOf232,
  v229 := Tryz.zeroValue232 }
def Tryz.laysEqual_ren : Go.Shelf.Ren := ⟨fun | 111 => 37 | n => n, fun | 28 => 22 | 3 => 3 | 4 => 4 | 0 => 0 | n => n, fun | n => n⟩
theorem Tryz.laysEqual : Go.Proofs.Lays.n111 Tryz.prog Tryz.laysEqual_ren := {
  mixed := by kernel_rfl,
  f111 := Tryz.func37.trans (congrArg some (by kernel_rfl)),
  t0 := Tryz.underlying0,
  a0 := Tryz.isAgg0,
  z0 := Tryz.sizeOf0,
  v0 := Tryz.zeroValue0,
  t3 := Tryz.underlying3,
  a3 := Tryz.isAgg3,
  z3 := Tryz.sizeOf3,
  v3 := Tryz.zeroValue3,
  t4 := Tryz.underlying4,
  a4 := Tryz.isAgg4,
  z4 := Tryz.sizeOf4,
  v4 := Tryz.zeroValue4,
  t28 := Tryz.underlying22,
  a28 := Tryz.isAgg22,
  z28 := Tryz.sizeOf22,
  v28 := Tryz.zeroValue22 }
def Tryz.laysCompact_ren : Go.Shelf.Ren := ⟨fun | 20 => 92 | n => n, fun | 22 => 22 | 3 => 3 | 4 => 4 | 0 => 0 | n => n, fun | n => n⟩
theorem Tryz.laysCompact : Go.Proofs.Lays2.n20 Tryz.prog Tryz.laysCompact_ren := {
  mixed := by kernel_rfl,
  f20 := Tryz.func92.trans (congrArg some (by kernel_rfl)),
  t0 := Tryz.underlying0,
  a0 := Tryz.isAgg0,
  z0 := Tryz.sizeOf0,
  v0 := Tryz.zeroValue0,
  t3 := Tryz.underlying3,
  a3 := Tryz.isAgg3,
  z3 := Tryz.sizeOf3,
  v3 := Tryz.zeroValue3,
  t4 := Tryz.underlying4,
  a4 := Tryz.isAgg4,
  z4 := Tryz.sizeOf4,
  v4 := Tryz.zeroValue4,
  t22 := Tryz.underlying22,
  a22 := Tryz.isAgg22,
  z22 := Tryz.sizeOf22,
  v22 := Tryz.zeroValue22,
  i3 := by kernel_rfl }
def Tryz.laysSearch_ren : Go.Shelf.Ren := ⟨fun | 25 => 150 | 31 => 170 | 32 => 178 | 37 => 187 | n => n, fun | 22 => 22 | 3 => 3 | 4 => 4 | 40 => 161 | 0 => 0 | n => n, fun | n => n⟩
theorem Tryz.laysSearch : Go.Proofs.Lays2.n25 Tryz.prog Tryz.laysSearch_ren := {
  mixed := by kernel_rfl,
  f25 := Tryz.func150.trans (congrArg some (by kernel_rfl)),
  f31 := Tryz.func170.trans (congrArg some (by kernel_rfl)),
  f32 := Tryz.func178.trans (congrArg some (by kernel_rfl)),
  f37 := Tryz.func187.trans (congrArg some (by kernel_rfl)),
  t0 := Tryz.underlying0,
  a0 := Tryz.isAgg0,
  z0 := Tryz.sizeOf0,
  v0 := Tryz.zeroValue0,
  t3 := Tryz.underlying3,
  a3 := Tryz.isAgg3,
  z3 := Tryz.sizeOf3,
  v3 := Tryz.zeroValue3,
  t4 := Tryz.underlying4,
  a4 := Tryz.isAgg4,
  z4 := Tryz.sizeOf4,
  v4 := Tryz.zeroValue4,
  t22 := Tryz.underlying22,
  a22 := Tryz.isAgg22,
  z22 := Tryz.sizeOf22,
  v22 := Tryz.zeroValue22,
  t40 := Tryz.underlying161,
  a40 := Tryz.isAgg161,
  z40 := Tryz.sizeOf161,
  v40 := Tryz.zeroValue161 }
theorem psort_any {w : World} {v : Value} {l : List Int} (h : LstI w v l) (hl : l.length < 4611686018427387904) :
    Calls Tryz.prog 91 #[v] w fun e w' => e = .returned (.tuple #[]) ∧ w.grownBy w' v.ownBlock ∧ LstI w' v (l.mergeSort fun x y => decide (x ≤ y)) := by
  obtain ⟨g, cap, rfl, h1, h2, h3, h4⟩ := h
  refine (Any.slices_Sort_int Tryz.laysSort g 0 cap l w h4 h1 hl).mono ?_
  rintro e w' ⟨he, n, os, rfl⟩
  refine ⟨he, sort_grown w g 0 n _ os, g, cap, by rw [List.length_mergeSort], ?_, by rw [List.length_mergeSort]; exact h2, h3, ?_⟩
  · exact Nat.lt_of_lt_of_le h1 (sort_grown w g 0 n _ os).size
  · refine holds_grow _ _ _ _ _ _ (by simp [putRow, mapBlock, Sort.ahead]; exact h1) ?_
    exact holds_putRow _ _ _ _ l.toArray _ (holds_ahead _ w n g 0 _ h4) (by simp)
theorem pcompact_any {w : World} {v : Value} {l : List Int} (h : LstI w v l) (hl : l.length ≤ 9223372036854775807) :
    Calls Tryz.prog 92 #[v] w fun e w' => ∃ u, e = .returned u ∧ w.grownBy w' v.ownBlock ∧ u.ownBlock = v.ownBlock ∧ LstI w' u (Lib.compact l) := by
  obtain ⟨g, cap, rfl, h1, h2, h3, h4⟩ := h
  refine (Any.slices_Compact_int Tryz.laysCompact g 0 cap l w h4 hl h2).mono ?_
  rintro e w' ⟨he, q, rfl⟩
  have hcl := compact_le l
  refine ⟨_, he, comp_grown w g 0 q _, rfl, g, cap, rfl, Nat.lt_of_lt_of_le h1 (comp_grown w g 0 q _).size, Nat.le_trans hcl h2, h3, fun j hj => ?_⟩
  have hj' : j < (Lib.compact l).length := by simpa using hj
  have := holds_putRow (Value.int .i64) (Sort.ahead w q) g 0 l.toArray (Lib.compact l ++ List.replicate (l.length - (Lib.compact l).length) 0).toArray (holds_ahead _ w q g 0 _ h4) (by simp; omega) j (by simp; omega)
  rw [getElem!_pos _ j (by simp; omega)] at this
  rw [getElem!_pos _ j hj]
  refine ⟨this.1.trans ?_, this.2⟩
  congr 2
  simp only [List.getElem_toArray]
  exact List.getElem_append_left hj'
theorem psearch_any {w : World} {v : Value} {l : List Int} (h : Ints w v l) (hs : l.Pairwise (· ≤ ·)) (hl : l.length < 4611686018427387904) (x : Int) :
    Calls Tryz.prog 150 #[v, .int .i64 x] w fun e w' => e = .returned (.tuple #[.int .i64 ((l.countP (· < x) : Nat) : Int), .bool (l.contains x)]) ∧ ∃ q, w' = w.drewN q := by
  obtain ⟨ao, cap, rfl, h2, h3, h4, h5⟩ := h
  by_cases h0 : l.length = 0
  · have hl0 := List.eq_nil_of_length_eq_zero h0
    subst hl0
    refine (Any.slices_BinarySearch_int_empty Tryz.laysSearch ao cap x w).mono ?_
    rintro e w' ⟨he, hw⟩
    exact ⟨he, 0, hw⟩
  obtain ⟨b, off, rfl, hc0⟩ := h5 0 (by rw [List.length_map]; omega)
  have hc : ∀ j, j < l.length → w.cell? ⟨b, off + j, none⟩ = some (.int .i64 (l.getD j 0)) := fun j hj => by
    obtain ⟨b', off', he, hcj⟩ := h5 j (by rw [List.length_map]; exact hj)
    obtain ⟨rfl, rfl⟩ : b' = b ∧ off' = off := by simp at he; exact ⟨he.1.symm, he.2.symm⟩
    rw [hcj, List.getElem_map]; simp [List.getD_eq_getElem?_getD, List.getElem?_eq_getElem hj]
  have := Any.slices_BinarySearch_int Tryz.laysSearch b off l.length cap l x w (Nat.le_refl _) hl hc (by rw [List.take_length]; exact hs)
  rw [List.take_length] at this
  exact this
theorem pequal_any {w : World} {v u : Value} {l m : List Int} (h : Ints w v l) (k : Ints w u m) : Calls Tryz.prog 37 #[v, u] w fun e w' => e = .returned (.bool (l == m)) ∧ ∃ q, w' = w.drewN q := by
  have hlv := h.len; have hlu := k.len
  obtain ⟨ao, cap, rfl, h2, h3, h4, h5⟩ := h
  obtain ⟨bo, dap, rfl, k2, k3, k4, k5⟩ := k
  by_cases hnm : l.length = m.length
  · by_cases h0 : l.length = 0
    · have hl0 := List.eq_nil_of_length_eq_zero h0
      have hm0 := List.eq_nil_of_length_eq_zero (hnm ▸ h0)
      subst hl0 hm0
      refine (Any.slices_Equal_int_empty Tryz.laysEqual ao bo cap 0 dap w (by omega)).mono ?_
      rintro e w' ⟨he, hw⟩
      exact ⟨he, 0, hw⟩
    · obtain ⟨b, off, rfl, hc0⟩ := h5 0 (by rw [List.length_map]; omega)
      obtain ⟨d, uff, rfl, kc0⟩ := k5 0 (by rw [List.length_map]; omega)
      have hc : ∀ j, j < l.length → w.cell? ⟨b, off + j, none⟩ = some (.int .i64 (l.getD j 0)) := fun j hj => by
        obtain ⟨b', off', he, hcj⟩ := h5 j (by rw [List.length_map]; exact hj)
        obtain ⟨rfl, rfl⟩ : b' = b ∧ off' = off := by simp at he; exact ⟨he.1.symm, he.2.symm⟩
        rw [hcj, List.getElem_map]; simp [List.getD_eq_getElem?_getD, List.getElem?_eq_getElem hj]
      have kc : ∀ j, j < m.length → w.cell? ⟨d, uff + j, none⟩ = some (.int .i64 (m.getD j 0)) := fun j hj => by
        obtain ⟨b', off', he, hcj⟩ := k5 j (by rw [List.length_map]; exact hj)
        obtain ⟨rfl, rfl⟩ : b' = d ∧ off' = uff := by simp at he; exact ⟨he.1.symm, he.2.symm⟩
        rw [hcj, List.getElem_map]; simp [List.getD_eq_getElem?_getD, List.getElem?_eq_getElem hj]
      have := Any.slices_Equal_int Tryz.laysEqual b off l.length cap d uff m.length dap l m w (Nat.le_refl _) (Nat.le_refl _) hlv hlu hc kc
      rw [List.take_length, List.take_length] at this
      exact this
  · refine (Any.slices_Equal_int_lens Tryz.laysEqual ao bo l.length cap m.length dap w hnm).mono ?_
    rintro e w' ⟨he, hw⟩
    have : (l == m) = false := by rw [beq_eq_false_iff_ne]; exact fun e => hnm (by rw [e])
    rw [this]
    exact ⟨he, 0, hw⟩
end Go.Proofs.YtcpnidomdkaefaaGreatDoor
end
section
namespace Go.Att
open Go.RowKit
theorem once_len (zs : List Int) : (onceL zs).length ≤ zs.length := by
  unfold onceL
  exact Nat.le_trans (compact_le _) (by rw [List.length_mergeSort]; exact Nat.le_refl _)
end Go.Att
namespace Go.Proofs.YtcpnidomdkaefaaGreatDoor
open Go.RowKit Go.Att
end Go.Proofs.YtcpnidomdkaefaaGreatDoor
end
section
namespace Go.Att
open Go.RowKit
/-- How many groups of n rows from a on stand for all that is not shown; f bounds how deep. -/
def hidN (pl : List Int) : Nat → Nat → Nat → Nat
  | 0, _, _ => 0
  | f + 1, a, n => if sho pl a ((a : Int) + n) = true then (if n = 1 then 0 else hidN pl f a (lfN n) + hidN pl f (a + lfN n) (n - lfN n)) else 1
/-- The row that stands at a place. -/
def rowOf (pl : List Int) (rows : List (List Int)) (a : Int) : List Int := nthL rows (pl.countP (· < a))
/-- The digest of n rows from a on, worked out of what is shown; and the nodes that are left. -/
def clbF (p : Int) (k : Nat) (pl : List Int) (rows : List (List Int)) : Nat → Nat → Nat → List (List Int) → Option (List Int × List (List Int))
  | 0, _, _, _ => none
  | f + 1, a, n, nodes => if sho pl a ((a : Int) + n) = true then
      (if n = 1 then some (hashP p k (0 :: rowOf pl rows a), nodes)
       else match clbF p k pl rows f a (lfN n) nodes with
        | none => none
        | some (x, r) => match clbF p k pl rows f (a + lfN n) (n - lfN n) r with
          | none => none
          | some (y, s) => some (hashP p k (1 :: (x ++ y)), s))
    else match nodes with
      | [] => none
      | d :: r => if d.length = 4 then some (d.map (fof p), r) else none
theorem clbF_len {p : Int} {k : Nat} {pl : List Int} {rows : List (List Int)} : ∀ {f a n : Nat} {nodes : List (List Int)} {d : List Int} {r : List (List Int)}, clbF p k pl rows f a n nodes = some (d, r) → d.length = 4
  | 0, _, _, _, _, _, h => by simp [clbF] at h
  | f + 1, a, n, nodes, d, r, h => by
    simp only [clbF] at h
    split at h
    · split at h
      · obtain ⟨rfl, rfl⟩ := Prod.mk.inj (Option.some.inj h); exact hashP_length _ _ _
      · split at h
        · cases h
        · split at h
          · cases h
          · obtain ⟨rfl, rfl⟩ := Prod.mk.inj (Option.some.inj h); exact hashP_length _ _ _
    · split at h
      · cases h
      · split at h
        · rename_i hd
          obtain ⟨rfl, rfl⟩ := Prod.mk.inj (Option.some.inj h)
          simpa using hd
        · cases h
/-- Enough nodes, each a digest: the root comes out, and so many are used. -/
theorem clbF_some {p : Int} {k : Nat} {pl : List Int} {rows : List (List Int)} : ∀ {f a n : Nat} {nodes : List (List Int)}, 1 ≤ n → n ≤ f → hidN pl f a n ≤ nodes.length → (∀ d ∈ nodes, d.length = 4) →
    ∃ d, clbF p k pl rows f a n nodes = some (d, nodes.drop (hidN pl f a n))
  | 0, _, _, _, h1, h2, _, _ => by omega
  | f + 1, a, n, nodes, h1, h2, h3, h4 => by
    simp only [clbF]
    simp only [hidN] at h3 ⊢
    by_cases hs : sho pl a ((a : Int) + n) = true
    · rw [if_pos hs] at h3
      rw [if_pos hs, if_pos hs]
      by_cases hn : n = 1
      · rw [if_pos hn, if_pos hn]; exact ⟨_, rfl⟩
      · rw [if_neg hn] at h3
        rw [if_neg hn, if_neg hn]
        have hb := lfN_bd (show 2 ≤ n by omega)
        obtain ⟨x, hx⟩ := clbF_some (p := p) (k := k) (pl := pl) (rows := rows) (f := f) (a := a) (n := lfN n) (nodes := nodes) hb.1 (by omega) (by omega) h4
        rw [hx]
        obtain ⟨y, hy⟩ := clbF_some (p := p) (k := k) (pl := pl) (rows := rows) (f := f) (a := a + lfN n) (n := n - lfN n) (nodes := nodes.drop (hidN pl f a (lfN n))) (by omega) (by omega) (by rw [List.length_drop]; omega) (fun d hd => h4 d (List.mem_of_mem_drop hd))
        simp only [hy, List.drop_drop]
        exact ⟨_, rfl⟩
    · rw [if_neg hs] at h3
      rw [if_neg hs, if_neg hs]
      match nodes, h3, h4 with
      | d :: r, _, h4 =>
        simp only
        rw [if_pos (h4 d (List.mem_cons_self ..))]
        exact ⟨_, rfl⟩
/-- Where the root comes out, so many were there, and they are digests. -/
theorem clbF_used {p : Int} {k : Nat} {pl : List Int} {rows : List (List Int)} : ∀ {f a n : Nat} {nodes : List (List Int)} {d : List Int} {r : List (List Int)}, clbF p k pl rows f a n nodes = some (d, r) →
    hidN pl f a n ≤ nodes.length ∧ r = nodes.drop (hidN pl f a n) ∧ ∀ i, i < hidN pl f a n → (nthL nodes i).length = 4
  | 0, _, _, _, _, _, h => by simp [clbF] at h
  | f + 1, a, n, nodes, d, r, h => by
    simp only [clbF] at h
    simp only [hidN]
    by_cases hs : sho pl a ((a : Int) + n) = true
    · rw [if_pos hs] at h ⊢
      by_cases hn : n = 1
      · rw [if_pos hn] at h ⊢
        obtain ⟨rfl, rfl⟩ := Prod.mk.inj (Option.some.inj h)
        exact ⟨Nat.zero_le _, rfl, fun i hi => by omega⟩
      · rw [if_neg hn] at h ⊢
        cases hx : clbF p k pl rows f a (lfN n) nodes with
        | none => rw [hx] at h; cases h
        | some xr =>
          obtain ⟨x, r1⟩ := xr
          rw [hx] at h
          simp only at h
          obtain ⟨u1, u2, u3⟩ := clbF_used hx
          cases hy : clbF p k pl rows f (a + lfN n) (n - lfN n) r1 with
          | none => rw [hy] at h; cases h
          | some ys =>
            obtain ⟨y, s⟩ := ys
            rw [hy] at h
            simp only at h
            obtain ⟨v1, v2, v3⟩ := clbF_used hy
            obtain ⟨rfl, rfl⟩ := Prod.mk.inj (Option.some.inj h)
            subst u2
            rw [List.length_drop] at v1
            refine ⟨by omega, by rw [v2, List.drop_drop], fun i hi => ?_⟩
            by_cases h1 : i < hidN pl f a (lfN n)
            · exact u3 i h1
            · have := v3 (i - hidN pl f a (lfN n)) (by omega)
              unfold nthL at this ⊢
              rw [List.getD_eq_getElem?_getD, List.getElem?_drop, show hidN pl f a (lfN n) + (i - hidN pl f a (lfN n)) = i by omega] at this
              rw [List.getD_eq_getElem?_getD]; exact this
    · rw [if_neg hs] at h ⊢
      match nodes, h with
      | [], h => cases h
      | e :: q, h =>
        simp only at h
        by_cases hd : e.length = 4
        · rw [if_pos hd] at h
          obtain ⟨rfl, rfl⟩ := Prod.mk.inj (Option.some.inj h)
          exact ⟨by simp, rfl, fun i hi => by
            obtain rfl : i = 0 := by omega
            exact hd⟩
        · rw [if_neg hd] at h; cases h
/-- Do places ascend within n? -/
def ascB (pl : List Int) (n : Int) : Bool := (List.range pl.length).all fun i => decide (0 ≤ nth pl i ∧ nth pl i < n) && (i == 0 || decide (nth pl (i - 1) < nth pl i))
theorem ascB_asc {pl : List Int} {n : Int} (h : ascB pl n = true) : Asc pl := by
  unfold ascB at h
  rw [List.all_eq_true] at h
  have step : ∀ i, i + 1 < pl.length → nth pl i < nth pl (i + 1) := fun i hi => by
    have := h (i + 1) (List.mem_range.2 hi)
    rw [Bool.and_eq_true, Bool.or_eq_true] at this
    rcases this.2 with h1 | h1
    · simp at h1
    · simpa using h1
  have far : ∀ d i, i + d + 1 < pl.length → nth pl i < nth pl (i + d + 1) := by
    intro d
    induction d with
    | zero => intro i hi; exact step i hi
    | succ d ih =>
      intro i hi
      have h1 := ih i (by omega)
      have h2 := step (i + d + 1) (by omega)
      rw [show i + (d + 1) + 1 = i + d + 1 + 1 by omega]
      omega
  unfold Asc
  rw [List.pairwise_iff_getElem]
  intro i j hi hj hij
  have := far (j - i - 1) i (by omega)
  rw [show i + (j - i - 1) + 1 = j by omega, nth_eq hi, nth_eq hj] at this
  exact this
theorem ascB_in {pl : List Int} {n : Int} (h : ascB pl n = true) {x : Int} (hx : x ∈ pl) : 0 ≤ x ∧ x < n := by
  unfold ascB at h
  rw [List.all_eq_true] at h
  obtain ⟨i, hi, rfl⟩ := List.getElem_of_mem hx
  have := h i (List.mem_range.2 hi)
  rw [Bool.and_eq_true, decide_eq_true_eq, nth_eq hi] at this
  exact this.1
/-- Do an opening's parts show rows of a tree of n rows with this root? -/
def treeB (p : Int) (k : Nat) (top : List Int) (n : Nat) (pl : List Int) (rows nodes : List (List Int)) : Bool :=
  decide (1 ≤ n ∧ n ≤ 65536) && decide (top.length = 4) && decide (rows.length = pl.length) && ascB pl n && (clbF p k pl rows n 0 n nodes == some (top.map (fof p), []))
end Go.Att
end
section
namespace Go.Att
open Go.RowKit
end Go.Att
namespace Go.Proofs.YtcpnidomdkaefaaGreatDoor
open Go.RowKit Go.Att
set_option maxRecDepth 100000 in
set_option maxHeartbeats 2000000 in
theorem shows_any {w : World} {v : Value} {pl : List Int} (h : Ints w v pl) (hs : pl.Pairwise (· ≤ ·)) (hl : pl.length ≤ 1000000) (a b : Int) :
    Calls Tryz.prog 149 #[.agg #[.int .i64 a, .int .i64 b], v] w fun e w' => e = .returned (.bool (sho pl a b)) ∧ Ext w w' := by
  have hll := h.run_len (P := Tryz.prog) slInts
  have HV := Lib.hid h
  have hx := Ext.alloc w (Obj.cells #[.int .i64 a, .int .i64 b] 112)
  have HX0 := Lib.hid hx
  have HBK := Lib.hid (BlkOf.new w [.int .i64 a, .int .i64 b] 112)
  have CS := Lib.hid (fun W (h : Ints W v pl) => psearch_any h hs (by omega) a)
  have HSH := Lib.hid (sho_search hs a b)
  have hcl : pl.countP (· < a) ≤ pl.length := List.countP_le_length
  obtain ⟨c, hc⟩ : ∃ c, pl.countP (· < a) = c := ⟨_, rfl⟩
  rw [hc] at CS HSH hcl
  obtain ⟨fd, hfd⟩ : ∃ fd, pl.contains a = fd := ⟨_, rfl⟩
  rw [hfd] at CS
  clear h hs hc hfd hx
  go_enter Tryz.func149, Tryz.ntmps149
  go_upto_region 1 with (fail)
  generalize w.alloc (Obj.cells #[.int .i64 a, .int .i64 b] 112) = W0 at *
  generalize w.heap.size = kb at *
  have e0 : W0.cell? ⟨kb, 0, none⟩ = some (.int .i64 a) := HBK.out.cell 0
  go_upto_region 2 with (go_at_call 150; refine (CS.out _ (HV.out.ext HX0.out)).mono ?_; rintro e w1 ⟨rfl, n1, rfl⟩)
  have HX1 := Lib.hid (HX0.out.trans (Ext.drewN W0 n1))
  have e1 : (W0.drewN n1).cell? ⟨kb, 1, none⟩ = some (.int .i64 b) := HBK.out.cell 1
  clear e0
  generalize W0.drewN n1 = W1 at *
  by_cases h1 : c < pl.length
  · have hix := HV.out.run_index (P := Tryz.prog) slInts c h1
    have hcx := (HV.out.ext HX1.out).cell c h1
    obtain ⟨y, hy⟩ : ∃ y, nth pl c = y := ⟨_, rfl⟩
    rw [hy] at hcx HSH
    clear hy
    by_cases h2 : y < b
    · have HT := Lib.hid (show sho pl a b = true from by rw [HSH.out, decide_eq_true h1, decide_eq_true h2]; rfl)
      go_quiet (fail)
      go_wp2_with fail
      go_ret
      exact ⟨by rw [HT.out]; trivial, HX1.out.trans (Ext.drewN _ _)⟩
    · have HT := Lib.hid (show sho pl a b = false from by rw [HSH.out, decide_eq_false h2, Bool.and_false])
      go_quiet (fail)
      go_wp2_with fail
      go_ret
      exact ⟨by rw [HT.out]; trivial, HX1.out.trans (Ext.drewN _ _)⟩
  · have HT := Lib.hid (show sho pl a b = false from by rw [HSH.out, decide_eq_false h1]; rfl)
    obtain rfl : c = pl.length := by omega
    go_quiet (fail)
    go_wp2_with fail
    go_ret
    exact ⟨by rw [HT.out]; trivial, HX1.out.trans (Ext.drewN _ _)⟩
end Go.Proofs.YtcpnidomdkaefaaGreatDoor
end
section
namespace Go.Proofs.YtcpnidomdkaefaaGreatDoor
open Go.RowKit Go.Att
set_option maxRecDepth 100000 in
set_option maxHeartbeats 2000000 in
theorem elements_any {w : World} {f : Value} {p g : Int} {fs : List Int} (hf : Fld w f p g fs) {v : Value} {l : List Int} (h : Ints w v l) (hl : l.length ≤ 4294967000) :
    Calls Tryz.prog 116 #[f, v] w (Gives w fun u w' => w'.ownsRow w.heap.size 3 1 u l.length ((l.map (fof p)).map (Value.int .i64))) := by
  have hll := h.run_len (P := Tryz.prog) slInts
  have HV := Lib.hid h; have HF := Lib.hid hf
  clear h hf
  go_enter Tryz.func116, Tryz.ntmps116
  go_upto_region 2 with (refine wpList_mk0 rfl _ _ 22 rfl slInts (Ext.refl w) rfl rfl (by omega) (by omega) (by omega) ?_; intro v0 w0 HO0 HX0 _)
  have HO0H := Lib.hid HO0; have HX0H := Lib.hid HX0
  clear HO0 HX0
  go_wp2_with fail
  go_loopw [5, 7, 13] (fun x5 _ x13 wr => ∃ i : Nat, i ≤ l.length ∧ x13 = .int .i64 i ∧ Hid (wr.ownsRow w.heap.size 3 1 x5 i (((l.map (fof p)).take i).map (Value.int .i64))) ∧ Hid (Ext w wr)) (fun _ _ x13 _ => l.length - (intOf x13).toNat)
  case atStart => exact ⟨0, Nat.zero_le _, rfl, Lib.hid (by simpa using HO0H.out), HX0H⟩
  case round =>
    clear HO0H HX0H
    obtain ⟨i, hi, rfl, HO, HX⟩ := hrel
    by_cases hil : i < l.length
    · have hix := HV.out.run_index (P := Tryz.prog) slInts i hil
      have hcx := (HV.out.ext HX.out).cell i hil
      have HTK := Lib.hid (show (l.map (fof p)).take (i + 1) = (l.map (fof p)).take i ++ [fof p (nth l i)] from by rw [List.take_succ_eq_append_getElem (by simpa using hil), List.getElem_map, nth_eq hil])
      obtain ⟨x, hx⟩ : ∃ x, nth l i = x := ⟨_, rfl⟩
      rw [hx] at hcx HTK
      clear hx
      obtain ⟨va, vc, rfl⟩ := own_shape HO.out
      have HFW := Lib.hid (HF.out.ext HX.out)
      go_wp2_with (first | (go_at_call 83; refine (of_any HFW.out _).mono ?_; rintro e w1 ⟨rfl, n1, rfl⟩; have HO1 := own_ext HO.out (Ext.drewN wr n1); have hsx : w.heap.size ≤ (wr.drewN n1).heap.size := (HX.out.trans (Ext.drewN _ _)).size) | (at_builtin; refine wpList_appNw rfl _ _ 22 rfl slInts rfl hsx HO1 rfl #[.int .i64 (fof p x)] rfl (by intro u hu; simp at hu; subst hu; rfl) rfl (by omega) (by omega) ?_; intro v6 w6 HO6 HG6 _))
      have HOA := Lib.hid (show w6.ownsRow w.heap.size 3 1 v6 (i + 1) (((l.map (fof p)).take (i + 1)).map (Value.int .i64)) from by rw [HTK.out, List.map_append]; exact HO6)
      have HXA := Lib.hid (Ext.own_grown (HX.out.trans (Ext.drewN _ _)) HO1 HG6)
      go_roundw
      case rel => exact ⟨i + 1, by omega, by go_num, HOA, HXA⟩
      case measure => simp [intOf]; omega
    · obtain rfl : i = l.length := by omega
      go_wp2_with fail
      go_ret
      exact .mk _ rfl HX.out (by have := HO.out; rwa [List.take_of_length_le (by simp)] at this)
end Go.Proofs.YtcpnidomdkaefaaGreatDoor
end
section
namespace Go.Att
open Go.RowKit
theorem fofE_bd {p : Int} (hp : 2 ≤ p) (x : Int) : 0 ≤ fof p x ∧ fof p x < p := ⟨Int.emod_nonneg _ (by omega), Int.emod_lt_of_pos _ (by omega)⟩
theorem dotP_bd {p : Int} (hp : 2 ≤ p) (f : Nat → Int) : ∀ n, 0 ≤ dotP p f n ∧ dotP p f n < p
  | 0 => ⟨Int.le_refl _, by show (0 : Int) < p; omega⟩
  | n + 1 => fofE_bd hp _
theorem hashP_bd {p : Int} (hp : 2 ≤ p) (k : Nat) (l : List Int) {i : Nat} (hi : i < 4) : 0 ≤ nth (hashP p k l) i ∧ nth (hashP p k l) i < p := by
  have e : nth (hashP p k l) i = nth (hashS p k (padP p l) ((padP p l).length / 4)) i := by
    unfold hashP
    rw [nth_eq (by rw [List.length_take, hashS_length]; omega), nth_eq (by rw [hashS_length]; omega)]
    simp
  rw [e]
  cases (padP p l).length / 4 with
  | zero =>
    have : nth (hashS p k (padP p l) 0) i = 0 := by
      show nth (List.replicate 8 (0 : Int)) i = 0
      rw [nth_eq (by simp; omega), List.getElem_replicate]
    rw [this]; omega
  | succ c =>
    show 0 ≤ nth (mixT p _) i ∧ nth (mixT p _) i < p
    rw [mixT_nth p _ (by omega)]
    exact dotP_bd hp _ _
/-- The number below n that a digest gives. -/
def plcV (p : Int) (D : List Int) (n : Int) : Int := (nth D 0 * p + nth D 1) % n
theorem plcV_bd {p : Int} {D : List Int} {n : Int} (hn : 1 ≤ n) : 0 ≤ plcV p D n ∧ plcV p D n < n := ⟨Int.emod_nonneg _ (by omega), Int.emod_lt_of_pos _ (by omega)⟩
theorem step_bd {p : Int} (hp : 2 ≤ p) (k : Nat) (kind : Int) (D l : List Int) {i : Nat} (hi : i < 4) : 0 ≤ nth (stepP p k kind D l) i ∧ nth (stepP p k kind D l) i < p := hashP_bd hp k _ hi
theorem place_small {a b p : Int} (ha : 0 ≤ a ∧ a < p) (hb : 0 ≤ b ∧ b < p) (hp : p ≤ 2147483647) : 0 ≤ a * p ∧ a * p + b ≤ 4611686018427387904 := by
  have h1 : 0 ≤ a * p := Int.mul_nonneg ha.1 (by omega)
  have h2 : a * p ≤ 2147483646 * 2147483647 := Int.mul_le_mul (by omega) hp (by omega) (by omega)
  omega
end Go.Att
namespace Go.Proofs.YtcpnidomdkaefaaGreatDoor
open Go.RowKit Go.Att
set_option maxRecDepth 100000 in
set_option maxHeartbeats 4000000 in
theorem cplace_any {w : World} {cb bs : Nat} {p : Int} {k : Nat} {D : List Int} (hp : 2 ≤ p) (hp2 : p ≤ 2147483647) (hc : ChP w cb (.pointer (some ⟨bs, 0, none⟩)) D) (hs : Spg w (.pointer (some ⟨bs, 0, none⟩)) p k) (hbs : ∀ w', w.grownBy w' (some cb) → Spg w' (.pointer (some ⟨bs, 0, none⟩)) p k) (hl : D.length ≤ 4294960000) (n : Int) (h1 : 1 ≤ n) (hn : n ≤ 65536) :
    Calls Tryz.prog 90 #[.pointer (some ⟨cb, 0, none⟩), .int .i64 n] w fun e w' => e = .returned (.int .i64 (plcV p (stepP p k 4 D []) n)) ∧ w.grownBy w' (some cb) ∧ ChP w' cb (.pointer (some ⟨bs, 0, none⟩)) (stepP p k 4 D []) ∧ DigNew w w' cb := by
  have C := Lib.hid (cdraw_any hc hs hl)
  have b0 := step_bd (p := p) hp k 4 D [] (i := 0) (by omega)
  have b1 := step_bd (p := p) hp k 4 D [] (i := 1) (by omega)
  have hSl := stepP_length p k 4 D []
  have HBS := Lib.hid hbs
  obtain ⟨E, hE⟩ : ∃ E, stepP p k 4 D [] = E := ⟨_, rfl⟩
  rw [hE] at C b0 b1 hSl ⊢
  have HSL := Lib.hid hSl
  have HPV := Lib.hid (show plcV p E n = (nth E 0 * p + nth E 1) % n from rfl)
  have hm := place_small b0 b1 hp2
  clear hc hs hE hSl hbs
  go_enter Tryz.func90, Tryz.ntmps90
  go_wp2_with (go_at_call 33; refine C.out.mono ?_; rintro e w1 ⟨rfl, hx1, hc1, hd1⟩; have HDN := Lib.hid hd1; have HC1 := Lib.hid hc1; have HX1 := Lib.hid hx1; clear hd1 hc1 hx1)
  obtain ⟨v1, k1, hd1⟩ := HC1.out.c1
  have k0 := HC1.out.c0
  obtain ⟨sb, bf, rt, g, fs, he, hsp, hf, _⟩ := HBS.out w1 HX1.out
  obtain rfl : bs = sb := by simpa using he
  have c0 := hsp.c0
  have HF := Lib.hid hf
  have hix1 := hd1.run_index (P := Tryz.prog) slInts 1 (by rw [HSL.out]; omega)
  have hc1 := hd1.cell 1 (by rw [HSL.out]; omega)
  rw [show ((1 : Nat) : Int) = 1 from rfl] at hix1
  clear hd1 hsp hf he
  generalize nth E 0 = x at *
  generalize nth E 1 = y at *
  obtain ⟨a1, ha1⟩ : ∃ a, elt v1 1 1 = a := ⟨_, rfl⟩
  rw [ha1] at hix1 hc1
  clear ha1
  have w1' : IntKind.i64.wrap (x * p) = x * p := IntWalk.i64_in _ (by omega)
  have w2' : IntKind.i64.wrap (x * p + y) = x * p + y := IntWalk.i64_in _ (by omega)
  have ht : (x * p + y).tmod n = (x * p + y) % n := Int.tmod_eq_emod_of_nonneg (by omega)
  have hz : (n == 0) = false := by rw [beq_eq_false_iff_ne]; omega
  have w3' : IntKind.i64.wrap ((x * p + y) % n) = (x * p + y) % n := IntWalk.i64_in _ (by have := Int.emod_nonneg (x * p + y) (show n ≠ 0 by omega); have := Int.emod_lt_of_pos (x * p + y) (show 0 < n by omega); omega)
  go_quiet ((first | (go_at_call 13; exact sfield_q c0 _) | (go_at_call 86; exact p_q HF.out _)))
  go_wp2_with fail
  go_ret
  exact ⟨by rw [HPV.out]; trivial, HX1.out.trans ((Ext.drewN w1 nq).grownBy _), HC1.out.ext (Ext.drewN w1 nq), HDN.out.ext (World.block_lt_of_cell? w1 _ HC1.out.c0) (Ext.drewN w1 nq)⟩
end Go.Proofs.YtcpnidomdkaefaaGreatDoor
end
