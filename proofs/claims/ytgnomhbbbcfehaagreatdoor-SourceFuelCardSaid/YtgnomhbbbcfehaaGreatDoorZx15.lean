/- More fuel makes no difference to what a program comes to, in plain words. The program's machine: Clip of its steps; Walk. Cells are sorted by the library's sort, by their places: contracts; Clip of cells. The program's Run: contract. The closed fact of the machine's laws: contract. -/
import Derived.Test.YtgnomhbbbcfehaaGreatDoorEvd
import Derived.Test.YtgnomhbbbcfehaaGreatDoorMb
import Derived.Test.YtgnomhbbbcfehaaGreatDoorZx8
import Derived.Test.YtgnomhbbbcfehaaGreatDoorVc
import Derived.Shelf.SlSortCmp.NoneTotal
import Derived.Test.YtgnomhbbbcfehaaGreatDoorQt
import Derived.BigQuiet
import Derived.Maps.RangeWalk
import Derived.Test.YtgnomhbbbcfehaaGreatDoorZx16
import Derived.Test.YtgnomhbbbcfehaaGreatDoorZx17
import Derived.Test.YtgnomhbbbcfehaaGreatDoorEr
section
namespace Go.Att
theorem evalP_val {p : Int} {fs : List Fn} {args : List Int} {fuel v : Int} {k : Nat} (h : evalP p fs args fuel = .val v k) :
    1 ≤ k ∧ (k : Int) ≤ fuel ∧ ∀ o : Int, 0 ≤ o → o ≤ 16384 → (o < k → evalP p fs args o = .err 8) ∧ ((k : Int) ≤ o → evalP p fs args o = .val v k) := by
  unfold evalP at h
  split at h
  · cases h
  · rename_i f hf
    split at h
    · cases h
    · rename_i hl
      split at h
      · cases h
      · rename_i hfl
        split at h
        · rename_i v' l he
          injection h with h1 h2
          subst h1
          obtain ⟨a1, a2⟩ := evT_fuel p fs _ _ _ _ _ _ (Nat.le_refl _) he
          refine ⟨by omega, by omega, fun o ho0 ho1 => ?_⟩
          obtain ⟨b1, b2⟩ := a2 o.toNat o.toNat (Nat.le_refl _)
          refine ⟨fun hlt => ?_, fun hle => ?_⟩
          · unfold evalP
            rw [hf]
            dsimp only
            rw [if_neg hl, if_neg (by omega), b2 (by omega)]
          · unfold evalP
            rw [hf]
            dsimp only
            rw [if_neg hl, if_neg (by omega), b1 (by omega)]
            dsimp only
            congr 1
            omega
        · cases h
end Go.Att
end
section
namespace Go.Att
open Go.RowKit
section
variable {w : World} {v : Value} {l : List Stp} {x : Value}
end
end Go.Att
namespace Go.Proofs.YtgnomhbbbcfehaaGreatDoor
open Go.RowKit Go.Att
attribute [local go_sem ↓] Go.wp_at_zero Go.wp_at_succ
theorem run_clip {P : Program} {t e sz bytes : Nat} {z : Value} (ht : SlT P t e sz bytes z) (ao : Option Addr) (n cap : Nat) (h : n ≤ cap) (w : World) :
    (Instr.sliceAt t (.slice ao n cap) none (some (.int .i64 n)) (some (.int .i64 n))).run P w = .ok (sliced ao 0 n n sz) w := by
  have hu : P.underlying t = some (.slice (P.elem t)) := by rw [ht.und, elem_of ht.und]
  rw [run_sliceAt_slice (h := hu), run_slice_hm (ht := hu) (h0 := by omega) (h2 := by omega) (h3 := by omega), elem_of ht.und, ht.run_size]
  simp [Result.andThen]
theorem clip_sl {w : World} {sz n cap : Nat} {ao : Option Addr} {cs : List Value} (h : Sl w sz (.slice ao n cap) n cs) : Sl w sz (sliced ao 0 n n sz) n cs := by
  obtain ⟨ao', cap', e, h2, h3, h4, h5⟩ := h
  injection e with e1 e2 e3
  subst e1 e3
  refine ⟨ao, n, ?_, h2, Nat.le_refl _, by omega, fun i hi => ?_⟩
  · unfold sliced
    cases ao with
    | none => simp
    | some a => simp [Addr.add]
  · obtain ⟨b, off, q1, q2⟩ := h5 i hi
    exact ⟨b, off, q1, q2⟩
section
variable {w : World} {p g : Int} {fs : List Int} {sz : Int} {lv : Value} {cd : List In4} {lim : Int}
end
end Go.Proofs.YtgnomhbbbcfehaaGreatDoor
end
section
namespace Go.Att
open Go.RowKit Go.Sort
def cmpC (a b : Int × Int) : Int := cmpI a.1 b.1
theorem cmpC_lt (a b : Int × Int) : decide (cmpC a b < 0) = decide (a.1 < b.1) := by
  rw [decide_eq_decide]
  unfold cmpC cmpI
  by_cases h1 : a.1 < b.1
  · simp [h1]
  · by_cases h2 : b.1 < a.1
    · simp [h1, h2]
    · simp [h1, h2]
theorem swoC : SWO (Go.Proofs.ltOf cmpC) where
  irrefl x := by unfold Go.Proofs.ltOf; rw [cmpC_lt]; simp
  trans x y z h1 h2 := by
    unfold Go.Proofs.ltOf at *
    rw [cmpC_lt] at *
    simp only [decide_eq_true_eq] at *
    omega
  ntrans x y z h1 h2 := by
    unfold Go.Proofs.ltOf at *
    rw [cmpC_lt] at *
    simp only [decide_eq_false_iff_not] at *
    omega
theorem sorted_cells {d d' : Array (Int × Int)} (hp : PermIn 0 d.size d d') (hs : SortedIn (Go.Proofs.ltOf cmpC) 0 d.size d') : d'.toList.Perm d.toList ∧ d'.toList.Pairwise (fun x y => x.1 ≤ y.1) := by
  obtain ⟨h1, -, h3⟩ := hp
  refine ⟨?_, ?_⟩
  · have e1 : d'.extract 0 d.size = d' := by rw [← h1]; simp
    have e2 : d.extract 0 d.size = d := by simp
    rw [e1, e2] at h3; exact h3
  · rw [List.pairwise_iff_getElem]
    intro i j hi hj hij
    have hj' : j < d'.size := by simpa using hj
    have hi' : i < d'.size := by simpa using hi
    have := hs i j (Nat.zero_le _) hij (by omega)
    unfold Go.Proofs.ltOf at this
    rw [cmpC_lt, decide_eq_false_iff_not, getElem!_pos _ j hj', getElem!_pos _ i hi'] at this
    simp only [Array.getElem_toList]
    omega
end Go.Att
namespace Go.Proofs.YtgnomhbbbcfehaaGreatDoor
open Go.RowKit Go.Att Go.Shelf Go.Sort
theorem cell_new2 (W : World) (a b : Obj) (n : Nat) : ((W.alloc a).alloc b).drewN n = grow (W.drewN n) #[a, b] := by
  rw [alloc_eq_grow, alloc_eq_grow]
  show grow (grow (W.drewN n) #[a]) #[b] = _
  rw [grow_grow]; rfl
set_option maxRecDepth 100000 in
theorem compareC_any (x y : Int × Int) (W : World) : Calls Tryz.prog 83 #[.agg #[.int .i64 x.1, .int .i64 x.2], .agg #[.int .i64 y.1, .int .i64 y.2]] W fun e w' => e = .returned (.int .i64 (cmpC x y)) ∧ ∃ q os', w' = grow (W.drewN q) os' := by
  obtain ⟨x1, x2⟩ := x
  obtain ⟨y1, y2⟩ := y
  show Calls _ _ _ _ fun e w' => e = .returned (.int .i64 (cmpI x1 y1)) ∧ _
  go_enter Tryz.func83, Tryz.ntmps83
  go_wp2_with (go_at_call 84; refine (cmpc_any _ _ _).mono ?_; rintro e w' ⟨rfl, rfl⟩)
  go_ret
  exact ⟨rfl, 0, _, cell_new2 _ _ _ 0⟩
def Tryz.sortCell_ren : Go.Shelf.Ren := ⟨fun | 6 => 82 | 15 => 120 | 14 => 119 | 28 => 158 | 29 => 159 | 20 => 150 | 21 => 151 | 22 => 152 | 23 => 153 | 24 => 154 | 25 => 155 | 26 => 156 | 27 => 157 | 46 => 177 | 47 => 178 | 48 => 179 | 49 => 180 | 50 => 181 | 57 => 194 | n => n, fun | 22 => 115 | 24 => 169 | 25 => 171 | 3 => 3 | 39 => 195 | 0 => 0 | 53 => 233 | 55 => 235 | 4 => 4 | 46 => 226 | 45 => 225 | 50 => 230 | 5 => 5 | 9 => 9 | 66 => 243 | 70 => 247 | 76 => 254 | 77 => 79 | n => n, fun | n => n⟩
theorem Tryz.sortCell : Go.Proofs.SlLaysF0.n6 Tryz.prog Tryz.sortCell_ren := {
  mixed := by kernel_rfl,
  f6 := ⟨Tryz.f82.name, by decide, Tryz.func82.trans (congrArg some (by kernel_rfl))⟩,
  f14 := ⟨Tryz.f119.name, by decide, Tryz.func119.trans (congrArg some (by kernel_rfl))⟩,
  f15 := Tryz.func120.trans (congrArg some (by kernel_rfl)),
  f20 := ⟨Tryz.f150.name, by decide, Tryz.func150.trans (congrArg some (by kernel_rfl))⟩,
  f21 := ⟨Tryz.f151.name, by decide, Tryz.func151.trans (congrArg some (by kernel_rfl))⟩,
  f22 := ⟨Tryz.f152.name, by decide, Tryz.func152.trans (congrArg some (by kernel_rfl))⟩,
  f23 := ⟨Tryz.f153.name, by decide, Tryz.func153.trans (congrArg some (by kernel_rfl))⟩,
  f24 := ⟨Tryz.f154.name, by decide, Tryz.func154.trans (congrArg some (by kernel_rfl))⟩,
  f25 := ⟨Tryz.f155.name, by decide, Tryz.func155.trans (congrArg some (by kernel_rfl))⟩,
  f26 := ⟨Tryz.f156.name, by decide, Tryz.func156.trans (congrArg some (by kernel_rfl))⟩,
  f27 := ⟨Tryz.f157.name, by decide, Tryz.func157.trans (congrArg some (by kernel_rfl))⟩,
  f28 := Tryz.func158.trans (congrArg some (by kernel_rfl)),
  f29 := Tryz.func159.trans (congrArg some (by kernel_rfl)),
  f46 := ⟨Tryz.f177.name, by decide, Tryz.func177.trans (congrArg some (by kernel_rfl))⟩,
  f47 := Tryz.func178.trans (congrArg some (by kernel_rfl)),
  f48 := Tryz.func179.trans (congrArg some (by kernel_rfl)),
  f49 := ⟨Tryz.f180.name, by decide, Tryz.func180.trans (congrArg some (by kernel_rfl))⟩,
  f50 := ⟨Tryz.f181.name, by decide, Tryz.func181.trans (congrArg some (by kernel_rfl))⟩,
  f57 := ⟨Tryz.f194.name, by decide, Tryz.func194.trans (congrArg some (by kernel_rfl))⟩,
  t0 := Tryz.underlying0,
  a0 := Tryz.isAgg0,
  z0 := Tryz.sizeOf0,
  v0 := Tryz.zeroValue0,
  t3 := Tryz.underlying3,
  a3 := Tryz.isAgg3,
  z3 := Tryz.sizeOf3,
  v3 := Tryz.zeroValue3,
  t4 := Tryz.underlying4,
  a4 := Tryz.isAgg4,
  z4 := Tryz.sizeOf4,
  v4 := Tryz.zeroValue4,
  t5 := Tryz.underlying5,
  a5 := Tryz.isAgg5,
  z5 := Tryz.sizeOf5,
  v5 := Tryz.zeroValue5,
  t9 := Tryz.underlying9,
  a9 := Tryz.isAgg9,
  z9 := Tryz.sizeOf9,
  v9 := Tryz.zeroValue9,
  t22 := Tryz.underlying115,
  a22 := Tryz.isAgg115,
  z22 := Tryz.sizeOf115,
  v22 := Tryz.zeroValue115,
  t25 := Tryz.underlying171,
  a25 := Tryz.isAgg171,
  z25 := Tryz.sizeOf171,
  v25 := Tryz.zeroValue171,
  t39 := Tryz.underlying195,
  a39 := Tryz.isAgg195,
  z39 := Tryz.sizeOf195,
  v39 := Tryz.zeroValue195,
  t45 := Tryz.underlying225,
  a45 := Tryz.isAgg225,
  z45 := Tryz.sizeOf225,
  v45 := Tryz.zeroValue225,
  t46 := Tryz.underlying226,
  a46 := Tryz.isAgg226,
  z46 := Tryz.sizeOf226,
  v46 := Tryz.zeroValue226,
  t50 := Tryz.underlying230,
  a50 := Tryz.isAgg230,
  z50 := Tryz.sizeOf230,
  v50 := Tryz.zeroValue230,
  t53 := Tryz.underlying233,
  a53 := Tryz.isAgg233,
  z53 := Tryz.sizeOf233,
  v53 := Tryz.zeroValue233,
  t55 := Tryz.underlying235,
  a55 := Tryz.isAgg235,
  z55 := Tryz.sizeOf235,
  v55 := Tryz.zeroValue235,
  t66 := Tryz.underlying243,
  a66 := Tryz.isAgg243,
  z66 := Tryz.sizeOf243,
  v66 := Tryz.zeroValue243,
  t70 := Tryz.underlying247,
  a70 := Tryz.isAgg247,
  z70 := Tryz.sizeOf247,
  v70 := Tryz.zeroValue247,
  t76 := Tryz.underlying254,
  a76 := Tryz.isAgg254,
  z76 := Tryz.sizeOf254,
  v76 := Tryz.zeroValue254,
  t77 := Tryz.underlying79,
  a77 := Tryz.isAgg79,
  z77 := Tryz.sizeOf79,
  v77 := Tryz.zeroValue79 }
theorem cmpLaysC (blk off size : Nat) (w : World) : CmpLays Tryz.prog 83 #[] encP 2 cmpC blk off size w :=
  fun _ _ _ _ x y => compareC_any x y _
theorem Tryz.isAggCell (w : World) : (isAgg 169).run Tryz.prog w = .ok true w := by kernel_rfl
theorem Tryz.sizeOfCell (w : World) : (sizeOf 169).run Tryz.prog w = .ok 2 w := by kernel_rfl
set_option maxHeartbeats 1000000 in
theorem sortCell_any {w : World} {B e n : Nat} {v : Value} {l : List (Int × Int)} (h : w.ownsRow B e 2 v n (flatP l)) (hs : l.length ≤ 4611686018427387903) :
    Calls Tryz.prog 82 #[v, .func (.func 83) #[] #[]] w fun e w' => e = .returned (.tuple #[]) ∧ w.grownBy w' v.ownBlock ∧ ∃ l', l'.Perm l ∧ l'.Pairwise (fun x y => x.1 ≤ y.1) ∧ Prs w' v l' := by
  have hn : n = l.length := by have := h.1; rw [flatP_length] at this; omega
  subst hn
  have hp := Prs.of_own h
  by_cases h0 : l.length = 0
  · have hl : l = [] := List.eq_nil_of_length_eq_zero h0
    subst hl
    obtain ⟨ao, cap, rfl, -⟩ := hp
    refine (AnyF.slices_SortFunc_none { Tryz.sortCell with } ao cap _ w).mono ?_
    rintro e w' ⟨rfl, rfl⟩
    exact ⟨rfl, World.grownBy.refl _ _, [], .refl _, .nil, Prs.of_own h⟩
  · have hh := h
    obtain ⟨h1, h2⟩ := h
    rcases h2 with ⟨rfl, h2⟩ | ⟨g, cap, cur, rfl, hb, hg, hnc, hcm, hr⟩
    · exact absurd h2 h0
    · have hH := holds_own hh
      have eg : ∀ args w, (callFunc 83 args).run Tryz.prog w = .ok (.enter 83 args) w := enters_of Tryz.func83 (by kernel_rfl) rfl
      have hlt : g < w.heap.size := (Array.getElem?_eq_some_iff.1 hg).1
      have hcon := AnyQ.slices_SortFunc Tryz.sortCell 2 Tryz.isAggCell Tryz.sizeOfCell encP (fun _ => rfl) (fun x v hv => by simp [encP] at hv; rcases hv with rfl | rfl <;> rfl) cmpC swoC 83 #[] g 0 cap l.toArray w eg (cmpLaysC g 0 _ w) hH hlt (by simp; omega)
      refine hcon.mono ?_
      rintro e w' ⟨rfl, d', m, os, hpm, hst, rfl⟩
      obtain ⟨k1, k2⟩ := sorted_cells hpm hst
      have hlen : d'.toList.length = l.length := by simpa using k1.length_eq
      have hsz : d'.size = l.toArray.size := hpm.1
      refine ⟨rfl, sortWorld_grown _ _ _ _ _ _, d'.toList, by simpa using k1, k2, ?_⟩
      have := prs_of_holds (g := g) (cap := cap) (l := d'.toList) (w := sortWorldK encP 2 w g 0 m d'.toList.toArray os) (by rw [hlen]; exact hnc) hcm
        (holdsK_sortWorldK_c encP 2 w g 0 l.toArray d'.toList.toArray m os hH hlt (by simp [hsz]))
      rw [hlen] at this
      simpa using this
theorem slCell : SlT Tryz.prog 115 169 2 16 (.agg #[.int .i64 0, .int .i64 0]) := .mk' Tryz.underlying115 (by kernel_rfl) (by decide)
set_option maxRecDepth 100000 in
set_option maxHeartbeats 2000000 in
theorem clipC_any {w : World} {v : Value} {l : List (Int × Int)} (h : Prs w v l) : Calls Tryz.prog 85 #[v] w fun e w' => w = w' ∧ ∃ u, e = .returned u ∧ Prs w u l ∧ u.ownBlock = v.ownBlock := by
  have hs := h
  obtain ⟨ao, cap, e, _, hcap, _⟩ := hs
  subst e
  have hll := fun w' => Sl.run_len (P := Tryz.prog) h slCell 3 w'
  have hcl := fun w' => run_clip slCell ao l.length cap hcap w'
  have HS := Lib.hid (clip_sl h)
  have HO := Lib.hid (show (sliced ao 0 l.length l.length 2).ownBlock = (Value.slice ao l.length cap).ownBlock by unfold sliced; cases ao <;> simp [Value.ownBlock, Addr.add])
  clear h
  generalize hsl : sliced ao 0 l.length l.length 2 = u at hcl HS HO
  clear hsl
  go_enter Tryz.func85, Tryz.ntmps85
  go_wp2_with fail
  go_ret
  exact ⟨rfl, _, rfl, HS.out, HO.out⟩
end Go.Proofs.YtgnomhbbbcfehaaGreatDoor
end
section
namespace Go.Att
open Go.RowKit Go.Maps
structure Coll (mem L : List (Int × Int)) (left : Lit → Bool) : Prop where
  nd : L.Pairwise (fun x y => x.1 ≠ y.1)
  iff : ∀ c, c ∈ L ↔ c ∈ mem ∧ c.1 ≠ 0 ∧ left (.int .i64 c.1) = false
theorem sameI (a b : Int) : (Lit.int .i64 a).sameKey (.int .i64 b) = decide (a = b) := by simp [Lit.sameKey]
section
variable {mem L : List (Int × Int)} {left : Lit → Bool}
theorem Coll.start {H : Type} {D : DataW H} (h : MemD D mem) (hu : Uq mem) : Coll mem [] (Maps.has D) :=
  ⟨.nil, fun c => by
    constructor
    · intro hc; cases hc
    · rintro ⟨h1, _, h3⟩
      rw [h.has, hu c h1] at h3; cases h3⟩
theorem MemD.out {H : Type} {D : DataW H} (h : MemD D mem) {x c : Int} (hat : ∀ zd, D.atKey (.int .i64 x) zd = .lit (.int .i64 c)) : lk mem x = some c := by
  have h1 := has_true_of_atKey hat
  rw [h.has] at h1
  cases hl : lk mem x with
  | none => rw [hl] at h1; cases h1
  | some v =>
    have h2 := h.at_ x v (.lit (.int .i64 c)) hl
    rw [hat] at h2
    injection h2 with h2
    injection h2 with _ h2
    rw [h2]
theorem Coll.step (h : Coll mem L left) (hu : Uq mem) {x c : Int} (hx : x ≠ 0) (hl : lk mem x = some c) (hlt : left (.int .i64 x) = true) : Coll mem (L ++ [(x, c)]) (fun z => left z && !z.sameKey (.int .i64 x)) := by
  refine ⟨?_, fun d => ?_⟩
  · rw [List.pairwise_append]
    refine ⟨h.nd, by simp, fun a ha b hb => ?_⟩
    rw [List.mem_singleton] at hb
    subst hb
    intro e
    have := ((h.iff a).1 ha).2.2
    rw [show a.1 = x from e, hlt] at this
    cases this
  · rw [List.mem_append, List.mem_singleton, h.iff]
    show _ ↔ d ∈ mem ∧ d.1 ≠ 0 ∧ (left (.int .i64 d.1) && !(Lit.int .i64 d.1).sameKey (.int .i64 x)) = false
    rw [sameI]
    constructor
    · rintro (⟨h1, h2, h3⟩ | rfl)
      · exact ⟨h1, h2, by rw [h3]; rfl⟩
      · exact ⟨lk_mem hl, hx, by simp⟩
    · rintro ⟨h1, h2, h3⟩
      by_cases e : d.1 = x
      · exact .inr (hu.one h1 (lk_mem hl) e)
      · exact .inl ⟨h1, h2, by simpa [e] using h3⟩
theorem Coll.skip (h : Coll mem L left) : Coll mem L (fun z => left z && !z.sameKey (.int .i64 0)) :=
  ⟨h.nd, fun d => by
    rw [h.iff]
    show _ ↔ d ∈ mem ∧ d.1 ≠ 0 ∧ (left (.int .i64 d.1) && !(Lit.int .i64 d.1).sameKey (.int .i64 0)) = false
    rw [sameI]
    constructor
    · rintro ⟨h1, h2, h3⟩; exact ⟨h1, h2, by rw [h3]; rfl⟩
    · rintro ⟨h1, h2, h3⟩; exact ⟨h1, h2, by simpa [h2] using h3⟩⟩
theorem Coll.len (h : Coll mem L left) : L.length ≤ mem.length := by
  have hn : L.Nodup := by
    refine List.Pairwise.imp ?_ h.nd
    intro a b hab e; subst e; exact hab rfl
  have hsub : ∀ c ∈ L, c ∈ mem := fun c hc => ((h.iff c).1 hc).1
  clear h
  induction L generalizing mem with
  | nil => simp
  | cons c t ih =>
    rw [List.nodup_cons] at hn
    have hc := hsub c (by simp)
    have := ih (mem := mem.erase c) hn.2 (fun d hd => (List.mem_erase_of_ne (fun e => hn.1 (by rw [← e]; exact hd))).2 (hsub d (by simp [hd])))
    rw [List.length_erase_of_mem hc] at this
    have := List.length_pos_of_mem hc
    simp; omega
theorem Coll.cells (h : Coll mem L left) (hl : ∀ kl, left kl = false) (hb : ∀ c ∈ mem, 0 ≤ c.1) {l : List (Int × Int)} (hp : l.Perm L) (hs : l.Pairwise (fun x y => x.1 ≤ y.1)) : CellsOf mem l := by
  have hne : l.Pairwise (fun x y => x.1 ≠ y.1) := (hp.pairwise_iff (fun {_ _} hne => Ne.symm hne)).2 h.nd
  refine ⟨?_, fun c => ?_⟩
  · refine List.Pairwise.imp ?_ (hs.and hne)
    rintro x y ⟨h1, h2⟩; omega
  · rw [hp.mem_iff, h.iff]
    constructor
    · rintro ⟨h1, h2, _⟩
      have := hb c h1
      exact ⟨h1, by omega⟩
    · rintro ⟨h1, h2⟩; exact ⟨h1, by omega, hl _⟩
end
end Go.Att
namespace Go.Proofs.YtgnomhbbbcfehaaGreatDoor
open Go.RowKit Go.Att Go.Maps
def PRan (w : World) (r : Rw) (e : Ending) (w' : World) : Prop :=
  match r with
  | .done l out mem => ∃ v L, e = .returned (.tuple #[.agg #[.int .i64 out, .int .i64 ((l.length : Int) - 1), v], .nilIface]) ∧ CellsOf mem L ∧ Prs w' v L ∧ Ext w w'
  | .no k => e = .returned (.tuple #[.agg #[.int .i64 0, .int .i64 0, .slice none 0 0], .iface 60 (.int .i64 k)]) ∧ Ext w w'
theorem res_mrun {w : World} {rb : Nat} {x y : Int} {v u : Value} (h : BlkOf w rb [.int .i64 x, .int .i64 y, v] 117) (tmps : Array Value) (g : tmps.getD 6 undef = .pointer (some ⟨rb, 0, none⟩)) (g2 : tmps.getD 7 undef = u) :
    (results Tryz.f43 tmps).run Tryz.prog w = .ok (.tuple #[.agg #[.int .i64 x, .int .i64 y, v], u]) w := by
  have g' : tmps[6]?.getD undef = .pointer (some ⟨rb, 0, none⟩) := by simpa using g
  have g2' : tmps[7]?.getD undef = u := by simpa using g2
  have k0 : w.cell? ⟨rb, 0, none⟩ = some (.int .i64 x) := h.cell 0
  have k1 : w.cell? ⟨rb, 1, none⟩ = some (.int .i64 y) := h.cell 1
  have k2 : w.cell? ⟨rb, 2, none⟩ = some v := h.cell 2
  clear h
  simp [results, Tryz.results43, go_sem, g', g2', k0, k1, k2]
theorem own_not_iter {H : Type} {w : World} {B e sz n m : Nat} {v : Value} {xs : List Value} {K : TypeId} {R : Value → Option (DataW H × List MemPlace)} {b r cnt : Nat} {D : DataW H} {left : Lit → Bool} (h : w.ownsRow B e sz v n xs) (hr : w.ranges Tryz.prog K R b r m D left cnt) : v.ownBlock ≠ some r := by
  obtain ⟨es, clock, since, seen, c0, _, _, _, _, hi, _⟩ := hr
  rcases h.2 with ⟨rfl, _⟩ | ⟨g, cap, cur, rfl, _, hg, _⟩
  · simp [Value.ownBlock]
  · intro e2
    simp [Value.ownBlock] at e2
    subst e2
    rw [hg] at hi; cases hi
theorem blk_not_iter {H : Type} {w : World} {m b q : Nat} {cs : List Value} {t : TypeId} {K : TypeId} {R : Value → Option (DataW H × List MemPlace)} {r cnt : Nat} {D : DataW H} {left : Lit → Bool} (h : BlkOf w q cs t) (hr : w.ranges Tryz.prog K R b r m D left cnt) : q ≠ r := by
  obtain ⟨es, clock, since, seen, c0, _, _, _, _, hi, _⟩ := hr
  intro e2
  subst e2
  unfold BlkOf at h
  rw [h] at hi; cases hi
theorem ext_of_none {w w' : World} (h : w.grownBy w' none) : Ext w w' := ⟨h.os, h.tape, h.output, h.size, fun i hi => h.block i hi (by simp)⟩
theorem flatP_snoc2 (L : List (Int × Int)) (x y : Int) : flatP (L ++ [(x, y)]) = flatP L ++ #[Value.int .i64 x, Value.int .i64 y].toList := by simp [flatP]
theorem mran_app {H : Type} {w1 W w8 : World} {qb N mb rb c cnt : Nat} {D : DataW H} {left : Lit → Bool} {K : TypeId} {R : Value → Option (DataW H × List MemPlace)} {x y v v8 : Value} {xs ys : List Value} (hqe : w1.heap.size = qb) (hmb : mb < qb) (hq : BlkOf W qb [x, y, v] 117) (ho : W.ownsRow qb 169 2 v N xs) (hx : Ext w1 W) (hr : W.ranges Tryz.prog K R mb rb c D left cnt) (hg : W.grownBy w8 v.ownBlock) (ho8 : w8.ownsRow qb 169 2 v8 (N + 1) ys) :
    BlkOf (w8.setCell ⟨qb, 2, none⟩ v8) qb [x, y, v8] 117 ∧ (w8.setCell ⟨qb, 2, none⟩ v8).ownsRow qb 169 2 v8 (N + 1) ys ∧ Ext w1 (w8.setCell ⟨qb, 2, none⟩ v8) ∧ (w8.setCell ⟨qb, 2, none⟩ v8).ranges Tryz.prog K R mb rb c D left cnt := by
  subst hqe
  have hnb := own_not_blk ho hq (by decide)
  have hq8 := hq.grown hg (fun e => hnb e.symm)
  have hx8 := Ext.own_grown hx ho hg
  have hnb8 := own_not_blk ho8 hq8 (by decide)
  have hne := blk_not_iter hq hr
  refine ⟨hq8.set 2 v8, (Turned.one (c := w1.heap.size) (setCell_grown _ _ _ _)).own ho8 hnb8 hnb8, hx8.below.setCell (Nat.le_refl _) _, ?_⟩
  refine (hr.kept hg (fun e => ?_) (fun e => own_not_iter ho hr e.symm)).kept (setCell_grown w8 w1.heap.size 2 v8) (fun e => by have := Option.some.inj e; omega) (fun e => hne (Option.some.inj e).symm)
  have := (ho.lt mb e.symm).1
  omega
section
variable {w : World} {p g : Int} {fs : List Int} {sz : Int} {lv : Value} {cd : List In4} {lim : Int}
set_option maxRecDepth 100000 in
set_option maxHeartbeats 8000000 in
theorem prun_any {f : Value} (hf : Fld w f p g fs) (hc : Inqs w lv cd) : Calls Tryz.prog 43 #[f, .agg #[.int .i64 sz, lv], .int .i64 lim] w (PRan w (walkM p sz cd lim)) := by
  obtain ⟨ao, cap, rfl⟩ := hc.shape
  have hp2 := hf.two
  obtain ⟨W, hW, hbk, hbr, hx⟩ := two_boxes w [.int .i64 sz, .slice ao cd.length cap] [.int .i64 0, .int .i64 0, .slice none 0 0] 114 117
  have HX0 := Lib.hid hx; have HBK := Lib.hid hbk; have HBR := Lib.hid hbr; have HW := Lib.hid hW
  have HF := Lib.hid (hf.ext hx); have HC := Lib.hid (hc.ext hx)
  clear hf hc hx hbk hbr hW
  go_enter Tryz.func43, Tryz.ntmps43
  go_upto_region 1 with (fail)
  rw [show ((w.alloc (Obj.cells #[.int .i64 sz, .slice ao cd.length cap] 114)).alloc (Obj.cells #[.int .i64 0, .int .i64 0, .slice none 0 0] 117)) = W from HW.out]
  obtain ⟨k2, hk2⟩ : ∃ k, k = w.heap.size + 1 := ⟨_, rfl⟩
  rw [← hk2] at HBR ⊢
  have HK2 := Lib.hid hk2
  generalize hk1 : w.heap.size = k1 at *
  have HK1 := Lib.hid hk1
  clear hk1 hk2 HW
  have e0 : W.cell? ⟨k1, 0, none⟩ = some (.int .i64 sz) := HBK.out.cell 0
  have e1 : W.cell? ⟨k1, 1, none⟩ = some (.slice ao cd.length cap) := HBK.out.cell 1
  go_wp2_with fail
  refine (mbegun_any (sz := sz) (lim := lim) HF.out HC.out).mono ?_
  intro e w1 h1
  clear e0 e1
  cases hR : walkM p sz cd lim with
  | no k =>
    rw [hR] at h1
    obtain ⟨rfl, hx1⟩ := h1
    have HX1 := Lib.hid (HX0.out.trans hx1); have HRR := Lib.hid hR
    have HB1 := Lib.hid (HBR.out.ext hx1)
    clear hx1 hR HX0 HBR HBK
    have c0 : w1.cell? ⟨k2, 0, none⟩ = some (.int .i64 0) := HB1.out.cell 0
    have c1 : w1.cell? ⟨k2, 1, none⟩ = some (.int .i64 0) := HB1.out.cell 1
    have c2 : w1.cell? ⟨k2, 2, none⟩ = some (.slice none 0 0) := HB1.out.cell 2
    have f0 := HB1.out.free 0
    have f1 := HB1.out.free 1
    have f2 := HB1.out.free 2
    go_wp2_with fail
    have hb : w.heap.size ≤ k2 := by have := HK1.out; have := HK2.out; omega
    have hbl := ((HB1.out.set 0 (.int .i64 0)).set 1 (.int .i64 0)).set 2 (.slice none 0 0)
    refine bodyPost_ret (v := .tuple #[.agg #[.int .i64 0, .int .i64 0, .slice none 0 0], .iface 60 (.int .i64 k)]) (res_mrun hbl _ rfl rfl) rfl ?_
    rw [HRR.out]
    exact ⟨rfl, ((HX1.out.below.setCell hb _).setCell hb _).setCell hb _⟩
  | done l out mem =>
    obtain ⟨hen, hl0, hl1⟩ := walkM_ended hp2 hR
    obtain ⟨hms, hbd, huq, -⟩ := hen
    rw [hR] at h1
    obtain ⟨b, mb, cs, sv, nn, rfl, c3, c15, c16, hb, hm, hmb, hl1, hl2, hb1, hb2, ho, hx1⟩ := h1
    have hmm : mem.length ≤ 50000 := by omega
    have HX1 := Lib.hid (HX0.out.trans hx1); have HRR := Lib.hid hR; have HBD := Lib.hid hbd; have HUQ := Lib.hid huq; have HMM := Lib.hid hmm
    have HB1 := Lib.hid (HBR.out.ext hx1)
    have HM := Lib.hid hm
    have hk2 : k2 < w1.heap.size := HB1.out.lt
    have HMB := Lib.hid hb2
    clear hx1 hR HX0 HBR HBK hb hm hmb hms hbd huq ho c15 hl0 hl1 hl2 hmm hb1 hb2
    go_upto_region 5 with (fail)
    obtain ⟨c, D, -, hown, hd⟩ := HM.out
    have HXQ := Lib.hid (Ext.alloc w1 (Obj.cells #[.int .i64 out, .int .i64 ((l.length : Int) - 1), .slice none 0 0] 117))
    have HQ := Lib.hid (BlkOf.new w1 [.int .i64 out, .int .i64 ((l.length : Int) - 1), .slice none 0 0] 117)
    have HOW := Lib.hid (hown.alloc (Obj.cells #[.int .i64 out, .int .i64 ((l.length : Int) - 1), .slice none 0 0] 117))
    have HMQ := Lib.hid hown.lt
    have HCO := Lib.hid (Coll.start hd HUQ.out)
    have HMD := Lib.hid hd
    have k3 := HXQ.out.cell c3
    have HOB := Lib.hid (World.ownsRow_nil w1 w1.heap.size 169 2)
    clear hown hd HM c3 c16
    generalize hn0 : (l.length : Int) - 1 = n0 at *
    have HLN := Lib.hid hn0
    clear hn0
    generalize w1.alloc (Obj.cells #[.int .i64 out, .int .i64 n0, .slice none 0 0] 117) = W2 at *
    generalize hqb : w1.heap.size = qb at *
    have HQE := Lib.hid hqb
    clear hqb
    go_wp2_with (at_range; refine wpList_range_own _ rfl _ 163 rfl 3 3 (int_keyed Tryz.underlying3) Tryz.underlying163 _ mb c D rfl HOW.out ?_; intro w0 hrg0 hg0 hs0)
    go_frame
    have HRG0 := Lib.hid hrg0; have HG0 := Lib.hid hg0
    have hqr : qb < W2.heap.size := HQ.out.lt
    have hkr : k2 < W2.heap.size := by have := HXQ.out.size; have := HQE.out; omega
    clear hrg0 hg0 hs0 k3 HOW
    generalize W2.heap.size = rb at *
    have H2r := Lib.hid hqr; have HKR := Lib.hid hkr
    clear hqr hkr
    have HT0 : Hid (Turned rb rb W2 w0) := Lib.hid (Turned.one (HG0.out.but _))
    go_loopw [12] (fun _ wr => ∃ (L : List (Int × Int)) (left : Lit → Bool) (cnt : Nat) (v : Value), Hid (wr.ranges Tryz.prog 3 (plainElem Tryz.prog 3) mb rb c D left cnt) ∧ Hid (Coll mem L left) ∧ Hid (BlkOf wr qb [.int .i64 out, .int .i64 n0, v] 117) ∧ Hid (wr.ownsRow qb 169 2 v L.length (flatP L)) ∧ Hid (Ext w1 wr)) (fun _ wr => wr.rangeLeft mb rb)
    case atStart => exact ⟨[], _, _, .slice none 0 0, HRG0, HCO, Lib.hid (HQ.out.grown HG0.out (by simp)), Lib.hid (World.ownsRow_nil _ _ _ _), Lib.hid (HXQ.out.trans (ext_of_none HG0.out))⟩
    case round =>
      clear HRG0 HCO HQ HOB HXQ HT0 HG0
      obtain ⟨L, left, cnt, v, HRG, HCO, HQ, HO, HE⟩ := hrel
      obtain ⟨va, vc, rfl⟩ := own_shape HO.out
      have q2 : wr.cell? ⟨qb, 2, none⟩ = some (.slice va L.length vc) := HQ.out.cell 2
      go_wp2_with (at_next; refine wpList_next_ranges_ii _ rfl _ rfl 3 3 .i64 .i64 (int_keyed Tryz.underlying3) Tryz.underlying3 Tryz.underlying3 mb rb c D left cnt rfl HRG.out ?_ ?_)
      · intro _ hl0
        have HCL := Lib.hid hl0
        clear hl0
        have hlen : L.length ≤ 4611686018427387903 := by have := HCO.out.len; have := HMM.out; omega
        have HNB := Lib.hid (own_not_blk HO.out HQ.out (by decide))
        have HB3 := Lib.hid (HB1.out.ext HE.out)
        have HN3 := Lib.hid (own_not_blk HO.out HB3.out (by decide))
        go_wp2_with fail
        refine (sortCell_any HO.out hlen).mono ?_
        rintro e w3 ⟨rfl, hg3, l', hp, hs, hv'⟩
        have HV3 := Lib.hid hv'; have HQ3 := Lib.hid (HQ.out.grown hg3 (fun e => HNB.out e.symm)); have HB4 := Lib.hid (HB3.out.grown hg3 (fun e => HN3.out e.symm))
        have HCE := Lib.hid (HCO.out.cells HCL.out (fun c hc => (HBD.out c hc).1.1) hp hs)
        have HX3 := Lib.hid (HX1.out.trans (Ext.own_grown HE.out (by rw [HQE.out]; exact HO.out) hg3))
        clear hv' hg3 hp hs q2
        have q2 : w3.cell? ⟨qb, 2, none⟩ = some (.slice va L.length vc) := HQ3.out.cell 2
        have f2 := HQ3.out.free 2
        go_upto_region 12 with (go_at_call 85; refine (clipC_any HV3.out).mono ?_; rintro e w4 ⟨rfl, u, rfl, hu, huo⟩; obtain ⟨au, cu, rfl⟩ := prs_shape hu; have HU := Lib.hid hu; have HUO := Lib.hid huo; clear hu huo)
        have hkq : k2 < qb := by have := HB1.out.lt; have := HQE.out; omega
        have hs4 := setCell_grown w3 qb 2 (.slice au l'.length cu)
        have hn1 : ∀ k, (Value.slice au l'.length cu).ownBlock = some k → some k ≠ some qb := fun k hk e => HNB.out (by rw [← HUO.out, hk, e])
        have hn2 : ∀ k, (Value.slice au l'.length cu).ownBlock = some k → some k ≠ some k2 := fun k hk e => HN3.out (by rw [← HUO.out, hk, e])
        have HQ4 := Lib.hid (HQ3.out.set 2 (.slice au l'.length cu))
        have HB5 := Lib.hid (HB4.out.grown hs4 (fun e => by have := Option.some.inj e; omega))
        have HU4 := Lib.hid (Sl.grown HU.out hs4 hn1)
        have hb : w.heap.size ≤ k2 := by have := HK1.out; have := HK2.out; omega
        have HX4 := Lib.hid (HX3.out.below.setCell (show w.heap.size ≤ qb by omega) (.slice au l'.length cu) (p := ⟨qb, 2, none⟩))
        clear q2 f2 hs4 hn1
        revert HQ4 HB5 HU4 HX4
        generalize World.setCell w3 ⟨qb, 2, none⟩ _ = W4
        intro HQ4 HB5 HU4 HX4
        have q0 : W4.cell? ⟨qb, 0, none⟩ = some (.int .i64 out) := HQ4.out.cell 0
        have q1 : W4.cell? ⟨qb, 1, none⟩ = some (.int .i64 n0) := HQ4.out.cell 1
        have q2 : W4.cell? ⟨qb, 2, none⟩ = some (.slice au l'.length cu) := HQ4.out.cell 2
        have c0 : W4.cell? ⟨k2, 0, none⟩ = some (.int .i64 0) := HB5.out.cell 0
        have c1 : W4.cell? ⟨k2, 1, none⟩ = some (.int .i64 0) := HB5.out.cell 1
        have c2 : W4.cell? ⟨k2, 2, none⟩ = some (.slice none 0 0) := HB5.out.cell 2
        have f0 := HB5.out.free 0
        have f1 := HB5.out.free 1
        have f2 := HB5.out.free 2
        clear hkq
        go_wp2_with fail
        have hbl := ((HB5.out.set 0 (.int .i64 out)).set 1 (.int .i64 n0)).set 2 (.slice au l'.length cu)
        have hgr := grown_one (grown_one (setCell_grown W4 k2 0 (.int .i64 out)) (setCell_grown _ k2 1 (.int .i64 n0))) (setCell_grown _ k2 2 (.slice au l'.length cu))
        refine bodyPost_ret (v := .tuple #[.agg #[.int .i64 out, .int .i64 n0, .slice au l'.length cu], .nilIface]) (res_mrun hbl _ rfl rfl) rfl ?_
        rw [HRR.out]
        exact ⟨_, l', by rw [HLN.out], HCE.out, Sl.grown HU4.out hgr hn2, ((HX4.out.setCell hb _).setCell hb _).setCell hb _⟩
      · intro x y w2 cnt1 hwx hwc hlx hat hrg1 hlt hg1 hs1 hen
        have HL := Lib.hid (HMD.out.out hat)
        have HRG1 := Lib.hid hrg1; have HLT := Lib.hid hlt; have HLX := Lib.hid hlx
        have hrb : w1.heap.size ≤ rb := by have := HQE.out; have := H2r.out; omega
        have hne := blk_not_iter HQ.out HRG.out
        have hno := own_not_iter HO.out HRG.out
        have HQ2 := Lib.hid (HQ.out.grown hg1 (fun e => hne (Option.some.inj e)))
        have HO2 := Lib.hid ((Turned.one (c := rb) hg1).own HO.out hno hno)
        have HE2 := Lib.hid ((Turned.one (c := rb) hg1).ext HE.out hrb hrb)
        clear hlx hat hrg1 hlt hg1 hs1 hrb hne hno q2 hwx hwc
        have q2 : w2.cell? ⟨qb, 2, none⟩ = some (.slice va L.length vc) := HQ2.out.cell 2
        by_cases hx0 : x = 0
        · subst hx0
          clear q2
          go_wp2_with fail
          go_roundw
          case rel => exact ⟨L, _, cnt1, _, HRG1, Lib.hid HCO.out.skip, HQ2, HO2, HE2⟩
          case measure => rw [HRG1.out.left_eq, HRG.out.left_eq]; exact HLT.out
        · have hxb : (x != 0) = true := by rw [bne_iff_ne]; exact hx0
          have HCN := Lib.hid (HCO.out.step HUQ.out hx0 HL.out HLX.out)
          have hlen : L.length + 1 ≤ 4294967296 := by have := HCO.out.len; have := HMM.out; omega
          have hbase : qb ≤ w2.heap.size := by have := HE2.out.size; have := HQE.out; omega
          clear hx0
          go_wp2_with (at_builtin; refine wpList_appNw rfl _ _ 115 rfl slCell rfl hbase HO2.out rfl #[.int .i64 x, .int .i64 y] rfl (by intro u hu; simp at hu; rcases hu with rfl | rfl <;> rfl) rfl hlen (by omega) ?_; intro v8 w8 HO8 HG8 HM8; obtain ⟨av, cv8, rfl⟩ := own_shape HO8; have HGx := Lib.hid HG8; have HOx := Lib.hid HO8; have hb8 := HQ2.out.grown HG8 (fun e => own_not_blk HO2.out HQ2.out (by decide) e.symm); have l15 : w8.cell? ⟨qb, 2, none⟩ = some (.slice va L.length vc) := hb8.cell 2; have q15 := hb8.free 2; clear hb8 HG8 HO8 HM8 q2)
          obtain ⟨n1, n2, n3, n4⟩ := mran_app HQE.out (by have := HMQ.out; have := HQE.out; omega) HQ2.out HO2.out HE2.out HRG1.out HGx.out HOx.out
          have HQ9 := Lib.hid n1; have HO9 := Lib.hid n2; have HE9 := Lib.hid n3; have HR9 := Lib.hid n4
          clear n1 n2 n3 n4
          go_roundw
          case rel => exact ⟨L ++ [(x, y)], _, cnt1, _, HR9, HCN, HQ9, Lib.hid (by rw [flatP_snoc2, List.length_append]; exact HO9.out), HE9⟩
          case measure => rw [HR9.out.left_eq, HRG.out.left_eq]; exact HLT.out
end
end Go.Proofs.YtgnomhbbbcfehaaGreatDoor
end
section
namespace Go.Att
open Go.RowKit
def lcode : List In4 := [⟨5, 0, 5, 0⟩, ⟨5, 1, -1, 0⟩, ⟨3, 0, 1, 2⟩, ⟨0, 2, 0, 0⟩]
def rdone : Rw → Option (Nat × Int × List (Int × Int))
  | .done l o m => some (l.length, o, m)
  | .no _ => none
theorem lrun_eq : rdone (walkM 97 3 lcode 3) = some (4, 92, [(0, 0), (1, 5), (2, 96), (3, 92)]) := by decide +kernel
theorem lrun_done : ∃ l mem, walkM 97 3 lcode 3 = .done l 92 mem ∧ l.length = 4 ∧ ∀ L, CellsOf mem L → L.length = 3 := by
  have h := lrun_eq
  generalize walkM 97 3 lcode 3 = r at h
  cases r with
  | no k => cases h
  | done l o m =>
    simp only [rdone, Option.some.injEq, Prod.mk.injEq] at h
    obtain ⟨h1, h2, h3⟩ := h
    subst h2 h3
    refine ⟨l, _, rfl, h1, fun L hL => ?_⟩
    have hc : CellsOf [(0, 0), (1, 5), (2, 96), (3, 92)] [(1, 5), (2, 96), (3, 92)] := ⟨by simp, fun c => by
      simp only [List.mem_cons, List.not_mem_nil, or_false]
      constructor
      · rintro (rfl | rfl | rfl) <;> simp
      · rintro ⟨rfl | rfl | rfl | rfl, h⟩
        · simp at h
        · simp
        · simp
        · simp⟩
    rw [hL.one hc]; rfl
theorem lit_inqs (w : World) (t : TypeId) : Inqs (w.alloc (Obj.cells (flatQ lcode).toArray t)) (.slice (some ⟨w.heap.size, 0, none⟩) 4 4) lcode := by
  refine ⟨_, _, rfl, rfl, Nat.le_refl _, by unfold maxLen; omega, fun i hi => ⟨_, _, rfl, ?_⟩⟩
  have := (BlkOf.new w (flatQ lcode) t).cell i
  rw [Nat.zero_add, this, List.getElem?_eq_getElem hi]
end Go.Att
namespace Go.Proofs.YtgnomhbbbcfehaaGreatDoor
open Go.RowKit Go.Att
theorem okP97 : okP 97 := by
  refine ⟨prime_end (k := 10) (by decide) (by decide) (by decide) (fun d h1 h2 hd => ?_), by decide, by decide⟩
  have h : d = 2 ∨ d = 3 ∨ d = 4 ∨ d = 5 ∨ d = 6 ∨ d = 7 ∨ d = 8 ∨ d = 9 := by omega
  rcases h with rfl | rfl | rfl | rfl | rfl | rfl | rfl | rfl <;> exact absurd hd (by decide)
set_option maxRecDepth 100000 in
set_option maxHeartbeats 4000000 in
theorem lives6_any (w : World) : Calls Tryz.prog 19 #[] w fun e w' => e = .returned (.bool true) ∧ Ext w w' := by
  go_enter Tryz.func19, Tryz.ntmps19
  go_wp2_with (go_at_call 20; refine (plain_ok6 _ _ okP97).mono ?_; rintro e w1 ⟨v, rfl, hx, g, hf⟩; obtain ⟨b, rfl⟩ := hf.ptr)
  obtain ⟨fs, hfl⟩ := hf.fld
  have hxa := Ext.alloc w1 (Obj.cells (flatQ lcode).toArray 111)
  have hxb := Ext.alloc (w1.alloc (Obj.cells (flatQ lcode).toArray 111)) (Obj.cells #[.int .i64 3, .slice (some ⟨w1.heap.size, 0, none⟩) 4 4] 114)
  obtain ⟨l, mem, hr, hl4, hcl⟩ := lrun_done
  have C := prun_any (sz := 3) (lim := 3) (cd := lcode) (hfl.ext (hxa.trans hxb)) ((lit_inqs w1 111).ext hxb)
  rw [hr] at C
  have HX := Lib.hid (hx.trans (hxa.trans hxb))
  clear hf hfl hx hxa hxb hr
  refine C.mono ?_
  rintro e w2 ⟨v, L, rfl, hc, hv, hx2⟩
  have h3 := hcl L hc
  obtain ⟨av, cv, rfl⟩ := prs_shape hv
  have HX2 := Lib.hid (HX.out.trans hx2)
  rw [h3, show (l.length : Int) - 1 = 3 by omega]
  clear C hcl hc hv hx2 HX h3 hl4
  go_wp2_with fail
  go_ret
  exact ⟨rfl, HX2.out.trans (Ext.alloc _ _)⟩
end Go.Proofs.YtgnomhbbbcfehaaGreatDoor
end
