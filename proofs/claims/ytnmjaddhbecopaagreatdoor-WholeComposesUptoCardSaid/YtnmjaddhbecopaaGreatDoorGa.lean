/- Pairs, their numbers, their products: contracts. -/
import Derived.Test.YtnmjaddhbecopaaGreatDoorFc
import Derived.Test.YtnmjaddhbecopaaGreatDoorVc
import Derived.Test.YtnmjaddhbecopaaGreatDoorZx10
import Derived.StillTailTactics
import Derived.Test.YtnmjaddhbecopaaGreatDoorPl
/-! Pairs, their numbers, their products: contracts. -/
namespace Go.Att
/-- What a pair comes to with y. -/
def numb (p y : Int) (c : Int × Int) : Int := (c.1 + c.2 * y) % p
def fprod (p y x : Int) (l : List (Int × Int)) : Int := (prodL (l.map fun c => x - numb p y c)) % p
theorem fprod_nil {p y x : Int} (hp : 2 ≤ p) : fprod p y x [] = 1 := one_mod hp
theorem prodL_append (l m : List Int) : prodL (l ++ m) = prodL l * prodL m := by
  induction l with
  | nil => simp [prodL]
  | cons c l ih => simp only [prodL, List.cons_append, List.foldr_cons] at *; rw [ih, Int.mul_assoc]
theorem fprod_step {p y x : Int} {l : List (Int × Int)} {i : Nat} (h : i < l.length) : fprod p y x (l.take (i + 1)) = fmul p (fprod p y x (l.take i)) (fsub p x (numb p y (nthP l i))) := by
  rw [List.take_succ_eq_append_getElem h, ← nthP_eq h]
  unfold fprod fmul fsub
  rw [List.map_append, prodL_append, Int.mul_emod]
  simp [prodL, Int.mul_emod]
end Go.Att
namespace Go.Proofs.YtnmjaddhbecopaaGreatDoor
open Go.RowKit Go.Att
theorem slCells : SlT Tryz.prog 96 193 2 16 (.agg #[.int .i64 0, .int .i64 0]) := SlT.mk' Tryz.underlying96 (by kernel_rfl) (by decide)

set_option maxHeartbeats 400000 in
theorem number_any (p y : Int) (c : Int × Int) (w : World) (hp : 2 ≤ p) (hp2 : p ≤ 2147483647) :
    Calls Tryz.prog 270 #[.int .i64 p, .agg #[.int .i64 c.1, .int .i64 c.2], .int .i64 y] w fun e w' => e = .returned (.int .i64 (numb p y c)) ∧ Ext w w' := by
  go_enter Tryz.func270, Tryz.ntmps270
  go_wp2_with (first | (go_at_call 57; refine (rmul_any _ _ _ _ hp hp2).mono ?_; rintro e w' ⟨rfl, rfl⟩) | (go_at_call 58; refine (radd_any _ _ _ _ hp hp2).mono ?_; rintro e w' ⟨rfl, rfl⟩))
  go_ret
  refine ⟨ret_int ?_, Ext.alloc _ _⟩
  unfold fadd fmul numb
  rw [Int.add_comm, Int.add_emod_emod]

set_option maxHeartbeats 1000000 in
theorem make_any (p x y : Int) (v : Value) (l : List (Int × Int)) (w : World) (hv : Prs w v l) (hp : 2 ≤ p) (hp2 : p ≤ 2147483647) :
    Calls Tryz.prog 221 #[.int .i64 p, v, .int .i64 x, .int .i64 y] w fun e w' => e = .returned (.int .i64 (fprod p y x l)) ∧ Ext w w' := by
  have hl := hv.run_len (P := Tryz.prog) slCells
  have hlen := hv.len
  have HV := Lib.hid hv; clear hv
  go_enter Tryz.func221, Tryz.ntmps221
  go_wp2
  go_loopw [9, 10] (fun x9 x10 wr => ∃ i : Nat, x9 = .int .i64 (fprod p y x (l.take i)) ∧ x10 = .int .i64 i ∧ i ≤ l.length ∧ Ext w wr) (fun _ x10 _ => l.length - (intOf x10).toNat)
  case atStart => exact ⟨0, by rw [List.take_zero, fprod_nil hp], rfl, Nat.zero_le _, Ext.refl _⟩
  case round =>
    obtain ⟨i, rfl, rfl, hi1, hx⟩ := hrel
    by_cases hlt : i < l.length
    · have hix := HV.out.run_index (P := Tryz.prog) slCells i hlt
      have hc1 := (HV.out.ext hx).fst i hlt
      have hc2 := (HV.out.ext hx).snd i hlt
      have HE := Lib.hid (fprod_step (p := p) (y := y) (x := x) hlt)
      go_wp2_with (first | (go_at_call 270; refine (number_any _ _ _ _ hp hp2).mono ?_; rintro e w1 ⟨rfl, hx1⟩; clear hc1 hc2) | (go_at_call 151; refine (rsub_any _ _ _ _ hp hp2).mono ?_; rintro e w' ⟨rfl, rfl⟩) | (go_at_call 57; refine (rmul_any _ _ _ _ hp hp2).mono ?_; rintro e w' ⟨rfl, rfl⟩))
      go_roundw
      case rel => exact ⟨i + 1, by rw [HE.out], by go_num, by omega, hx.trans hx1⟩
      case measure => simp [intOf]; omega
    · obtain rfl : i = l.length := by omega
      go_wp2_with fail
      go_ret
      exact ⟨ret_int (by rw [List.take_length]), hx⟩
end Go.Proofs.YtnmjaddhbecopaaGreatDoor
/-! Are two products of pairs the same? Contracts of the program's side. -/
namespace Go.Att
theorem fprod_step' {p y x : Int} {l : List (Int × Int)} {i : Nat} (h : i < l.length) :
    fmul p (fprod p y x (l.take i)) (fsub p x (fadd p (nthP l i).1 (fmul p y (nthP l i).2))) = fprod p y x (l.take (i + 1)) := by
  rw [fprod_step h]
  have : fadd p (nthP l i).1 (fmul p y (nthP l i).2) = numb p y (nthP l i) := by
    unfold fadd fmul numb; rw [Int.add_emod_emod, Int.mul_comm]
  rw [this]
end Go.Att
namespace Go.Proofs.YtnmjaddhbecopaaGreatDoor
open Go.RowKit Go.Att

end Go.Proofs.YtnmjaddhbecopaaGreatDoor
/-! The document's sort of pairs: the plain law of an insertion, and the contract. -/
namespace Go.Att
/-- One pair is ahead of another. -/
def ltP (a b : Int × Int) : Prop := a.1 < b.1 ∨ a.1 = b.1 ∧ a.2 < b.2
instance (a b : Int × Int) : Decidable (ltP a b) := by unfold ltP; exact inferInstance
def ltB (a b : Int × Int) : Bool := decide (ltP a b)
theorem ltP_asymm {a b : Int × Int} (h : ltP a b) : ¬ ltP b a := by unfold ltP at *; omega
theorem not_ltP_trans {a b c : Int × Int} (h1 : ¬ ltP b a) (h2 : ¬ ltP c b) : ¬ ltP c a := by unfold ltP at *; omega
theorem ltP_antisymm {a b : Int × Int} (h1 : ¬ ltP b a) (h2 : ¬ ltP a b) : a = b := by
  obtain ⟨a1, a2⟩ := a; obtain ⟨b1, b2⟩ := b
  unfold ltP at *; simp only [Prod.mk.injEq]; simp only at h1 h2; omega
/-- In order, as far as i, but for what is on its way at k. -/
def Ins (l : List (Int × Int)) (k i : Nat) : Prop := ∀ a b, a < b → b ≤ i → b ≠ k → ¬ ltP (nthP l b) (nthP l a)
/-- In order, as far as i (without it). -/
def Ord (l : List (Int × Int)) (i : Nat) : Prop := ∀ a b, a < b → b < i → ¬ ltP (nthP l b) (nthP l a)
theorem Ord.ins {l : List (Int × Int)} {i : Nat} (h : Ord l i) : Ins l i i := fun a b h1 h2 h3 => h a b h1 (by omega)
theorem Ins.zero {l : List (Int × Int)} {i : Nat} (h : Ins l 0 i) : Ord l (i + 1) := fun a b h1 h2 => h a b h1 (by omega) (by omega)
theorem Ins.stop {l : List (Int × Int)} {k i : Nat} (h : Ins l k i) (hk : 0 < k) (hki : k ≤ i) (hn : ¬ ltP (nthP l k) (nthP l (k - 1))) : Ord l (i + 1) := by
  intro a b h1 h2
  by_cases hb : b = k
  · subst hb
    by_cases ha : a = b - 1
    · subst ha; exact hn
    · exact not_ltP_trans (h a (b - 1) (by omega) (by omega) (by omega)) hn
  · exact h a b h1 (by omega) hb
/-- Two neighbours change places. -/
def swapP (l : List (Int × Int)) (k : Nat) : List (Int × Int) := (l.set k (nthP l (k - 1))).set (k - 1) (nthP l k)
theorem swapP_length (l : List (Int × Int)) (k : Nat) : (swapP l k).length = l.length := by simp [swapP]
theorem nthP_set {l : List (Int × Int)} {i j : Nat} {x : Int × Int} (h : i < l.length) : nthP (l.set i x) j = if j = i then x else nthP l j := by
  unfold nthP
  by_cases e : j = i
  · subst e; simp [h]
  · simp [Ne.symm e, e]
theorem nthP_swap {l : List (Int × Int)} {k j : Nat} (h0 : 0 < k) (h : k < l.length) : nthP (swapP l k) j = if j = k - 1 then nthP l k else if j = k then nthP l (k - 1) else nthP l j := by
  unfold swapP
  rw [nthP_set (by simp; omega), nthP_set h]
theorem Ins.step {l : List (Int × Int)} {k i : Nat} (h : Ins l k i) (hk : 0 < k) (hki : k ≤ i) (hl : i < l.length) (hlt : ltP (nthP l k) (nthP l (k - 1))) : Ins (swapP l k) (k - 1) i := by
  intro a b h1 h2 h3
  rw [nthP_swap hk (by omega), nthP_swap hk (by omega)]
  rw [if_neg h3]
  by_cases hb : b = k
  · subst hb
    rw [if_pos rfl]
    by_cases ha : a = b - 1
    · rw [if_pos ha]; exact ltP_asymm hlt
    · rw [if_neg ha, if_neg (by omega)]; exact h a (b - 1) (by omega) (by omega) (by omega)
  · rw [if_neg hb]
    by_cases ha : a = k - 1
    · rw [if_pos ha]
      have := h k b (by omega) h2 hb
      exact this
    · rw [if_neg ha]
      by_cases ha2 : a = k
      · rw [if_pos ha2]; exact h (k - 1) b (by omega) h2 hb
      · rw [if_neg ha2]; exact h a b h1 h2 hb
theorem perm_swap {l : List (Int × Int)} {k : Nat} (h0 : 0 < k) (h : k < l.length) : (swapP l k).Perm l := by
  obtain ⟨k, rfl⟩ : ∃ j, k = j + 1 := ⟨k - 1, by omega⟩
  have e1 : l = l.take k ++ (nthP l k :: nthP l (k + 1) :: l.drop (k + 2)) := by
    conv => lhs; rw [← List.take_append_drop k l, List.drop_eq_getElem_cons (by omega), List.drop_eq_getElem_cons (by omega)]
    rw [nthP_eq (by omega), nthP_eq h]
  have e2 : swapP l (k + 1) = l.take k ++ (nthP l (k + 1) :: nthP l k :: l.drop (k + 2)) := by
    apply List.ext_getElem
    · rw [swapP_length]; conv => lhs; rw [e1]
      simp
    · intro j h1 h2
      rw [swapP_length] at h1
      have := nthP_swap (l := l) (j := j) h0 h
      rw [nthP_eq (by rw [swapP_length]; exact h1)] at this
      rw [this, Nat.add_sub_cancel]
      have hkl : (l.take k).length = k := by simp; omega
      by_cases hlt : j < k
      · rw [List.getElem_append_left (by omega)]
        rw [if_neg (by omega), if_neg (by omega), List.getElem_take, nthP_eq h1]
      · rw [List.getElem_append_right (by omega)]
        simp only [hkl]
        rcases Nat.lt_or_eq_of_le (show k ≤ j by omega) with h3 | rfl
        · rcases Nat.lt_or_eq_of_le (show k + 1 ≤ j by omega) with h4 | rfl
          · obtain ⟨m, rfl⟩ : ∃ m, j = k + 2 + m := ⟨j - (k + 2), by omega⟩
            rw [if_neg (by omega), if_neg (by omega)]
            have : k + 2 + m - k = m + 2 := by omega
            simp only [this, List.getElem_cons_succ, List.getElem_drop]
            rw [nthP_eq h1]
          · rw [if_neg (by omega), if_pos rfl]
            have : k + 1 - k = 1 := by omega
            simp [this]
        · rw [if_pos rfl]; simp
  rw [e2]
  conv => rhs; rw [e1]
  exact List.Perm.append_left _ (List.Perm.swap _ _ _)
theorem flatP_set {l : List (Int × Int)} {i : Nat} (h : i < l.length) (x : Int × Int) : (flatP l).take (i * 2) ++ [.int .i64 x.1, .int .i64 x.2] ++ (flatP l).drop (i * 2 + 2) = flatP (l.set i x) := by
  induction l generalizing i with
  | nil => simp at h
  | cons c l ih =>
    cases i with
    | zero => simp [flatP]
    | succ i =>
      have := ih (i := i) (by simpa using h)
      have e : (i + 1) * 2 = i * 2 + 2 := by omega
      simp only [flatP, List.flatMap_cons, List.cons_append, List.nil_append, e, List.take_succ_cons, List.drop_succ_cons, List.set_cons_succ] at *
      rw [← this]
/-- Two lists in order that are permutations of one another are the same. -/
theorem ord_perm_eq {a b : List (Int × Int)} (hp : a.Perm b) (ha : Ord a a.length) (hb : Ord b b.length) : a = b := by
  have key : ∀ {l : List (Int × Int)}, Ord l l.length → l.Pairwise (fun x y => ¬ ltP y x) := by
    intro l h
    rw [List.pairwise_iff_getElem]
    intro i j hi hj hij
    have := h i j hij hj
    rwa [nthP_eq hj, nthP_eq hi] at this
  exact List.Perm.eq_of_pairwise (fun x y _ _ h1 h2 => ltP_antisymm h1 h2) (key ha) (key hb) hp
end Go.Att
namespace Go.Proofs.YtnmjaddhbecopaaGreatDoor
open Go.RowKit Go.Att

end Go.Proofs.YtnmjaddhbecopaaGreatDoor
/-! The document's sort of pairs, and whether two lists are the same ones: contracts. -/
namespace Go.Att
open Go.RowKit
theorem flatP_one (l : List (Int × Int)) : ∀ u ∈ flatP l, u.oneCell' = true := by
  intro u hu
  simp only [flatP, List.mem_flatMap] at hu
  obtain ⟨c, _, hc⟩ := hu
  simp at hc
  rcases hc with rfl | rfl <;> rfl
theorem Ext.grown {w0 W w' : World} {e sz n : Nat} {v : Value} {xs : List Value} (hx : Ext w0 W) (hown : W.ownsRow w0.heap.size e sz v n xs) (hg : W.grownBy w' v.ownBlock) : Ext w0 w' :=
  Below.grown hx.below hg hx.size (fun k hk => (hown.lt k hk).1)
section
variable {P : Program} {ops : Array Oper} {rest : List Oper} {o : Oper} {a : Act} {Q : Exit → Act → World → Prop}
/-- A pair is stored into an element. -/
theorem wpList_setP {W : World} (hgd : o.guard = none) (hd : o.dst = none) (ad x : Operand) (e : Nat) (ho : o.op = .store e ad x) {t bytes : Nat} {z : Value} (ht : SlT P t e 2 bytes z) {B n : Nat} {v : Value} {l : List (Int × Int)} (hown : W.ownsRow B e 2 v n (flatP l)) (i : Nat) (hi : i < n)
    (ha : a.eval ad = .pointer (some (elt v i 2))) (y : Int × Int) (hx : a.eval x = .agg #[.int .i64 y.1, .int .i64 y.2])
    (h : ∀ w', w'.ownsRow B e 2 v n (flatP (l.set i y)) → W.grownBy w' v.ownBlock → wpList P ops Q rest a w') : wpList P ops Q (o :: rest) a W := by
  refine wpList_set hgd hd ad x e ho ht hown i hi ha _ hx rfl (fun u hu => ?_) (fun w' h1 h2 => h w' ?_ h2)
  · simp [Value.cells] at hu
    rcases hu with rfl | rfl <;> rfl
  · have hl : l.length = n := by have := hown.1; rw [flatP_length] at this; omega
    rw [← flatP_set (by omega)]; exact h1
/-- 'append(s, pair)' onto a slice of the call's own. -/
theorem wpList_appP {W : World} (hgd : o.guard = none) (s x : Operand) (t : TypeId)
    (ho : o.op = .call { callee := .builtin .append, args := #[s, x], argTypes := #[t, t] })
    {e bytes : Nat} {z : Value} (ht : SlT P t e 2 bytes z) (hz : z.cells.size = 2) {w0 : World} (hx0 : Ext w0 W) {v : Value} {n : Nat} {l : List (Int × Int)} (hown : W.ownsRow w0.heap.size e 2 v n (flatP l))
    (hs : a.eval s = v) {c d : Int} (hx : a.eval x = .slice (some ⟨W.heap.size, 0, none⟩) 1 1) (h63 : n + 1 ≤ 4294967296) (hby : bytes ≤ 4096)
    (h : ∀ v' w', w'.ownsRow w0.heap.size e 2 v' (n + 1) (flatP (l ++ [(c, d)])) → Ext w0 w' → W.grownBy w' v.ownBlock → wpList P ops Q rest (a.put o.dst v') w') : wpList P ops Q (o :: rest) a (W.alloc (.cells #[.int .i64 c, .int .i64 d] e)) := by
  refine wpList_appN hgd s x t ho ht hz hx0 hown hs #[.int .i64 c, .int .i64 d] rfl (fun u hu => ?_) hx h63 hby (fun v' w' h1 h2 h3 => h v' w' ?_ h2 h3)
  · simp at hu
    rcases hu with rfl | rfl <;> rfl
  · have e : flatP (l ++ [(c, d)]) = flatP l ++ [.int .i64 c, .int .i64 d] := by simp [flatP]
    rw [e]; exact h1
end
end Go.Att
namespace Go.Proofs.YtnmjaddhbecopaaGreatDoor
open Go.RowKit Go.Att

end Go.Proofs.YtnmjaddhbecopaaGreatDoor
/-! Are two lists of pairs the same ones, each as often? Contract. -/
namespace Go.Att
noncomputable def permB (a b : List (Int × Int)) : Bool := @decide (a.Perm b) (Classical.propDecidable _)
theorem permB_true {a b : List (Int × Int)} (h : a.Perm b) : permB a b = true := @decide_eq_true _ (Classical.propDecidable _) h
theorem permB_false {a b : List (Int × Int)} (h : ¬ a.Perm b) : permB a b = false := @decide_eq_false _ (Classical.propDecidable _) h
theorem eq_of_nthP {a b : List (Int × Int)} (hl : a.length = b.length) (h : ∀ i, i < a.length → nthP a i = nthP b i) : a = b := by
  apply List.ext_getElem hl
  intro i h1 h2
  rw [← nthP_eq h1, ← nthP_eq h2]; exact h i h1
end Go.Att
namespace Go.Proofs.YtnmjaddhbecopaaGreatDoor
open Go.RowKit Go.Att

end Go.Proofs.YtnmjaddhbecopaaGreatDoor
/-! Products tell lists of elements apart: the plain law. -/
namespace Go.Att
def prodAt (us : List Int) (x : Int) : Int := prodL (us.map fun u => x - u)
theorem ev_append (l m : List Int) (x : Int) : ev (l ++ m) x = ev l x + x ^ l.length * ev m x := by
  induction l with
  | nil => simp [ev]
  | cons c l ih => simp only [List.cons_append, ev, List.length_cons, Int.pow_succ, ih]; grind
theorem lin_mul (u : Int) (L : List Int) : ∃ L', L'.length = L.length + 1 ∧ ∀ x, (x - u) * ev (L ++ [1]) x = ev (L' ++ [1]) x := by
  induction L with
  | nil => exact ⟨[-u], rfl, fun x => by simp [ev]; grind⟩
  | cons c L ih =>
    obtain ⟨L', h1, h2⟩ := ih
    cases L' with
    | nil => simp at h1
    | cons d L' =>
      refine ⟨(-u * c) :: (c + d) :: L', by simp at h1 ⊢; omega, fun x => ?_⟩
      have := h2 x
      simp only [List.cons_append, ev] at this ⊢
      grind
theorem monic (us : List Int) : ∃ L, L.length = us.length ∧ ∀ x, prodAt us x = ev (L ++ [1]) x := by
  induction us with
  | nil => exact ⟨[], rfl, fun x => by simp [prodAt, prodL, ev]⟩
  | cons u us ih =>
    obtain ⟨L, h1, h2⟩ := ih
    obtain ⟨L', h3, h4⟩ := lin_mul u L
    refine ⟨L', by simp [h3, h1], fun x => ?_⟩
    rw [← h4, ← h2]
    simp [prodAt, prodL]
theorem ev_sub (A B : List Int) (h : A.length = B.length) (x : Int) : ev (List.zipWith (· - ·) A B) x = ev A x - ev B x := by
  induction A generalizing B with
  | nil => cases B <;> simp_all [ev]
  | cons a A ih =>
    cases B with
    | nil => simp at h
    | cons b B => simp only [List.zipWith_cons_cons, ev, ih B (by simpa using h)]; grind
theorem ev_dvd {p : Int} (l : List Int) (h : ∀ c ∈ l, p ∣ c) (x : Int) : p ∣ ev l x := by
  induction l with
  | nil => exact Int.dvd_zero _
  | cons c l ih => exact Int.dvd_add (h c (by simp)) (Int.dvd_mul_of_dvd_right (ih (fun d hd => h d (by simp [hd]))))
/-- What two products agree on at as many points as they have factors, they agree on everywhere. -/
theorem agree_all {p : Int} (hp : Pr p) (us vs xs : List Int) (h : us.length = vs.length) (hx : xs.Pairwise fun a b => ¬ p ∣ a - b) (hn : us.length ≤ xs.length)
    (he : ∀ x ∈ xs, p ∣ prodAt us x - prodAt vs x) (x : Int) : p ∣ prodAt us x - prodAt vs x := by
  obtain ⟨L, h1, h2⟩ := monic us
  obtain ⟨M, h3, h4⟩ := monic vs
  have hD : ∀ x, ev (List.zipWith (· - ·) L M) x = prodAt us x - prodAt vs x := by
    intro x
    rw [ev_sub L M (by omega), h2, h4, ev_append, ev_append, h1, h3, h]
    simp [ev]; omega
  rw [← hD]
  refine ev_dvd _ (fun c hc => Classical.byContradiction fun hn' => ?_) x
  have := roots hp _ ⟨c, hc, hn'⟩ xs hx (fun x hxm => by rw [hD]; exact he x hxm)
  simp at this; omega
theorem prodAt_perm {us vs : List Int} (h : us.Perm vs) (x : Int) : prodAt us x = prodAt vs x := prodL_perm (h.map _)
theorem dvd_prodL {p : Int} (hp : Pr p) (l : List Int) (h : p ∣ prodL l) : ∃ c ∈ l, p ∣ c := by
  induction l with
  | nil => simp only [prodL, List.foldr_nil] at h; have := Int.le_of_dvd (by decide) h; have := hp.two; omega
  | cons c l ih =>
    simp only [prodL, List.foldr_cons] at h
    rcases hp.euclid h with h1 | h1
    · exact ⟨c, by simp, h1⟩
    · obtain ⟨d, h2, h3⟩ := ih h1; exact ⟨d, by simp [h2], h3⟩
theorem dvd_sub_comm {p a b : Int} (h : p ∣ a - b) : p ∣ b - a := by
  have := Int.dvd_neg.2 h; rwa [Int.neg_sub] at this
theorem filter_apart (p u : Int) (xs : List Int) (hx : xs.Pairwise fun a b => ¬ p ∣ a - b) : xs.length ≤ (xs.filter fun x => decide (¬ p ∣ x - u)).length + 1 := by
  induction xs with
  | nil => simp
  | cons a xs ih =>
    obtain ⟨h1, h2⟩ := List.pairwise_cons.1 hx
    by_cases ha : p ∣ a - u
    · have : xs.filter (fun x => decide (¬ p ∣ x - u)) = xs := by
        rw [List.filter_eq_self]
        intro x hx
        simp only [decide_eq_true_eq]
        intro hd
        apply h1 x hx
        have := Int.dvd_sub ha hd
        have e : a - u - (x - u) = a - x := by omega
        rwa [e] at this
      rw [List.filter_cons_of_neg (by simpa using ha), this]; simp
    · rw [List.filter_cons_of_pos (by simpa using ha)]
      have := ih h2
      simp only [List.length_cons]; omega
theorem same_of_products {p : Int} (hp : Pr p) (us vs xs : List Int) (h : us.length = vs.length) (hx : xs.Pairwise fun a b => ¬ p ∣ a - b) (hn : us.length ≤ xs.length)
    (he : ∀ x ∈ xs, p ∣ prodAt us x - prodAt vs x) : (us.map (· % p)).Perm (vs.map (· % p)) := by
  induction us generalizing vs xs with
  | nil =>
    have : vs = [] := List.eq_nil_of_length_eq_zero (by simpa using h.symm)
    subst this; exact List.Perm.refl _
  | cons u us ih =>
    have hall := agree_all hp (u :: us) vs xs h hx hn he
    have h0 : p ∣ prodAt vs u := by
      have h1 := hall u
      have : prodAt (u :: us) u = 0 := by simp [prodAt, prodL]
      rw [this, Int.zero_sub] at h1
      exact Int.dvd_neg.1 h1
    obtain ⟨c, hc, hd⟩ := dvd_prodL hp _ h0
    obtain ⟨v, hv, rfl⟩ := List.mem_map.1 hc
    have hperm := List.perm_cons_erase hv
    have hlen : us.length = (vs.erase v).length := by rw [List.length_erase_of_mem hv, ← h]; simp
    have key := ih (vs.erase v) (xs.filter fun x => decide (¬ p ∣ x - u)) hlen (hx.filter _) (by have := filter_apart p u xs hx; simp at hn; omega) (fun x hxm => by
      have hxu : ¬ p ∣ x - u := by simpa using (List.mem_filter.1 hxm).2
      have h1 := hall x
      rw [prodAt_perm hperm] at h1
      simp only [prodAt, List.map_cons, prodL, List.foldr_cons] at h1
      have h2 : p ∣ (x - u) * (prodAt us x - prodAt (vs.erase v) x) := by
        have e : (x - u) * (prodAt us x - prodAt (vs.erase v) x) = ((x - u) * prodAt us x - (x - v) * prodAt (vs.erase v) x) + (u - v) * prodAt (vs.erase v) x := by grind
        rw [e]
        exact Int.dvd_add h1 (Int.dvd_mul_of_dvd_left hd)
      exact (hp.euclid h2).resolve_left hxu)
    have e : u % p = v % p := mod_eq_of_dvd_sub hd
    refine List.Perm.trans ?_ (hperm.map (· % p)).symm
    simp only [List.map_cons, e]
    exact List.Perm.cons _ key
end Go.Att
