/- A region that draws its order, whose first n operations leave all that was as it was, some of them behind a guard. No program in sight. Two openings that show all rows of a tree with one root, plain: going down where the lists are the same ends where two unlike lists have one digest; where no leaf differs, both pledges say one number. No program in sight. -/
import Derived.Test.YtcpnidomdkaefaaGreatDoorZx20
import Derived.Test.YtcpnidomdkaefaaGreatDoorZx21
import Derived.Test.YtcpnidomdkaefaaGreatDoorZx18
import Derived.Test.YtcpnidomdkaefaaGreatDoorZx19
import Derived.Test.YtcpnidomdkaefaaGreatDoorZx10
section
namespace Go.Att
open Go.RowKit
section
variable {P : Program} {l : List Oper} {n : Nat}
/-- No two of the first n operations have one slot. -/
def apartG (l : List Oper) (n : Nat) : Bool := (List.range n).all fun i => match l[i]? with
  | none => false
  | some o => (List.range n).all fun j => i == j || o.dst.isNone || ((l[j]?).bind (·.dst)) != o.dst
theorem extg_all {φ : List SP} {Q' : Exit → Act → World → Prop} {g : Nat} {w : World} {a0 : Act} (hok : headOk l n = true) (hap : apartG l n = true) (hsz : (dstL l n).all (fun d => decide (d < a0.tmps.size)) = true) (hs : waitB l 0 n = true) (hc : Region.chainB .any l.toArray n = true) (hn : n < l.length)
    (hst : ∀ i, i < n → ExtStep P l n φ Q' w a0 i) (hnd : ∀ i, i < n → ∀ j, j < n → hasDep l i j = true → ((l[j]?).bind (·.dst)).isSome = true) (hdl : ∀ i, i < n → ∀ j, hasDep l i j = true → j < n)
    (hL : ∀ big vs W, Ext w W → DoneE l n φ big vs W → HeadInv .any l.toArray n big → (∀ j, j < n → big[j]? = some true) → wpAny P .any l.toArray Q' g big (fillA (dstL l n) vs a0) W) :
    ∀ (f : Nat) (big small : Array Bool) (vs : Nat → Value) (W : World), Ext w W → Marks l n big small → small.toList.count false = f → DoneE l n φ big vs W → wpAny P .any l.toArray Q' (f + g) big (fillA (dstL l n) vs a0) W
  | 0, big, small, vs, W, hx, hm, hcnt, hd => by
    rw [Nat.zero_add]
    refine hL big vs W hx hd hm.inv fun j hj => ?_
    have hjs : j < small.size := by rw [hm.size]; exact hj
    rw [hm.same j hj, Array.getElem?_eq_getElem hjs]
    cases hb : small[j] with
    | true => rfl
    | false =>
      have : false ∈ small.toList := by rw [← hb]; exact Array.mem_toList_iff.2 (Array.getElem_mem hjs)
      have := List.count_pos_iff.2 this
      omega
  | f + 1, big, small, vs, W, hx, hm, hcnt, hd => by
    rw [show f + 1 + g = (f + g) + 1 by omega]
    have hne : ∃ i, i < n ∧ small[i]? = some false := by
      have : false ∈ small.toList := List.count_pos_iff.1 (by omega)
      obtain ⟨i, hi, e⟩ := List.getElem_of_mem this
      exact ⟨i, by simpa [hm.size] using hi, by rw [← Array.getElem?_toList, List.getElem?_eq_getElem hi, e]⟩
    obtain ⟨i0, hi0, hu0⟩ := hne
    refine ⟨fun h0 => absurd h0 (ready_some hok (by omega) hm hi0 hu0), fun i hi => ?_⟩
    have hin : i < n := by
      rcases Nat.lt_or_ge i n with h1 | h1
      · exact h1
      · exact absurd hi (not_yet hs hc hn hm.inv i0 (Nat.zero_le _) hi0 (by rw [hm.same _ hi0, hu0]) i h1)
    obtain ⟨hun0, o, ho0, hall⟩ := mem_ready.1 hi
    have ho : l[i]? = some o := by simpa using ho0
    have hrd := hm.getD hin true
    have his : i < small.size := by rw [hm.size]; exact hin
    have hf : small[i] = false := by
      have := hm.same i hin
      rw [Array.getElem?_eq_getElem his] at this
      rw [Array.getD_eq_getD_getElem?, this] at hun0
      exact hun0
    have h1 := hst i hin
    unfold ExtStep at h1
    simp only [ho] at h1
    have h2 := h1 vs W hx (fun j hj => by
      have hjn := hdl i hin j hj
      have hsm := hnd i hin j hjn hj
      have hbj : big.getD j false = true := by
        unfold hasDep at hj
        simp only [ho] at hj
        obtain ⟨q, hq, h3⟩ := Array.any_eq_true.1 hj
        simp only [Bool.and_eq_true, beq_iff_eq] at h3
        have := hall o.after[q] (Array.getElem_mem hq) h3.1
        rwa [h3.2] at this
      obtain ⟨d, hdd⟩ := Option.isSome_iff_exists.1 hsm
      have := hd j hjn hbj d hdd
      have e2 : dstN l j = d := by unfold dstN; rw [hdd]; rfl
      rw [e2]; exact this)
    simp only [wpList] at h2
    unfold wpOp
    simp only [ho0]
    have hcnt' : ∀ (h : i < small.toList.length), (small.setIfInBounds i true).toList.count false = f := fun _ => by
      rw [Array.toList_setIfInBounds, List.count_set (by simpa using his)]
      have : small.toList[i]'(by simpa using his) = false := by rw [Array.getElem_toList]; exact hf
      simp [this, hcnt]
    have hstep : ∀ a' W', ((∃ v, a' = (fillA (dstL l n) vs a0).put o.dst v) ∧ Ext W W' ∧ (φ.getD i SP.top).p (slotV a' o.dst) W') → wpAny P .any l.toArray Q' (f + g) (big.setIfInBounds i true) a' W' := by
      rintro a' W' ⟨⟨v, rfl⟩, hxx, hph⟩
      have hm' := hm.set hi hin
      cases hdst : o.dst with
      | none =>
        have e : (fillA (dstL l n) vs a0).put none v = fillA (dstL l n) vs a0 := rfl
        rw [e]
        refine extg_all hok hap hsz hs hc hn hst hnd hdl hL f _ _ vs W' (hx.trans hxx) hm' (hcnt' (by simpa using his)) fun j hj hb d hd' => ?_
        refine (φ.getD j SP.top).st _ _ _ (hd j hj ?_ d hd') hxx
        by_cases e : i = j
        · subst e; rw [ho] at hd'; simp [hdst] at hd'
        · rw [getD_set_ne false e] at hb; exact hb
      | some d0 =>
        have hin0 := mem_dstL hin ho hdst
        rw [hdst] at hph
        rw [fillA_put _ _ _ hin0] at hph ⊢
        refine extg_all hok hap hsz hs hc hn hst hnd hdl hL f _ _ _ W' (hx.trans hxx) hm' (hcnt' (by simpa using his)) fun j hj hb d hd' => ?_
        by_cases e : i = j
        · subst e
          rw [ho] at hd'
          have : d0 = d := by simpa [hdst] using hd'
          subst this
          have hsl : slotV (fillA (dstL l n) (upV vs d0 v) a0) (some d0) = upV vs d0 v d0 := slot_fill _ _ _ hin0 (by
            have := List.all_eq_true.1 hsz d0 (List.contains_iff_mem.1 hin0)
            simpa using this)
          rw [hsl] at hph
          exact hph
        · rw [getD_set_ne false e] at hb
          have hne2 : d ≠ d0 := fun h => by
            subst h
            have h4 := List.all_eq_true.1 hap i (List.mem_range.2 hin)
            simp only [ho] at h4
            have h5 := List.all_eq_true.1 h4 j (List.mem_range.2 hj)
            rw [hd', hdst] at h5
            simp [e] at h5
          have : upV vs d0 v d = vs d := by unfold upV; rw [if_neg hne2]
          rw [this]
          exact (φ.getD j SP.top).st _ _ _ (hd j hj hb d hd') hxx
    by_cases hwt : Region.wanted o (yielded l.toArray (fillA (dstL l n) vs a0).tmps) = true
    · rw [if_pos hwt] at h2 ⊢
      rcases h2 with h2 | ⟨h2, a9, w9, h3⟩
      · refine .inl (Oper.wp_mono hstep (wp_put ?_))
        exact wp_unthen (fun a' W' h => h) h2
      · exact .inr ⟨h2, a9, w9, h3⟩
    · rw [if_neg hwt] at h2 ⊢
      exact hstep _ _ ⟨⟨_, rfl⟩, h2.2⟩
/-- The rule. -/
theorem wp_region_extg {id : Nat} {Q : Exit → Act → World → Prop} {a : Act} {w : World} (n : Nat) (φ : List SP) (hm : P.follows .mixedOrders = true)
    (hB : (headOk l n && apartG l n && decide (n < l.length) && waitB l 0 n && Region.chainB .any l.toArray n && Region.seqB .any l.toArray (l.length - n) n (Array.replicate n true ++ Array.replicate (l.length - n) false)
      && (List.range n).all (fun i => (List.range l.length).all fun j => !hasDep l i j || (decide (j < n) && ((l[j]?).bind (·.dst)).isSome))) = true)
    (hsz : (dstL l n).all (fun d => decide (d < a.tmps.size)) = true)
    (hst : ExtSteps P l n φ Q w a n 0)
    (h : ∀ (vs : Nat → Value) (W : World), Ext w W → AllE l φ vs W n → wpList P l.toArray Q (l.drop n) (fillA (dstL l n) vs a) W) : (Code.region id l.toArray true).wp P Q a w := by
  simp only [Bool.and_eq_true, decide_eq_true_eq] at hB
  obtain ⟨⟨⟨⟨⟨⟨hok, hap⟩, hn⟩, hs⟩, hc⟩, hseq⟩, hdp⟩ := hB
  have hdep : ∀ i, i < n → ∀ j, hasDep l i j = true → j < n ∧ ((l[j]?).bind (·.dst)).isSome = true := fun i hi j hj => by
    have h1 := List.all_eq_true.1 hdp i (List.mem_range.2 hi)
    have hjl : j < l.length := by
      have h2 := hj
      unfold hasDep at h2
      have hil : i < l.length := by omega
      rw [List.getElem?_eq_getElem hil] at h2
      simp only at h2
      obtain ⟨q, hq, h3⟩ := Array.any_eq_true.1 h2
      simp only [Bool.and_eq_true, beq_iff_eq] at h3
      have := (headOk_spec hok hi (List.getElem?_eq_getElem hil)).2 _ (Array.getElem_mem hq) h3.1
      omega
    have h2 := List.all_eq_true.1 h1 j (List.mem_range.2 hjl)
    rw [hj] at h2
    simpa using h2
  have inv0 : HeadInv .any l.toArray n (Array.replicate l.toArray.size false) :=
    ⟨by simp, fun j oj _ hl => (by rw [getD_replicate_false] at hl; cases hl), fun t _ ht => getD_in (by simpa using ht) (getD_replicate_false _ _)⟩
  refine wp_region_any hm ?_
  have H := extg_all (P := P) (φ := φ) (Q' := Q) (g := l.length - n) (w := w) (a0 := a) hok hap hsz hs hc hn (fun i hi => hst.at i (Nat.zero_le _) (by omega)) (fun i hi j hj hd => (hdep i hi j hd).2) (fun i hi j hd => (hdep i hi j hd).1) (fun big vs W hx hd hinv hall => by
    have e : big = Array.replicate n true ++ Array.replicate (l.length - n) false := by
      refine Array.ext_getElem? fun j => ?_
      rcases Nat.lt_or_ge j n with hj | hj
      · rw [hall j hj, Array.getElem?_append_left (by simpa using hj)]; simp [hj]
      · rw [Array.getElem?_append_right (by simpa using hj)]
        have hsz := hinv.size
        rcases Nat.lt_or_ge j l.length with hj2 | hj2
        · have := hinv.tail j hj (by simpa using hj2)
          have hjs : j < big.size := by rw [hsz]; simpa using hj2
          rw [Array.getD_eq_getD_getElem?, Array.getElem?_eq_getElem hjs] at this
          rw [Array.getElem?_eq_getElem hjs]
          simp at this
          rw [this, Array.size_replicate, Array.getElem?_replicate, if_pos (by omega)]
        · rw [Array.getElem?_eq_none (by rw [hsz]; simpa using hj2), Array.getElem?_eq_none (by simp; omega)]
    have hall' : AllE l φ vs W n := allE_of n fun j hj d hd' => hd j hj (by rw [Array.getD_eq_getD_getElem?, hall j hj]; rfl) d hd'
    subst e
    have := wpAny_of_seq (md := .any) (P := P) (ops := l.toArray) (Q' := Q) (l.drop n) n _ _ W (fun j => by simp [List.getElem?_drop]) (by rw [List.length_drop]; exact hseq) (h vs W hx hall')
    rwa [List.length_drop] at this) n (Array.replicate l.toArray.size false) (Array.replicate n false) (fun d => a.tmps.getD d undef) { w with drawn := w.drawn + 1 } (Ext.drewN w 1) ⟨inv0, by simp, fun j hj => by
      rw [Array.getElem?_replicate, Array.getElem?_replicate, if_pos hj, if_pos (by simp; omega)]⟩ (by simp) (fun j _ hb => by rw [getD_replicate_false] at hb; cases hb)
  rw [show n + (l.length - n) = l.toArray.size by simp; omega, fillA_self] at H
  exact H
end
end Go.Att
end
section
namespace Go.Att
open Go.RowKit
theorem full_at {pl : List Int} {n : Nat} (h : ascB pl n = true) (hl : pl.length = n) {i : Nat} (hi : i < n) : nth pl i = i := by
  have ha := ascB_asc h
  have lo : ∀ i, i < n → (i : Int) ≤ nth pl i := by
    intro i
    induction i with
    | zero => intro hi; exact (ascB_in h (nth_mem (by omega))).1
    | succ i ih => intro hi; have := ih (by omega); have := ha.at (show i < i + 1 by omega) (by omega); omega
  have hi' : ∀ d i, i + d + 1 = n → nth pl i ≤ i := by
    intro d
    induction d with
    | zero => intro i e; have := (ascB_in h (nth_mem (show i < pl.length by omega))).2; omega
    | succ d ih => intro i e; have := ih (i + 1) (by omega); have := ha.at (show i < i + 1 by omega) (by omega); omega
  have := lo i hi
  have := hi' (n - i - 1) i (by omega)
  omega
theorem full_row {pl : List Int} {rows : List (List Int)} {n : Nat} (h : ascB pl n = true) (hl : pl.length = n) {i : Nat} (hi : i < n) : rowOf pl rows i = nthL rows i := by
  unfold rowOf
  have hc : pl.countP (· < (i : Int)) = i := by
    have hs := (ascB_asc h).le
    have hle : pl.countP (· < (i : Int)) ≤ pl.length := List.countP_le_length
    rcases Nat.lt_trichotomy (pl.countP (· < (i : Int))) i with h1 | h1 | h1
    · have := (count_below hs (i : Int) (pl.countP (· < (i : Int))) (by omega)).2 (by rw [full_at h hl (by omega)]; omega)
      omega
    · exact h1
    · have := (count_below hs (i : Int) i (by omega)).1 h1
      rw [full_at h hl hi] at this
      omega
  rw [hc]
theorem full_sho {pl : List Int} {n : Nat} (h : ascB pl n = true) (hl : pl.length = n) {a m : Nat} (h1 : 1 ≤ m) (h2 : a + m ≤ n) : sho pl a ((a : Int) + m) = true := by
  rw [sho_iff]
  exact ⟨nth pl a, nth_mem (by omega), by rw [full_at h hl (by omega)]; omega, by rw [full_at h hl (by omega)]; omega⟩
theorem map_fof_twice (p : Int) (l : List Int) : (l.map (fof p)).map (fof p) = l.map (fof p) := by
  rw [List.map_map]
  exact List.map_congr_left fun x _ => fofI_idem p x
section
variable {p : Int} {k : Nat} {pl : List Int} {rows : List (List Int)} {D L : Int → Int → Option (List Int)} {N : Nat} (hp : 2 ≤ p) (hf : ascB pl N = true) (hl : pl.length = N)
include hf hl
/-- What stands at each leaf. -/
theorem Wkd.leaf : ∀ {f a n : Nat} {nodes : List (List Int)}, 1 ≤ n → a + n ≤ N → Wkd p k pl rows D L f a n nodes → ∀ i, a ≤ i → i < a + n → L i ((i : Int) + 1) = some (0 :: (nthL rows i).map (fof p))
  | 0, _, _, _, _, _, h, _, _, _ => h.elim
  | f + 1, a, n, nodes, h1, h2, h, i, i1, i2 => by
    simp only [Wkd] at h
    rw [if_pos (full_sho hf hl h1 h2)] at h
    by_cases hn : n = 1
    · rw [if_pos hn] at h
      subst hn
      obtain rfl : i = a := by omega
      rw [← full_row (rows := rows) hf hl (show i < N by omega)]
      exact h.2
    · rw [if_neg hn] at h
      have hb := lfN_bd (show 2 ≤ n by omega)
      obtain ⟨x, r, y, s, -, -, w1, w2, -, -⟩ := h
      by_cases hi : i < a + lfN n
      · exact Wkd.leaf (by omega) (by omega) w1 i i1 hi
      · exact Wkd.leaf (by omega) (by omega) w2 i (by omega) (by omega)
include hp in
/-- What stands at any group: a list of elements, and its digest. -/
theorem Wkd.both {f a n : Nat} {nodes : List (List Int)} (h1 : 1 ≤ n) (h2 : a + n ≤ N) (h : Wkd p k pl rows D L f a n nodes) : ∃ l, L a ((a : Int) + n) = some l ∧ D a ((a : Int) + n) = some (hashP p k l) ∧ l.map (fof p) = l ∧
    ((n = 1 ∧ l = 0 :: (nthL rows a).map (fof p)) ∨ (n ≠ 1 ∧ l.length = 9)) := by
  have z0 : fof p 0 = 0 := Int.zero_emod _
  have z1 : fof p 1 = 1 := Int.emod_eq_of_lt (by decide) (by omega)
  cases f with
  | zero => exact h.elim
  | succ f =>
    simp only [Wkd] at h
    rw [if_pos (full_sho hf hl h1 h2)] at h
    by_cases hn : n = 1
    · rw [if_pos hn] at h
      rw [full_row (rows := rows) hf hl (show a < N by omega)] at h
      refine ⟨_, h.2, by rw [h.1, hashP_cons_map], ?_, .inl ⟨hn, rfl⟩⟩
      rw [List.map_cons, map_fof_twice, z0]
    · rw [if_neg hn] at h
      have hb := lfN_bd (show 2 ≤ n by omega)
      obtain ⟨x, r, y, s, c1, c2, w1, w2, d1, d2⟩ := h
      have fx : ∀ {f a n : Nat} {nodes : List (List Int)} {x : List Int} {r : List (List Int)}, clbF p k pl rows f a n nodes = some (x, r) → x.map (fof p) = x := by
        intro f a n nodes x r h
        cases f with
        | zero => simp [clbF] at h
        | succ f =>
          simp only [clbF] at h
          split at h
          · split at h
            · obtain ⟨rfl, rfl⟩ := Prod.mk.inj (Option.some.inj h); exact hashP_fof hp _ _
            · split at h
              · cases h
              · split at h
                · cases h
                · obtain ⟨rfl, rfl⟩ := Prod.mk.inj (Option.some.inj h); exact hashP_fof hp _ _
          · split at h
            · cases h
            · split at h
              · obtain ⟨rfl, rfl⟩ := Prod.mk.inj (Option.some.inj h); exact map_fof_twice p _
              · cases h
      refine ⟨_, d2, d1, by rw [List.map_cons, List.map_append, fx c1, fx c2, z1], .inr ⟨hn, ?_⟩⟩
      rw [List.length_cons, List.length_append, clbF_len c1, clbF_len c2]
end
/-- Two ways at one group whose digests are the same there. -/
def TwoAt (p : Int) (k : Nat) (pl : List Int) (rows rows' : List (List Int)) (D L D' L' : Int → Int → Option (List Int)) (f a m : Nat) : Prop :=
  ∃ nodes nodes', Wkd p k pl rows D L f a m nodes ∧ Wkd p k pl rows' D' L' f a m nodes' ∧ D a ((a : Int) + m) = D' a ((a : Int) + m)
section
variable {p : Int} {k : Nat} {pl : List Int} {rows rows' : List (List Int)} {D L D' L' : Int → Int → Option (List Int)} {N : Nat} (hp : 2 ≤ p) (hf : ascB pl N = true) (hl : pl.length = N)
include hp hf hl
theorem TwoAt.at {f a m : Nat} (h : TwoAt p k pl rows rows' D L D' L' f a m) (h1 : 1 ≤ m) (h2 : a + m ≤ N) : ∃ l l' d, L a ((a : Int) + m) = some l ∧ L' a ((a : Int) + m) = some l' ∧ D a ((a : Int) + m) = some d ∧ D' a ((a : Int) + m) = some d ∧ hashP p k l = d ∧ hashP p k l' = d ∧
    l.map (fof p) = l ∧ l'.map (fof p) = l' ∧ (m = 1 → l = 0 :: (nthL rows a).map (fof p) ∧ l' = 0 :: (nthL rows' a).map (fof p)) ∧ (m ≠ 1 → l.length = 9 ∧ l'.length = 9) := by
  obtain ⟨nodes, nodes', w1, w2, e⟩ := h
  obtain ⟨l, a1, a2, a3, a4⟩ := w1.both hp hf hl h1 h2
  obtain ⟨l', b1, b2, b3, b4⟩ := w2.both hp hf hl h1 h2
  have e2 : hashP p k l = hashP p k l' := by rw [a2, b2] at e; exact Option.some.inj e
  refine ⟨l, l', _, a1, b1, a2, by rw [b2, e2], rfl, e2.symm, a3, b3, fun hm => ?_, fun hm => ?_⟩
  · rcases a4 with ⟨-, a4⟩ | ⟨q, -⟩
    · rcases b4 with ⟨-, b4⟩ | ⟨q, -⟩
      · exact ⟨a4, b4⟩
      · exact absurd hm q
    · exact absurd hm q
  · rcases a4 with ⟨q, -⟩ | ⟨-, a4⟩
    · exact absurd q hm
    · rcases b4 with ⟨q, -⟩ | ⟨-, b4⟩
      · exact absurd q hm
      · exact ⟨a4, b4⟩
omit hp in
/-- Where the lists are the same, so are the digests below. -/
theorem TwoAt.down {f a m : Nat} (h : TwoAt p k pl rows rows' D L D' L' (f + 1) a m) (h1 : 2 ≤ m) (h2 : a + m ≤ N) (he : L a ((a : Int) + m) = L' a ((a : Int) + m)) :
    TwoAt p k pl rows rows' D L D' L' f a (lfN m) ∧ TwoAt p k pl rows rows' D L D' L' f (a + lfN m) (m - lfN m) := by
  obtain ⟨nodes, nodes', w1, w2, -⟩ := h
  simp only [Wkd] at w1 w2
  rw [if_pos (full_sho hf hl (by omega) h2), if_neg (by omega)] at w1 w2
  obtain ⟨x, r, y, s, c1, c2, u1, u2, -, d2⟩ := w1
  obtain ⟨x', r', y', s', c1', c2', u1', u2', -, d2'⟩ := w2
  rw [d2, d2'] at he
  have e1 := (List.cons.inj (Option.some.inj he)).2
  have l1 := clbF_len c1
  have l1' := clbF_len c1'
  obtain ⟨ex, ey⟩ := List.append_inj e1 (by rw [l1, l1'])
  obtain ⟨g1, q1, k1, m1⟩ := u1.dig
  obtain ⟨g2, q2, k2, m2⟩ := u2.dig
  obtain ⟨g3, q3, k3, m3⟩ := u1'.dig
  obtain ⟨g4, q4, k4, m4⟩ := u2'.dig
  rw [c1] at k1
  rw [c2] at k2
  rw [c1'] at k3
  rw [c2'] at k4
  obtain ⟨rfl, -⟩ := Prod.mk.inj (Option.some.inj k1)
  obtain ⟨rfl, -⟩ := Prod.mk.inj (Option.some.inj k2)
  obtain ⟨rfl, -⟩ := Prod.mk.inj (Option.some.inj k3)
  obtain ⟨rfl, -⟩ := Prod.mk.inj (Option.some.inj k4)
  exact ⟨⟨_, _, u1, u1', by rw [m1, m3, ex]⟩, ⟨_, _, u2, u2', by rw [m2, m4, ey]⟩⟩
end
theorem ev_zipSub (A B : List Int) (h : A.length = B.length) (x : Int) : ev (List.zipWith (· - ·) A B) x = ev A x - ev B x := by
  induction A generalizing B with
  | nil => cases B <;> simp_all [ev]
  | cons a A ih =>
    cases B with
    | nil => simp at h
    | cons b B => simp only [List.zipWith_cons_cons, ev, ih B (by simpa using h)]; grind
theorem dtU_mod (p : Int) {g h : Nat → Int} {l m : List Int} : ∀ i, (∀ j, j < i → g j % p = h j % p) → (∀ j, j < i → nth l j % p = nth m j % p) → dtU p g l i = dtU p h m i
  | 0, _, _ => rfl
  | i + 1, h1, h2 => by
    rw [dtU, dtU, dtU_mod p i (fun j hj => h1 j (by omega)) (fun j hj => h2 j (by omega))]
    unfold fadd fmul
    rw [mmul (h1 i (by omega)) (h2 i (by omega))]
theorem nth_map_fof (p : Int) (l : List Int) (j : Nat) : nth (l.map (fof p)) j = nth l j % p := by
  unfold nth
  by_cases h : j < l.length
  · rw [List.getD_eq_getElem?_getD, List.getElem?_map, List.getElem?_eq_getElem h, List.getD_eq_getElem?_getD, List.getElem?_eq_getElem h]; rfl
  · rw [List.getD_eq_getElem?_getD, List.getElem?_eq_none (by simpa using h), List.getD_eq_getElem?_getD, List.getElem?_eq_none (by omega)]; exact (Int.zero_emod p).symm
/-- A power that is no unit's: none. -/
theorem not_dvd_pow {p y : Int} (hp : Pr p) (h : ¬ p ∣ y) : ∀ n : Nat, ¬ p ∣ y ^ n
  | 0 => fun e => by
    rw [Int.pow_zero] at e
    have := Int.le_of_dvd (by decide) e
    have := hp.two
    omega
  | n + 1 => fun e => by
    rw [Int.pow_succ] at e
    rcases hp.euclid e with e | e
    · exact not_dvd_pow hp h n e
    · exact h e
end Go.Att
namespace Go.Proofs.YtcpnidomdkaefaaGreatDoor
open Go.RowKit Go.Att
theorem root_order {p g : Int} (hp : Pr p) (hg : IsGen p g) {n : Nat} (hn : 1 ≤ n) (hd : (p - 1) % n = 0) : ¬ p ∣ froot p g n ∧ ∀ d : Nat, 0 < d → d < n → froot p g n ^ d % p ≠ 1 := by
  have hp2 := hp.two
  obtain ⟨c, hc⟩ := Int.dvd_of_emod_eq_zero hd
  have hc0 : 0 < c := by
    apply Classical.byContradiction
    intro h
    have h0 : (n : Int) * c ≤ 0 := by
      have := Int.mul_le_mul_of_nonneg_left (show c ≤ 0 by omega) (show (0 : Int) ≤ n by omega)
      simpa using this
    omega
  have hq : (p - 1) / n = c := by rw [hc]; exact Int.mul_ediv_cancel_left c (by omega)
  obtain ⟨cn, rfl⟩ := Int.eq_ofNat_of_zero_le (show 0 ≤ c by omega)
  unfold froot fpow
  rw [hq, Int.toNat_natCast]
  constructor
  · intro h
    refine not_dvd_pow hp hg.1 cn (Int.dvd_of_emod_eq_zero ?_)
    rw [← e_idem]; exact Int.emod_eq_zero_of_dvd h
  · intro d h1 h2
    rw [pow_cong (e_idem _ _), ← Int.pow_mul]
    refine hg.2 (cn * d) (Nat.mul_pos (by omega) h1) ?_
    have h3 : cn * d < cn * n := Nat.mul_lt_mul_of_pos_left h2 (by omega)
    have h4 : ((cn * n : Nat) : Int) = p - 1 := by push_cast; rw [hc, Int.mul_comm]
    omega
theorem pts_apart {p g sh : Int} (hp : Pr p) (hg : IsGen p g) {n : Nat} (hn : 1 ≤ n) (hd : (p - 1) % n = 0) (hs : ¬ p ∣ sh) {i j : Nat} (hij : i < j) (hj : j < n) : ¬ p ∣ ptAt p sh (froot p g n) i - ptAt p sh (froot p g n) j := by
  obtain ⟨h0, h1⟩ := root_order hp hg hn hd
  intro h
  have e := mod_eq_of_dvd_sub h
  unfold ptAt at e
  rw [e_idem, e_idem] at e
  have h2 := dvd_sub_of_mod_eq e.symm
  obtain ⟨d, rfl⟩ : ∃ d, j = i + d := ⟨j - i, by omega⟩
  rw [show sh * froot p g n ^ (i + d) - sh * froot p g n ^ i = sh * (froot p g n ^ i * (froot p g n ^ d - 1)) by rw [Int.pow_add]; grind] at h2
  rcases hp.euclid h2 with h2 | h2
  · exact hs h2
  · rcases hp.euclid h2 with h2 | h2
    · exact not_dvd_pow hp h0 i h2
    · exact h1 d (by omega) (by omega) ((mod_eq_of_dvd_sub h2).trans (one_mod hp.two))
/-- Two short polynomials that agree at all points are one. -/
theorem same_cofs {p g sh : Int} (hp : Pr p) (hg : IsGen p g) {n : Nat} (hn : 1 ≤ n) (hd : (p - 1) % n = 0) (hs : ¬ p ∣ sh) {A B : List Int} (hAB : A.length = B.length) (hA : A.length ≤ n) (h : ∀ i, i < n → ev A (ptAt p sh (froot p g n) i) % p = ev B (ptAt p sh (froot p g n) i) % p) {i : Nat} (hi : i < A.length) : nth A i % p = nth B i % p := by
  apply Classical.byContradiction
  intro hne
  have hz : ∃ c ∈ List.zipWith (· - ·) A B, ¬ p ∣ c := by
    refine ⟨nth A i - nth B i, ?_, fun e => hne (mod_eq_of_dvd_sub e)⟩
    rw [nth_eq hi, nth_eq (show i < B.length by omega)]
    have : (List.zipWith (· - ·) A B)[i]'(by simp; omega) = A[i] - B[i]'(by omega) := by simp
    rw [← this]; exact List.getElem_mem _
  have := roots hp _ hz ((List.range n).map (ptAt p sh (froot p g n))) ?_ ?_
  · simp at this; omega
  · rw [List.pairwise_map]
    have hr : (List.range n).Pairwise (· < ·) := List.pairwise_lt_range
    refine List.Pairwise.imp_of_mem ?_ hr
    intro a b _ hb hab
    exact pts_apart hp hg hn hd hs hab (List.mem_range.1 hb)
  · intro x hx
    obtain ⟨j, hj, rfl⟩ := List.mem_map.1 hx
    rw [ev_zipSub A B hAB]
    exact dvd_sub_of_mod_eq (h j (List.mem_range.1 hj))
/-- Where all is shown and no leaf differs, both say the same number. -/
theorem same_num {p g sh : Int} (hp : Pr p) (hg : IsGen p g) {n : Nat} (hn : 1 ≤ n) (hd : (p - 1) % n = 0) (hs : ¬ p ∣ sh) {k a c : Nat} {r r' : Int} {at_ : List Int} {o o' : Pld} {Ls Ls' : List Int}
    (f1 : plFit c o = true) (f2 : plFit c o' = true) (s1 : plShow p k n a o Ls = true) (s2 : plShow p k n a o' Ls' = true) (a1 : plAll p sh (froot p g n) r a at_ o Ls = true) (a2 : plAll p sh (froot p g n) r' a at_ o' Ls' = true)
    (l1 : o.places.length = n) (l2 : o'.places.length = n) (hc : 2 ^ c ≤ n) (hr : ∀ i, i < n → (nthL o.rows i).map (fof p) = (nthL o'.rows i).map (fof p)) : plN p a c at_ o = plN p a c at_ o' := by
  obtain ⟨p1, -, -⟩ := plShow_row s1
  obtain ⟨p2, -, -⟩ := plShow_row s2
  have t1 := s1
  have t2 := s2
  unfold plShow showsB treeB at t1 t2
  simp only [Bool.and_eq_true] at t1 t2
  have b1 := t1.2.1.2
  have b2 := t2.2.1.2
  unfold plFit at f1 f2
  rw [Bool.and_eq_true, decide_eq_true_eq, decide_eq_true_eq] at f1 f2
  unfold plN
  refine dtU_mod p _ (fun j hj => ?_) fun _ _ => rfl
  refine same_cofs hp hg hn hd hs (by rw [f1.2, f2.2]) (by rw [f1.2]; exact hc) (fun i hi => ?_) (by rw [f1.2]; exact hj)
  have k1 : plOk p sh (froot p g n) r a at_ o Ls i = true := List.all_eq_true.1 a1 i (List.mem_range.2 (by rw [← p1]; omega))
  have k2 : plOk p sh (froot p g n) r' a at_ o' Ls' i = true := List.all_eq_true.1 a2 i (List.mem_range.2 (by rw [← p2]; omega))
  unfold plOk at k1 k2
  rw [Bool.and_eq_true, beq_iff_eq, beq_iff_eq] at k1 k2
  rw [← p1, full_at b1 l1 hi, Int.toNat_natCast] at k1
  rw [← p2, full_at b2 l2 hi, Int.toNat_natCast] at k2
  rw [← k1.2, ← k2.2]
  refine dtU_mod p _ (fun _ _ => rfl) fun j _ => ?_
  rw [← nth_map_fof, ← nth_map_fof, hr i hi]
end Go.Proofs.YtcpnidomdkaefaaGreatDoor
end
