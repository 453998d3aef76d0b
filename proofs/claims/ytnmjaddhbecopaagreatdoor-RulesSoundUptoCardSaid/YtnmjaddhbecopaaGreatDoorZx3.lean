/- What a run tells, plain: its cells in order; the last step tells the outcome; bounds; greater limits. Runs with other limits; what steps note is what was told: plain. -/
import Derived.Test.YtnmjaddhbecopaaGreatDoorM1
import Derived.Test.YtnmjaddhbecopaaGreatDoorZx1
section
namespace Go.Att
/-- The cells that a run tells. -/
structure CellsOf (mem l : List (Int × Int)) : Prop where
  inc : l.Pairwise (fun x y => x.1 < y.1)
  iff : ∀ c, c ∈ l ↔ c ∈ mem ∧ 0 < c.1
theorem inc_ext : ∀ (a b : List (Int × Int)), a.Pairwise (fun x y => x.1 < y.1) → b.Pairwise (fun x y => x.1 < y.1) → (∀ c, c ∈ a ↔ c ∈ b) → a = b
  | [], [], _, _, _ => rfl
  | [], y :: b, _, _, h => by have := (h y).2 (by simp); simp at this
  | x :: a, [], _, _, h => by have := (h x).1 (by simp); simp at this
  | x :: a, y :: b, ha, hb, h => by
    rw [List.pairwise_cons] at ha hb
    have hxy : x = y := by
      have h1 := (h x).1 (by simp)
      have h2 := (h y).2 (by simp)
      rw [List.mem_cons] at h1 h2
      rcases h1 with h1 | h1
      · exact h1
      · rcases h2 with h2 | h2
        · exact h2.symm
        · have := hb.1 x h1
          have := ha.1 y h2
          omega
    subst hxy
    rw [inc_ext a b ha.2 hb.2 (fun c => ?_)]
    constructor
    · intro hc
      have h1 := (h c).1 (by simp [hc])
      rw [List.mem_cons] at h1
      rcases h1 with rfl | h1
      · have := ha.1 c hc; omega
      · exact h1
    · intro hc
      have h1 := (h c).2 (by simp [hc])
      rw [List.mem_cons] at h1
      rcases h1 with rfl | h1
      · have := hb.1 c hc; omega
      · exact h1
theorem CellsOf.one {mem a b : List (Int × Int)} (h : CellsOf mem a) (k : CellsOf mem b) : a = b :=
  inc_ext a b h.inc k.inc (fun c => (h.iff c).trans (k.iff c).symm)
/-- No cell twice. -/
def Uq (mem : List (Int × Int)) : Prop := ∀ c ∈ mem, lk mem c.1 = some c.2
theorem Uq.one {mem : List (Int × Int)} (h : Uq mem) {c d : Int × Int} (hc : c ∈ mem) (hd : d ∈ mem) (e : c.1 = d.1) : c = d := by
  have h1 := h c hc
  have h2 := h d hd
  rw [e, h2] at h1
  injection h1 with h1
  exact Prod.ext e h1.symm
theorem Uq.told {mem : List (Int × Int)} (h : Uq mem) {i v : Int} (hl : lk mem i = none) : Uq (mem ++ [(i, v)]) := by
  intro c hc
  rw [List.mem_append, List.mem_singleton] at hc
  rcases hc with hc | rfl
  · exact lk_keep (h c hc)
  · exact lk_new hl
theorem uq_start : Uq [(0, 0)] := by
  intro c hc
  rw [List.mem_singleton] at hc
  subst hc; rfl
/-- What was told keeps a property. -/
def PM (r : Rs) : Prop := ∀ v s, r = .go v s → Uq s.mem
theorem pm_no {k : Int} : PM (.no k) := fun _ _ e => by cases e
theorem pm_go {v : Int} {s : Ms} (h : Uq s.mem) : PM (.go v s) := by
  intro u t e
  injection e with _ e
  rw [← e]; exact h
theorem pm_look {s : Ms} (h : Uq s.mem) (i : Int) : PM (s.look i) := by
  unfold Ms.look
  split
  · exact pm_no
  · exact pm_go h
theorem pm_tell {s : Ms} (h : Uq s.mem) (i x : Int) : PM (s.tell i x) := by
  unfold Ms.tell
  split
  · split
    · exact pm_go h
    · exact pm_no
  · rename_i hl
    exact pm_go (h.told hl)
theorem pm_bind {r : Rs} {f : Int → Ms → Rs} (h : PM r) (h2 : ∀ v s, Uq s.mem → PM (f v s)) : PM (r.bind f) := by
  cases r with
  | go v s => exact h2 v s (h v s rfl)
  | no e => exact pm_no
theorem pm_one (p : Int) (s : Ms) (x : In4) (h : Uq s.mem) : PM (s.one p x) := by
  unfold Ms.one
  have hto : ∀ n u t, Uq t.mem → PM (Ms.to n u t) := fun _ _ _ h => pm_go h
  split
  · refine pm_bind ?_ (fun _ _ h => hto _ _ _ h)
    unfold Ms.comp
    refine pm_bind (pm_look h _) (fun u t h => pm_bind (pm_look h _) (fun v t2 h => ?_))
    split
    · exact pm_no
    · exact pm_tell h _ _
  split
  · exact pm_bind (pm_tell h _ _) (fun _ _ h => hto _ _ _ h)
  split
  · refine pm_bind (pm_look h _) (fun u t h => pm_bind (pm_look h _) (fun v t2 h => ?_))
    split
    · exact hto _ _ _ h
    · exact pm_no
  split
  · exact hto _ _ _ h
  split
  · exact pm_bind (pm_look h _) (fun _ _ h => hto _ _ _ h)
  split
  · exact pm_bind (pm_tell h _ _) (fun _ _ h => pm_bind (pm_tell h _ _) (fun _ _ h => pm_go h))
  split
  · exact pm_bind (pm_look h _) (fun _ _ h => pm_bind (pm_look h _) (fun _ _ h => pm_bind (pm_look h _) (fun _ _ h => pm_go h)))
  split
  · exact pm_bind (pm_tell h _ _) (fun _ _ h => hto _ _ _ h)
  split
  · exact pm_bind (pm_look h _) (fun _ _ h => pm_bind (pm_tell h _ _) (fun _ _ h => hto _ _ _ h))
  exact pm_no
/-- What a run that ends comes to. -/
structure Ended (p : Int) (l0 : List Stp) (n m : Nat) (l : List Stp) (out : Int) (mem : List (Int × Int)) : Prop where
  size : mem.length ≤ m + 3 * n
  bd : ∀ c ∈ mem, (0 ≤ c.1 ∧ c.1 < p) ∧ (0 ≤ c.2 ∧ c.2 < p)
  uq : Uq mem
  last : ∃ l' t, l = l' ++ [t] ∧ accI t.acc 0 = out ∧ l0.length ≤ l'.length ∧ l'.length ≤ l0.length + n
theorem halt_ended {p : Int} {L l : List Stp} {s : Ms} {i out : Int} {mem : List (Int × Int)} {n : Nat} (h : Okm p s) (hu : Uq s.mem) (hr : (match s.blank.look i with
        | .no e => Rw.no e
        | .go v s' => .done (L ++ [s.note s'.acc]) v s'.mem) = .done l out mem) : Ended p L n s.mem.length l out mem := by
  cases hl : s.blank.look i with
  | no e => rw [hl] at hr; cases hr
  | go v s' =>
    rw [hl] at hr
    simp only [Rw.done.injEq] at hr
    obtain ⟨rfl, rfl, rfl⟩ := hr
    obtain ⟨h1, h2, rfl⟩ := look_ok (blank_ok h) hl
    exact ⟨by simp [Ms.blank], h1.mem, hu, L, _, rfl, by simp [Ms.note, Ms.blank, accI], Nat.le_refl _, by omega⟩
theorem runM_ended {p : Int} (hp : 2 ≤ p) (cd : List In4) : ∀ (n : Nat) (L : List Stp) (s : Ms) (l : List Stp) (out : Int) (mem : List (Int × Int)), Okm p s → Uq s.mem → runM p cd n L s = .done l out mem → Ended p L n s.mem.length l out mem := by
  intro n
  induction n with
  | zero =>
    intro L s l out mem h hu hr
    unfold runM at hr
    split at hr
    · cases hr
    split at hr
    · exact halt_ended h hu hr
    · cases hr
  | succ n ih =>
    intro L s l out mem h hu hr
    unfold runM at hr
    split at hr
    · cases hr
    split at hr
    · exact halt_ended h hu hr
    · split at hr
      · cases hr
      · rename_i v s' he
        have ha := one_aft hp (blank_ok h) he
        have hq := pm_one p s.blank _ hu _ _ he
        obtain ⟨k1, k2, k3, l', t, k4, k5, k6, k7⟩ := ih _ _ _ _ _ ha.ok hq hr
        have hsz := ha.size
        have hb : s.blank.mem.length = s.mem.length := rfl
        refine ⟨by omega, k2, k3, l', t, k4, k5, ?_, ?_⟩
        · simp at k6; omega
        · simp at k7; omega
theorem walkM_ended {p sz lim : Int} {cd : List In4} {l : List Stp} {out : Int} {mem : List (Int × Int)} (hp : 2 ≤ p) (h : walkM p sz cd lim = .done l out mem) : Ended p [] lim.toNat 1 l out mem ∧ 0 ≤ lim ∧ lim ≤ 16384 := by
  unfold walkM at h
  split at h
  · rename_i hf
    refine ⟨runM_ended hp cd _ _ _ _ _ _ (start_ok hp) uq_start h, ?_⟩
    unfold faultM at hf
    split at hf
    · cases hf
    · split at hf
      · cases hf
      · omega
  · cases h
/-- The document's choice, so far: all cells up to low. -/
structure UpTo (mem L : List (Int × Int)) (low : Int) : Prop where
  inc : L.Pairwise (fun x y => x.1 < y.1)
  iff : ∀ c, c ∈ L ↔ c ∈ mem ∧ 0 < c.1 ∧ c.1 ≤ low
theorem UpTo.start (mem : List (Int × Int)) : UpTo mem [] 0 := ⟨.nil, fun c => by simp⟩
theorem UpTo.step {mem L : List (Int × Int)} {low : Int} (h : UpTo mem L low) (hu : Uq mem) (h0 : 0 ≤ low) {c : Int × Int} (hc : c ∈ mem) (hl : low < c.1) (hb : ∀ d ∈ mem, low < d.1 → c.1 ≤ d.1) : UpTo mem (L ++ [c]) c.1 := by
  refine ⟨?_, fun d => ?_⟩
  · rw [List.pairwise_append]
    refine ⟨h.inc, by simp, fun a ha b hb' => ?_⟩
    rw [List.mem_singleton] at hb'
    subst hb'
    have := (h.iff a).1 ha
    omega
  · rw [List.mem_append, List.mem_singleton, h.iff]
    constructor
    · rintro (h1 | rfl)
      · exact ⟨h1.1, h1.2.1, by omega⟩
      · exact ⟨hc, by omega, by omega⟩
    · rintro ⟨h1, h2, h3⟩
      by_cases h4 : d.1 ≤ low
      · exact .inl ⟨h1, h2, h4⟩
      · have := hb d h1 (by omega)
        exact .inr (hu.one h1 hc (by omega))
theorem UpTo.end {mem L : List (Int × Int)} {low : Int} (h : UpTo mem L low) (hn : ∀ d ∈ mem, d.1 ≤ low) : CellsOf mem L :=
  ⟨h.inc, fun c => (h.iff c).trans ⟨fun k => ⟨k.1, k.2.1⟩, fun k => ⟨k.1, k.2, hn c k.1⟩⟩⟩
theorem UpTo.len {mem L : List (Int × Int)} {low : Int} (h : UpTo mem L low) : L.length ≤ mem.length := by
  have hn : L.Nodup := by
    refine List.Pairwise.imp ?_ h.inc
    intro a b hab e; subst e; omega
  have hsub : ∀ c ∈ L, c ∈ mem := fun c hc => ((h.iff c).1 hc).1
  clear h
  induction L generalizing mem with
  | nil => simp
  | cons c t ih =>
    rw [List.nodup_cons] at hn
    have hc := hsub c (by simp)
    have := ih (mem := mem.erase c) hn.2 (fun d hd => (List.mem_erase_of_ne (fun e => hn.1 (by rw [← e]; exact hd))).2 (hsub d (by simp [hd])))
    rw [List.length_erase_of_mem hc] at this
    have := List.length_pos_of_mem hc
    simp; omega
/-- How many are still to come. -/
def above (mem : List (Int × Int)) (low : Int) : Nat := (mem.filter fun c => decide (low < c.1)).length
theorem above_lt {mem : List (Int × Int)} {low : Int} {c : Int × Int} (hc : c ∈ mem) (hl : low < c.1) : above mem c.1 < above mem low := by
  unfold above
  induction mem with
  | nil => simp at hc
  | cons d t ih =>
    have hle : ∀ t : List (Int × Int), (t.filter fun x => decide (c.1 < x.1)).length ≤ (t.filter fun x => decide (low < x.1)).length := by
      intro t
      induction t with
      | nil => simp
      | cons x t ih =>
        rw [List.filter_cons, List.filter_cons]
        by_cases h1 : c.1 < x.1
        · rw [if_pos (by simpa using h1), if_pos (by simp; omega)]; simp; exact ih
        · rw [if_neg (by simpa using h1)]
          split
          · simp; omega
          · exact ih
    rw [List.mem_cons] at hc
    rw [List.filter_cons, List.filter_cons]
    rcases hc with rfl | hc
    · rw [if_neg (by simp), if_pos (by simpa using hl)]
      have := hle t
      simp; omega
    · have := ih hc
      by_cases h1 : c.1 < d.1
      · rw [if_pos (by simpa using h1), if_pos (by simp; omega)]; simp; exact this
      · rw [if_neg (by simpa using h1)]
        split
        · simp; omega
        · exact this
/-- The least above low among the first. -/
structure Best (mem : List (Int × Int)) (low : Int) (i : Nat) (b : Int) : Prop where
  no : b < 0 → b = -1 ∧ ∀ j, j < i → (nthP mem j).1 ≤ low
  yes : 0 ≤ b → b.toNat < i ∧ low < (nthP mem b.toNat).1 ∧ ∀ j, j < i → low < (nthP mem j).1 → (nthP mem b.toNat).1 ≤ (nthP mem j).1
end Go.Att
end
section
namespace Go.Att
theorem runM_eq (p : Int) (cd : List In4) (n : Nat) (L : List Stp) (s : Ms) : runM p cd n L s = if (cd.length : Int) ≤ s.pc then .no 7 else
      if (nthI cd s.pc.toNat).op = 0 then (match s.blank.look (fadd p s.fp (nthI cd s.pc.toNat).a) with
        | .no e => .no e
        | .go v s' => .done (L ++ [s.note s'.acc]) v s'.mem)
      else match n with
        | 0 => .no 8
        | k + 1 => match s.blank.one p (nthI cd s.pc.toNat) with
          | .no e => .no e
          | .go _ s' => runM p cd k (L ++ [s.note s'.acc]) s' := by
  cases n <;> rfl
theorem halt_done {r : Rs} {L l : List Stp} {s : Ms} {out : Int} {mem : List (Int × Int)} (h : (match r with
        | .no e => Rw.no e
        | .go v s' => .done (L ++ [s.note s'.acc]) v s'.mem) = .done l out mem) : ∃ s', r = .go out s' ∧ l = L ++ [s.note s'.acc] ∧ mem = s'.mem := by
  cases r with
  | no e => cases h
  | go v s' =>
    simp only [Rw.done.injEq] at h
    obtain ⟨rfl, rfl, rfl⟩ := h
    exact ⟨s', rfl, rfl, rfl⟩
/-- With other limits. -/
theorem runM_limit {p : Int} {cd : List In4} : ∀ (n : Nat) (L : List Stp) (s : Ms) (l : List Stp) (out : Int) (mem : List (Int × Int)), runM p cd n L s = .done l out mem →
    L.length + 1 ≤ l.length ∧ ∀ k, (l.length ≤ L.length + k + 1 → runM p cd k L s = .done l out mem) ∧ (L.length + k + 1 < l.length → runM p cd k L s = .no 8) := by
  intro n
  induction n with
  | zero =>
    intro L s l out mem h
    rw [runM_eq] at h
    by_cases h1 : (cd.length : Int) ≤ s.pc
    · rw [if_pos h1] at h; cases h
    rw [if_neg h1] at h
    by_cases h2 : (nthI cd s.pc.toNat).op = 0
    · rw [if_pos h2] at h
      have hl : l.length = L.length + 1 := by obtain ⟨s', _, rfl, _⟩ := halt_done h; simp
      refine ⟨by omega, fun k => ⟨fun _ => ?_, fun h3 => by omega⟩⟩
      rw [runM_eq, if_neg h1, if_pos h2]; exact h
    · rw [if_neg h2] at h; cases h
  | succ n ih =>
    intro L s l out mem h
    rw [runM_eq] at h
    by_cases h1 : (cd.length : Int) ≤ s.pc
    · rw [if_pos h1] at h; cases h
    rw [if_neg h1] at h
    by_cases h2 : (nthI cd s.pc.toNat).op = 0
    · rw [if_pos h2] at h
      have hl : l.length = L.length + 1 := by obtain ⟨s', _, rfl, _⟩ := halt_done h; simp
      refine ⟨by omega, fun k => ⟨fun _ => ?_, fun h3 => by omega⟩⟩
      rw [runM_eq, if_neg h1, if_pos h2]; exact h
    · rw [if_neg h2] at h
      dsimp only at h
      cases ho : s.blank.one p (nthI cd s.pc.toNat) with
      | no e => rw [ho] at h; cases h
      | go v s' =>
        rw [ho] at h
        obtain ⟨i1, i2⟩ := ih _ _ _ _ _ h
        rw [List.length_append, List.length_singleton] at i1 i2
        refine ⟨by omega, fun k => ?_⟩
        rw [runM_eq, if_neg h1, if_neg h2]
        cases k with
        | zero => exact ⟨fun h3 => by omega, fun _ => rfl⟩
        | succ k =>
          dsimp only
          rw [ho]
          exact ⟨fun h3 => (i2 k).1 (by omega), fun h3 => (i2 k).2 (by omega)⟩
theorem walkM_limit {p sz lim o : Int} {cd : List In4} {l : List Stp} {out : Int} {mem : List (Int × Int)} (h : walkM p sz cd lim = .done l out mem) (h0 : 0 ≤ o) (h1 : o ≤ 16384) :
    ((l.length : Int) - 1 ≤ o → walkM p sz cd o = .done l out mem) ∧ (o < (l.length : Int) - 1 → walkM p sz cd o = .no 8) := by
  unfold walkM at h
  split at h
  · rename_i hf
    have hf2 : faultM p sz cd.length o = 0 := by
      unfold faultM at hf ⊢
      split at hf
      · cases hf
      · rename_i h2
        rw [if_neg h2, if_neg (by omega)]
    obtain ⟨i1, i2⟩ := runM_limit _ _ _ _ _ _ h
    unfold walkM
    rw [if_pos hf2]
    have := i2 o.toNat
    simp only [List.length_nil] at i1 this
    exact ⟨fun h3 => this.1 (by omega), fun h3 => this.2 (by omega)⟩
  · cases h
/-- What steps note is what was told. -/
theorem runM_told {p : Int} (hp : 2 ≤ p) {cd : List In4} : ∀ (n : Nat) (L : List Stp) (s : Ms) (l : List Stp) (out : Int) (mem : List (Int × Int)), Okm p s → runM p cd n L s = .done l out mem → (∀ t ∈ L, ∀ c ∈ t.acc, lk s.mem c.1 = some c.2) →
    (∀ t ∈ l, ∀ c ∈ t.acc, lk mem c.1 = some c.2) ∧ ∀ j y, lk s.mem j = some y → lk mem j = some y := by
  intro n
  have hh : ∀ (L : List Stp) (s : Ms) (l : List Stp) (out i : Int) (mem : List (Int × Int)), Okm p s → (match s.blank.look i with
        | .no e => Rw.no e
        | .go v s' => .done (L ++ [s.note s'.acc]) v s'.mem) = .done l out mem → (∀ t ∈ L, ∀ c ∈ t.acc, lk s.mem c.1 = some c.2) →
    (∀ t ∈ l, ∀ c ∈ t.acc, lk mem c.1 = some c.2) ∧ ∀ j y, lk s.mem j = some y → lk mem j = some y := by
    intro L s l out i mem h hr hL
    obtain ⟨s', h1, rfl, rfl⟩ := halt_done hr
    obtain ⟨h2, h3, rfl⟩ := look_ok (blank_ok h) h1
    refine ⟨fun t ht c hc => ?_, fun j y hj => hj⟩
    rw [List.mem_append, List.mem_singleton] at ht
    rcases ht with ht | rfl
    · exact hL t ht c hc
    · exact h2.acc c hc
  induction n with
  | zero =>
    intro L s l out mem h hr hL
    rw [runM_eq] at hr
    by_cases h1 : (cd.length : Int) ≤ s.pc
    · rw [if_pos h1] at hr; cases hr
    rw [if_neg h1] at hr
    by_cases h2 : (nthI cd s.pc.toNat).op = 0
    · rw [if_pos h2] at hr; exact hh _ _ _ _ _ _ h hr hL
    · rw [if_neg h2] at hr; cases hr
  | succ n ih =>
    intro L s l out mem h hr hL
    rw [runM_eq] at hr
    by_cases h1 : (cd.length : Int) ≤ s.pc
    · rw [if_pos h1] at hr; cases hr
    rw [if_neg h1] at hr
    by_cases h2 : (nthI cd s.pc.toNat).op = 0
    · rw [if_pos h2] at hr; exact hh _ _ _ _ _ _ h hr hL
    · rw [if_neg h2] at hr
      dsimp only at hr
      cases ho : s.blank.one p (nthI cd s.pc.toNat) with
      | no e => rw [ho] at hr; cases hr
      | go v s' =>
        rw [ho] at hr
        have ha := one_aft hp (blank_ok h) ho
        obtain ⟨i1, i2⟩ := ih _ _ _ _ _ ha.ok hr (fun t ht c hc => by
          rw [List.mem_append, List.mem_singleton] at ht
          rcases ht with ht | rfl
          · exact ha.keep _ _ (hL t ht c hc)
          · exact ha.ok.acc c hc)
        exact ⟨i1, fun j y hj => i2 j y (ha.keep _ _ hj)⟩
/-- A place and what it is, as a step tells them. -/
theorem acc_or (l : List (Int × Int)) (j : Nat) : (accA l j = 0 ∧ accI l j = 0) ∨ (accA l j, accI l j) ∈ l := by
  unfold accA accI
  by_cases h : j < l.length
  · right
    rw [List.getD_eq_getElem?_getD, List.getElem?_eq_getElem h]
    exact List.getElem_mem h
  · left
    rw [List.getD_eq_getElem?_getD, List.getElem?_eq_none (by omega)]
    exact ⟨rfl, rfl⟩
theorem walkM_told {p sz lim : Int} {cd : List In4} {l : List Stp} {out : Int} {mem : List (Int × Int)} (hp : 2 ≤ p) (h : walkM p sz cd lim = .done l out mem) :
    (∀ t ∈ l, ∀ j, lk mem (accA t.acc j) = some (accI t.acc j)) ∧ lk mem 0 = some 0 := by
  unfold walkM at h
  split at h
  · obtain ⟨h1, h2⟩ := runM_told hp _ _ _ _ _ _ (start_ok hp) h (fun t ht => by simp at ht)
    have h0 : lk mem 0 = some 0 := h2 0 0 rfl
    refine ⟨fun t ht j => ?_, h0⟩
    rcases acc_or t.acc j with ⟨e1, e2⟩ | e
    · rw [e1, e2]; exact h0
    · exact h1 t ht _ e
  · cases h
/-- A stop has a number. -/
def NZ (r : Rs) : Prop := ∀ k, r = .no k → k ≠ 0
theorem nz_no {k : Int} (h : k ≠ 0) : NZ (.no k) := by
  intro j e; injection e with e; rw [← e]; exact h
theorem nz_go {v : Int} {s : Ms} : NZ (.go v s) := fun _ e => by cases e
theorem nz_look (s : Ms) (i : Int) : NZ (s.look i) := by
  unfold Ms.look
  split
  · exact nz_no (by decide)
  · exact nz_go
theorem nz_tell (s : Ms) (i x : Int) : NZ (s.tell i x) := by
  unfold Ms.tell
  split
  · split
    · exact nz_go
    · exact nz_no (by decide)
  · exact nz_go
theorem nz_bind {r : Rs} {f : Int → Ms → Rs} (h : NZ r) (h2 : ∀ v s, NZ (f v s)) : NZ (r.bind f) := by
  cases r with
  | go v s => exact h2 v s
  | no e => exact fun k hk => h k hk
theorem nz_one (p : Int) (s : Ms) (x : In4) : NZ (s.one p x) := by
  unfold Ms.one
  have hto : ∀ n u t, NZ (Ms.to n u t) := fun _ _ _ => nz_go
  split
  · refine nz_bind ?_ (fun _ _ => hto _ _ _)
    unfold Ms.comp
    refine nz_bind (nz_look _ _) (fun u t => nz_bind (nz_look _ _) (fun v t2 => ?_))
    split
    · exact nz_no (by decide)
    · exact nz_tell _ _ _
  split
  · exact nz_bind (nz_tell _ _ _) (fun _ _ => hto _ _ _)
  split
  · refine nz_bind (nz_look _ _) (fun u t => nz_bind (nz_look _ _) (fun v t2 => ?_))
    split
    · exact hto _ _ _
    · exact nz_no (by decide)
  split
  · exact hto _ _ _
  split
  · exact nz_bind (nz_look _ _) (fun _ _ => hto _ _ _)
  split
  · exact nz_bind (nz_tell _ _ _) (fun _ _ => nz_bind (nz_tell _ _ _) (fun _ _ => nz_go))
  split
  · exact nz_bind (nz_look _ _) (fun _ _ => nz_bind (nz_look _ _) (fun _ _ => nz_bind (nz_look _ _) (fun _ _ => nz_go)))
  split
  · exact nz_bind (nz_tell _ _ _) (fun _ _ => hto _ _ _)
  split
  · exact nz_bind (nz_look _ _) (fun _ _ => nz_bind (nz_tell _ _ _) (fun _ _ => hto _ _ _))
  exact nz_no (by decide)
theorem runM_nz (p : Int) (cd : List In4) (n : Nat) : ∀ (l : List Stp) (s : Ms) (k : Int), runM p cd n l s = .no k → k ≠ 0 := by
  induction n with
  | zero =>
    intro l s k h
    unfold runM at h
    split at h
    · injection h with h; omega
    split at h
    · split at h
      · rename_i e he
        injection h with h; subst h
        exact nz_look _ _ _ he
      · cases h
    · injection h with h; omega
  | succ n ih =>
    intro l s k h
    unfold runM at h
    split at h
    · injection h with h; omega
    split at h
    · split at h
      · rename_i e he
        injection h with h; subst h
        exact nz_look _ _ _ he
      · cases h
    · split at h
      · rename_i e he
        injection h with h; subst h
        exact nz_one _ _ _ _ he
      · exact ih _ _ _ h
theorem walkM_nz {p sz lim : Int} {cd : List In4} {k : Int} (h : walkM p sz cd lim = .no k) : k ≠ 0 := by
  unfold walkM at h
  split at h
  · exact runM_nz _ _ _ _ _ _ h
  · rename_i hf
    injection h with h; subst h
    exact hf
end Go.Att
end
