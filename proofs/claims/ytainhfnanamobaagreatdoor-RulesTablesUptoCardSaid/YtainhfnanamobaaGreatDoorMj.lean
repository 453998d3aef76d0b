/- What a run tells, plain: its cells in order; the last step tells the outcome; bounds; greater limits. -/
import Derived.Test.YtainhfnanamobaaGreatDoorM1
import Derived.Test.YtainhfnanamobaaGreatDoorM3
namespace Go.Att
/-- The cells that a run tells. -/
structure CellsOf (mem l : List (Int × Int)) : Prop where
  inc : l.Pairwise (fun x y => x.1 < y.1)
  iff : ∀ c, c ∈ l ↔ c ∈ mem ∧ 0 < c.1
theorem inc_ext : ∀ (a b : List (Int × Int)), a.Pairwise (fun x y => x.1 < y.1) → b.Pairwise (fun x y => x.1 < y.1) → (∀ c, c ∈ a ↔ c ∈ b) → a = b
  | [], [], _, _, _ => rfl
  | [], y :: b, _, _, h => by have := (h y).2 (by simp); simp at this
  | x :: a, [], _, _, h => by have := (h x).1 (by simp); simp at this
  | x :: a, y :: b, ha, hb, h => by
    rw [List.pairwise_cons] at ha hb
    have hxy : x = y := by
      have h1 := (h x).1 (by simp)
      have h2 := (h y).2 (by simp)
      rw [List.mem_cons] at h1 h2
      rcases h1 with h1 | h1
      · exact h1
      · rcases h2 with h2 | h2
        · exact h2.symm
        · have := hb.1 x h1
          have := ha.1 y h2
          omega
    subst hxy
    rw [inc_ext a b ha.2 hb.2 (fun c => ?_)]
    constructor
    · intro hc
      have h1 := (h c).1 (by simp [hc])
      rw [List.mem_cons] at h1
      rcases h1 with rfl | h1
      · have := ha.1 c hc; omega
      · exact h1
    · intro hc
      have h1 := (h c).2 (by simp [hc])
      rw [List.mem_cons] at h1
      rcases h1 with rfl | h1
      · have := hb.1 c hc; omega
      · exact h1
theorem CellsOf.one {mem a b : List (Int × Int)} (h : CellsOf mem a) (k : CellsOf mem b) : a = b :=
  inc_ext a b h.inc k.inc (fun c => (h.iff c).trans (k.iff c).symm)
/-- No cell twice. -/
def Uq (mem : List (Int × Int)) : Prop := ∀ c ∈ mem, lk mem c.1 = some c.2
theorem Uq.one {mem : List (Int × Int)} (h : Uq mem) {c d : Int × Int} (hc : c ∈ mem) (hd : d ∈ mem) (e : c.1 = d.1) : c = d := by
  have h1 := h c hc
  have h2 := h d hd
  rw [e, h2] at h1
  injection h1 with h1
  exact Prod.ext e h1.symm
theorem Uq.told {mem : List (Int × Int)} (h : Uq mem) {i v : Int} (hl : lk mem i = none) : Uq (mem ++ [(i, v)]) := by
  intro c hc
  rw [List.mem_append, List.mem_singleton] at hc
  rcases hc with hc | rfl
  · exact lk_keep (h c hc)
  · exact lk_new hl
theorem uq_start : Uq [(0, 0)] := by
  intro c hc
  rw [List.mem_singleton] at hc
  subst hc; rfl
/-- What was told keeps a property. -/
def PM (r : Rs) : Prop := ∀ v s, r = .go v s → Uq s.mem
theorem pm_no {k : Int} : PM (.no k) := fun _ _ e => by cases e
theorem pm_go {v : Int} {s : Ms} (h : Uq s.mem) : PM (.go v s) := by
  intro u t e
  injection e with _ e
  rw [← e]; exact h
theorem pm_look {s : Ms} (h : Uq s.mem) (i : Int) : PM (s.look i) := by
  unfold Ms.look
  split
  · exact pm_no
  · exact pm_go h
theorem pm_tell {s : Ms} (h : Uq s.mem) (i x : Int) : PM (s.tell i x) := by
  unfold Ms.tell
  split
  · split
    · exact pm_go h
    · exact pm_no
  · rename_i hl
    exact pm_go (h.told hl)
theorem pm_bind {r : Rs} {f : Int → Ms → Rs} (h : PM r) (h2 : ∀ v s, Uq s.mem → PM (f v s)) : PM (r.bind f) := by
  cases r with
  | go v s => exact h2 v s (h v s rfl)
  | no e => exact pm_no
theorem pm_one (p : Int) (s : Ms) (x : In4) (h : Uq s.mem) : PM (s.one p x) := by
  unfold Ms.one
  have hto : ∀ n u t, Uq t.mem → PM (Ms.to n u t) := fun _ _ _ h => pm_go h
  split
  · refine pm_bind ?_ (fun _ _ h => hto _ _ _ h)
    unfold Ms.comp
    refine pm_bind (pm_look h _) (fun u t h => pm_bind (pm_look h _) (fun v t2 h => ?_))
    split
    · exact pm_no
    · exact pm_tell h _ _
  split
  · exact pm_bind (pm_tell h _ _) (fun _ _ h => hto _ _ _ h)
  split
  · refine pm_bind (pm_look h _) (fun u t h => pm_bind (pm_look h _) (fun v t2 h => ?_))
    split
    · exact hto _ _ _ h
    · exact pm_no
  split
  · exact hto _ _ _ h
  split
  · exact pm_bind (pm_look h _) (fun _ _ h => hto _ _ _ h)
  split
  · exact pm_bind (pm_tell h _ _) (fun _ _ h => pm_bind (pm_tell h _ _) (fun _ _ h => pm_go h))
  split
  · exact pm_bind (pm_look h _) (fun _ _ h => pm_bind (pm_look h _) (fun _ _ h => pm_bind (pm_look h _) (fun _ _ h => pm_go h)))
  split
  · exact pm_bind (pm_tell h _ _) (fun _ _ h => hto _ _ _ h)
  split
  · exact pm_bind (pm_look h _) (fun _ _ h => pm_bind (pm_tell h _ _) (fun _ _ h => hto _ _ _ h))
  exact pm_no
/-- What a run that ends comes to. -/
structure Ended (p : Int) (l0 : List Stp) (n m : Nat) (l : List Stp) (out : Int) (mem : List (Int × Int)) : Prop where
  size : mem.length ≤ m + 3 * n
  bd : ∀ c ∈ mem, (0 ≤ c.1 ∧ c.1 < p) ∧ (0 ≤ c.2 ∧ c.2 < p)
  uq : Uq mem
  last : ∃ l' t, l = l' ++ [t] ∧ accI t.acc 0 = out ∧ l0.length ≤ l'.length ∧ l'.length ≤ l0.length + n
theorem halt_ended {p : Int} {L l : List Stp} {s : Ms} {i out : Int} {mem : List (Int × Int)} {n : Nat} (h : Okm p s) (hu : Uq s.mem) (hr : (match s.blank.look i with
        | .no e => Rw.no e
        | .go v s' => .done (L ++ [s.note s'.acc]) v s'.mem) = .done l out mem) : Ended p L n s.mem.length l out mem := by
  cases hl : s.blank.look i with
  | no e => rw [hl] at hr; cases hr
  | go v s' =>
    rw [hl] at hr
    simp only [Rw.done.injEq] at hr
    obtain ⟨rfl, rfl, rfl⟩ := hr
    obtain ⟨h1, h2, rfl⟩ := look_ok (blank_ok h) hl
    exact ⟨by simp [Ms.blank], h1.mem, hu, L, _, rfl, by simp [Ms.note, Ms.blank, accI], Nat.le_refl _, by omega⟩
theorem runM_ended {p : Int} (hp : 2 ≤ p) (cd : List In4) : ∀ (n : Nat) (L : List Stp) (s : Ms) (l : List Stp) (out : Int) (mem : List (Int × Int)), Okm p s → Uq s.mem → runM p cd n L s = .done l out mem → Ended p L n s.mem.length l out mem := by
  intro n
  induction n with
  | zero =>
    intro L s l out mem h hu hr
    unfold runM at hr
    split at hr
    · cases hr
    split at hr
    · exact halt_ended h hu hr
    · cases hr
  | succ n ih =>
    intro L s l out mem h hu hr
    unfold runM at hr
    split at hr
    · cases hr
    split at hr
    · exact halt_ended h hu hr
    · split at hr
      · cases hr
      · rename_i v s' he
        have ha := one_aft hp (blank_ok h) he
        have hq := pm_one p s.blank _ hu _ _ he
        obtain ⟨k1, k2, k3, l', t, k4, k5, k6, k7⟩ := ih _ _ _ _ _ ha.ok hq hr
        have hsz := ha.size
        have hb : s.blank.mem.length = s.mem.length := rfl
        refine ⟨by omega, k2, k3, l', t, k4, k5, ?_, ?_⟩
        · simp at k6; omega
        · simp at k7; omega
theorem walkM_ended {p sz lim : Int} {cd : List In4} {l : List Stp} {out : Int} {mem : List (Int × Int)} (hp : 2 ≤ p) (h : walkM p sz cd lim = .done l out mem) : Ended p [] lim.toNat 1 l out mem ∧ 0 ≤ lim ∧ lim ≤ 16384 := by
  unfold walkM at h
  split at h
  · rename_i hf
    refine ⟨runM_ended hp cd _ _ _ _ _ _ (start_ok hp) uq_start h, ?_⟩
    unfold faultM at hf
    split at hf
    · cases hf
    · split at hf
      · cases hf
      · omega
  · cases h
/-- The document's choice, so far: all cells up to low. -/
structure UpTo (mem L : List (Int × Int)) (low : Int) : Prop where
  inc : L.Pairwise (fun x y => x.1 < y.1)
  iff : ∀ c, c ∈ L ↔ c ∈ mem ∧ 0 < c.1 ∧ c.1 ≤ low
theorem UpTo.start (mem : List (Int × Int)) : UpTo mem [] 0 := ⟨.nil, fun c => by simp⟩
theorem UpTo.step {mem L : List (Int × Int)} {low : Int} (h : UpTo mem L low) (hu : Uq mem) (h0 : 0 ≤ low) {c : Int × Int} (hc : c ∈ mem) (hl : low < c.1) (hb : ∀ d ∈ mem, low < d.1 → c.1 ≤ d.1) : UpTo mem (L ++ [c]) c.1 := by
  refine ⟨?_, fun d => ?_⟩
  · rw [List.pairwise_append]
    refine ⟨h.inc, by simp, fun a ha b hb' => ?_⟩
    rw [List.mem_singleton] at hb'
    subst hb'
    have := (h.iff a).1 ha
    omega
  · rw [List.mem_append, List.mem_singleton, h.iff]
    constructor
    · rintro (h1 | rfl)
      · exact ⟨h1.1, h1.2.1, by omega⟩
      · exact ⟨hc, by omega, by omega⟩
    · rintro ⟨h1, h2, h3⟩
      by_cases h4 : d.1 ≤ low
      · exact .inl ⟨h1, h2, h4⟩
      · have := hb d h1 (by omega)
        exact .inr (hu.one h1 hc (by omega))
theorem UpTo.end {mem L : List (Int × Int)} {low : Int} (h : UpTo mem L low) (hn : ∀ d ∈ mem, d.1 ≤ low) : CellsOf mem L :=
  ⟨h.inc, fun c => (h.iff c).trans ⟨fun k => ⟨k.1, k.2.1⟩, fun k => ⟨k.1, k.2, hn c k.1⟩⟩⟩
theorem UpTo.len {mem L : List (Int × Int)} {low : Int} (h : UpTo mem L low) : L.length ≤ mem.length := by
  have hn : L.Nodup := by
    refine List.Pairwise.imp ?_ h.inc
    intro a b hab e; subst e; omega
  have hsub : ∀ c ∈ L, c ∈ mem := fun c hc => ((h.iff c).1 hc).1
  clear h
  induction L generalizing mem with
  | nil => simp
  | cons c t ih =>
    rw [List.nodup_cons] at hn
    have hc := hsub c (by simp)
    have := ih (mem := mem.erase c) hn.2 (fun d hd => (List.mem_erase_of_ne (fun e => hn.1 (by rw [← e]; exact hd))).2 (hsub d (by simp [hd])))
    rw [List.length_erase_of_mem hc] at this
    have := List.length_pos_of_mem hc
    simp; omega
/-- How many are still to come. -/
def above (mem : List (Int × Int)) (low : Int) : Nat := (mem.filter fun c => decide (low < c.1)).length
theorem above_lt {mem : List (Int × Int)} {low : Int} {c : Int × Int} (hc : c ∈ mem) (hl : low < c.1) : above mem c.1 < above mem low := by
  unfold above
  induction mem with
  | nil => simp at hc
  | cons d t ih =>
    have hle : ∀ t : List (Int × Int), (t.filter fun x => decide (c.1 < x.1)).length ≤ (t.filter fun x => decide (low < x.1)).length := by
      intro t
      induction t with
      | nil => simp
      | cons x t ih =>
        rw [List.filter_cons, List.filter_cons]
        by_cases h1 : c.1 < x.1
        · rw [if_pos (by simpa using h1), if_pos (by simp; omega)]; simp; exact ih
        · rw [if_neg (by simpa using h1)]
          split
          · simp; omega
          · exact ih
    rw [List.mem_cons] at hc
    rw [List.filter_cons, List.filter_cons]
    rcases hc with rfl | hc
    · rw [if_neg (by simp), if_pos (by simpa using hl)]
      have := hle t
      simp; omega
    · have := ih hc
      by_cases h1 : c.1 < d.1
      · rw [if_pos (by simpa using h1), if_pos (by simp; omega)]; simp; exact this
      · rw [if_neg (by simpa using h1)]
        split
        · simp; omega
        · exact this
/-- The least above low among the first. -/
structure Best (mem : List (Int × Int)) (low : Int) (i : Nat) (b : Int) : Prop where
  no : b < 0 → b = -1 ∧ ∀ j, j < i → (nthP mem j).1 ≤ low
  yes : 0 ≤ b → b.toNat < i ∧ low < (nthP mem b.toNat).1 ∧ ∀ j, j < i → low < (nthP mem j).1 → (nthP mem b.toNat).1 ≤ (nthP mem j).1
end Go.Att
