/- Runs with other limits; what steps note is what was told: plain. -/
import Derived.Test.YtainhfnanamobaaGreatDoorMj
namespace Go.Att
theorem runM_eq (p : Int) (cd : List In4) (n : Nat) (L : List Stp) (s : Ms) : runM p cd n L s = if (cd.length : Int) ≤ s.pc then .no 7 else
      if (nthI cd s.pc.toNat).op = 0 then (match s.blank.look (fadd p s.fp (nthI cd s.pc.toNat).a) with
        | .no e => .no e
        | .go v s' => .done (L ++ [s.note s'.acc]) v s'.mem)
      else match n with
        | 0 => .no 8
        | k + 1 => match s.blank.one p (nthI cd s.pc.toNat) with
          | .no e => .no e
          | .go _ s' => runM p cd k (L ++ [s.note s'.acc]) s' := by
  cases n <;> rfl
theorem halt_done {r : Rs} {L l : List Stp} {s : Ms} {out : Int} {mem : List (Int × Int)} (h : (match r with
        | .no e => Rw.no e
        | .go v s' => .done (L ++ [s.note s'.acc]) v s'.mem) = .done l out mem) : ∃ s', r = .go out s' ∧ l = L ++ [s.note s'.acc] ∧ mem = s'.mem := by
  cases r with
  | no e => cases h
  | go v s' =>
    simp only [Rw.done.injEq] at h
    obtain ⟨rfl, rfl, rfl⟩ := h
    exact ⟨s', rfl, rfl, rfl⟩
/-- With other limits. -/
theorem runM_limit {p : Int} {cd : List In4} : ∀ (n : Nat) (L : List Stp) (s : Ms) (l : List Stp) (out : Int) (mem : List (Int × Int)), runM p cd n L s = .done l out mem →
    L.length + 1 ≤ l.length ∧ ∀ k, (l.length ≤ L.length + k + 1 → runM p cd k L s = .done l out mem) ∧ (L.length + k + 1 < l.length → runM p cd k L s = .no 8) := by
  intro n
  induction n with
  | zero =>
    intro L s l out mem h
    rw [runM_eq] at h
    by_cases h1 : (cd.length : Int) ≤ s.pc
    · rw [if_pos h1] at h; cases h
    rw [if_neg h1] at h
    by_cases h2 : (nthI cd s.pc.toNat).op = 0
    · rw [if_pos h2] at h
      have hl : l.length = L.length + 1 := by obtain ⟨s', _, rfl, _⟩ := halt_done h; simp
      refine ⟨by omega, fun k => ⟨fun _ => ?_, fun h3 => by omega⟩⟩
      rw [runM_eq, if_neg h1, if_pos h2]; exact h
    · rw [if_neg h2] at h; cases h
  | succ n ih =>
    intro L s l out mem h
    rw [runM_eq] at h
    by_cases h1 : (cd.length : Int) ≤ s.pc
    · rw [if_pos h1] at h; cases h
    rw [if_neg h1] at h
    by_cases h2 : (nthI cd s.pc.toNat).op = 0
    · rw [if_pos h2] at h
      have hl : l.length = L.length + 1 := by obtain ⟨s', _, rfl, _⟩ := halt_done h; simp
      refine ⟨by omega, fun k => ⟨fun _ => ?_, fun h3 => by omega⟩⟩
      rw [runM_eq, if_neg h1, if_pos h2]; exact h
    · rw [if_neg h2] at h
      dsimp only at h
      cases ho : s.blank.one p (nthI cd s.pc.toNat) with
      | no e => rw [ho] at h; cases h
      | go v s' =>
        rw [ho] at h
        obtain ⟨i1, i2⟩ := ih _ _ _ _ _ h
        rw [List.length_append, List.length_singleton] at i1 i2
        refine ⟨by omega, fun k => ?_⟩
        rw [runM_eq, if_neg h1, if_neg h2]
        cases k with
        | zero => exact ⟨fun h3 => by omega, fun _ => rfl⟩
        | succ k =>
          dsimp only
          rw [ho]
          exact ⟨fun h3 => (i2 k).1 (by omega), fun h3 => (i2 k).2 (by omega)⟩
theorem walkM_limit {p sz lim o : Int} {cd : List In4} {l : List Stp} {out : Int} {mem : List (Int × Int)} (h : walkM p sz cd lim = .done l out mem) (h0 : 0 ≤ o) (h1 : o ≤ 16384) :
    ((l.length : Int) - 1 ≤ o → walkM p sz cd o = .done l out mem) ∧ (o < (l.length : Int) - 1 → walkM p sz cd o = .no 8) := by
  unfold walkM at h
  split at h
  · rename_i hf
    have hf2 : faultM p sz cd.length o = 0 := by
      unfold faultM at hf ⊢
      split at hf
      · cases hf
      · rename_i h2
        rw [if_neg h2, if_neg (by omega)]
    obtain ⟨i1, i2⟩ := runM_limit _ _ _ _ _ _ h
    unfold walkM
    rw [if_pos hf2]
    have := i2 o.toNat
    simp only [List.length_nil] at i1 this
    exact ⟨fun h3 => this.1 (by omega), fun h3 => this.2 (by omega)⟩
  · cases h
/-- What steps note is what was told. -/
theorem runM_told {p : Int} (hp : 2 ≤ p) {cd : List In4} : ∀ (n : Nat) (L : List Stp) (s : Ms) (l : List Stp) (out : Int) (mem : List (Int × Int)), Okm p s → runM p cd n L s = .done l out mem → (∀ t ∈ L, ∀ c ∈ t.acc, lk s.mem c.1 = some c.2) →
    (∀ t ∈ l, ∀ c ∈ t.acc, lk mem c.1 = some c.2) ∧ ∀ j y, lk s.mem j = some y → lk mem j = some y := by
  intro n
  have hh : ∀ (L : List Stp) (s : Ms) (l : List Stp) (out i : Int) (mem : List (Int × Int)), Okm p s → (match s.blank.look i with
        | .no e => Rw.no e
        | .go v s' => .done (L ++ [s.note s'.acc]) v s'.mem) = .done l out mem → (∀ t ∈ L, ∀ c ∈ t.acc, lk s.mem c.1 = some c.2) →
    (∀ t ∈ l, ∀ c ∈ t.acc, lk mem c.1 = some c.2) ∧ ∀ j y, lk s.mem j = some y → lk mem j = some y := by
    intro L s l out i mem h hr hL
    obtain ⟨s', h1, rfl, rfl⟩ := halt_done hr
    obtain ⟨h2, h3, rfl⟩ := look_ok (blank_ok h) h1
    refine ⟨fun t ht c hc => ?_, fun j y hj => hj⟩
    rw [List.mem_append, List.mem_singleton] at ht
    rcases ht with ht | rfl
    · exact hL t ht c hc
    · exact h2.acc c hc
  induction n with
  | zero =>
    intro L s l out mem h hr hL
    rw [runM_eq] at hr
    by_cases h1 : (cd.length : Int) ≤ s.pc
    · rw [if_pos h1] at hr; cases hr
    rw [if_neg h1] at hr
    by_cases h2 : (nthI cd s.pc.toNat).op = 0
    · rw [if_pos h2] at hr; exact hh _ _ _ _ _ _ h hr hL
    · rw [if_neg h2] at hr; cases hr
  | succ n ih =>
    intro L s l out mem h hr hL
    rw [runM_eq] at hr
    by_cases h1 : (cd.length : Int) ≤ s.pc
    · rw [if_pos h1] at hr; cases hr
    rw [if_neg h1] at hr
    by_cases h2 : (nthI cd s.pc.toNat).op = 0
    · rw [if_pos h2] at hr; exact hh _ _ _ _ _ _ h hr hL
    · rw [if_neg h2] at hr
      dsimp only at hr
      cases ho : s.blank.one p (nthI cd s.pc.toNat) with
      | no e => rw [ho] at hr; cases hr
      | go v s' =>
        rw [ho] at hr
        have ha := one_aft hp (blank_ok h) ho
        obtain ⟨i1, i2⟩ := ih _ _ _ _ _ ha.ok hr (fun t ht c hc => by
          rw [List.mem_append, List.mem_singleton] at ht
          rcases ht with ht | rfl
          · exact ha.keep _ _ (hL t ht c hc)
          · exact ha.ok.acc c hc)
        exact ⟨i1, fun j y hj => i2 j y (ha.keep _ _ hj)⟩
/-- A place and what it is, as a step tells them. -/
theorem acc_or (l : List (Int × Int)) (j : Nat) : (accA l j = 0 ∧ accI l j = 0) ∨ (accA l j, accI l j) ∈ l := by
  unfold accA accI
  by_cases h : j < l.length
  · right
    rw [List.getD_eq_getElem?_getD, List.getElem?_eq_getElem h]
    exact List.getElem_mem h
  · left
    rw [List.getD_eq_getElem?_getD, List.getElem?_eq_none (by omega)]
    exact ⟨rfl, rfl⟩
theorem walkM_told {p sz lim : Int} {cd : List In4} {l : List Stp} {out : Int} {mem : List (Int × Int)} (hp : 2 ≤ p) (h : walkM p sz cd lim = .done l out mem) :
    (∀ t ∈ l, ∀ j, lk mem (accA t.acc j) = some (accI t.acc j)) ∧ lk mem 0 = some 0 := by
  unfold walkM at h
  split at h
  · obtain ⟨h1, h2⟩ := runM_told hp _ _ _ _ _ _ (start_ok hp) h (fun t ht => by simp at ht)
    have h0 : lk mem 0 = some 0 := h2 0 0 rfl
    refine ⟨fun t ht j => ?_, h0⟩
    rcases acc_or t.acc j with ⟨e1, e2⟩ | e
    · rw [e1, e2]; exact h0
    · exact h1 t ht _ e
  · cases h
/-- A stop has a number. -/
def NZ (r : Rs) : Prop := ∀ k, r = .no k → k ≠ 0
theorem nz_no {k : Int} (h : k ≠ 0) : NZ (.no k) := by
  intro j e; injection e with e; rw [← e]; exact h
theorem nz_go {v : Int} {s : Ms} : NZ (.go v s) := fun _ e => by cases e
theorem nz_look (s : Ms) (i : Int) : NZ (s.look i) := by
  unfold Ms.look
  split
  · exact nz_no (by decide)
  · exact nz_go
theorem nz_tell (s : Ms) (i x : Int) : NZ (s.tell i x) := by
  unfold Ms.tell
  split
  · split
    · exact nz_go
    · exact nz_no (by decide)
  · exact nz_go
theorem nz_bind {r : Rs} {f : Int → Ms → Rs} (h : NZ r) (h2 : ∀ v s, NZ (f v s)) : NZ (r.bind f) := by
  cases r with
  | go v s => exact h2 v s
  | no e => exact fun k hk => h k hk
theorem nz_one (p : Int) (s : Ms) (x : In4) : NZ (s.one p x) := by
  unfold Ms.one
  have hto : ∀ n u t, NZ (Ms.to n u t) := fun _ _ _ => nz_go
  split
  · refine nz_bind ?_ (fun _ _ => hto _ _ _)
    unfold Ms.comp
    refine nz_bind (nz_look _ _) (fun u t => nz_bind (nz_look _ _) (fun v t2 => ?_))
    split
    · exact nz_no (by decide)
    · exact nz_tell _ _ _
  split
  · exact nz_bind (nz_tell _ _ _) (fun _ _ => hto _ _ _)
  split
  · refine nz_bind (nz_look _ _) (fun u t => nz_bind (nz_look _ _) (fun v t2 => ?_))
    split
    · exact hto _ _ _
    · exact nz_no (by decide)
  split
  · exact hto _ _ _
  split
  · exact nz_bind (nz_look _ _) (fun _ _ => hto _ _ _)
  split
  · exact nz_bind (nz_tell _ _ _) (fun _ _ => nz_bind (nz_tell _ _ _) (fun _ _ => nz_go))
  split
  · exact nz_bind (nz_look _ _) (fun _ _ => nz_bind (nz_look _ _) (fun _ _ => nz_bind (nz_look _ _) (fun _ _ => nz_go)))
  split
  · exact nz_bind (nz_tell _ _ _) (fun _ _ => hto _ _ _)
  split
  · exact nz_bind (nz_look _ _) (fun _ _ => nz_bind (nz_tell _ _ _) (fun _ _ => hto _ _ _))
  exact nz_no (by decide)
theorem runM_nz (p : Int) (cd : List In4) (n : Nat) : ∀ (l : List Stp) (s : Ms) (k : Int), runM p cd n l s = .no k → k ≠ 0 := by
  induction n with
  | zero =>
    intro l s k h
    unfold runM at h
    split at h
    · injection h with h; omega
    split at h
    · split at h
      · rename_i e he
        injection h with h; subst h
        exact nz_look _ _ _ he
      · cases h
    · injection h with h; omega
  | succ n ih =>
    intro l s k h
    unfold runM at h
    split at h
    · injection h with h; omega
    split at h
    · split at h
      · rename_i e he
        injection h with h; subst h
        exact nz_look _ _ _ he
      · cases h
    · split at h
      · rename_i e he
        injection h with h; subst h
        exact nz_one _ _ _ _ he
      · exact ih _ _ _ h
theorem walkM_nz {p sz lim : Int} {cd : List In4} {k : Int} (h : walkM p sz cd lim = .no k) : k ≠ 0 := by
  unfold walkM at h
  split at h
  · exact runM_nz _ _ _ _ _ _ h
  · rename_i hf
    injection h with h; subst h
    exact hf
end Go.Att
