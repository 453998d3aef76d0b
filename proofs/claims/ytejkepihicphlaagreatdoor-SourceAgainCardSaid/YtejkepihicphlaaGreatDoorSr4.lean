/- Programs as text, in plain words: what is written is read as what it was. No program in sight. -/
import Derived.Test.YtejkepihicphlaaGreatDoorSr3
import Derived.Lib.AtoiAllCases
namespace Go.Att
structure NameOk (s : List UInt8) : Prop where
  kind : kindW s = 1
  own : s ∉ ownW
  len : s.length ≤ 16
  all : ∀ c ∈ s, joinC c = true
  ne : s ≠ []
mutual
inductive FitB : Nat → Tr → Prop
  | num {k : Nat} {n : Int} {p : Nat} (h0 : 0 ≤ n) (h1 : n ≤ 9223372036854775807) : FitB k (.mk 0 n [] [] p)
  | name {k : Nat} {s : List UInt8} {p : Nat} (h : NameOk s) : FitB k (.mk 1 0 s [] p)
  | bin {k kd : Nat} {a b : Tr} {p : Nat} (hk : kd = 2 ∨ kd = 3 ∨ kd = 4 ∨ kd = 5) (ha : Fit k (lvT kd) a) (hb : Fit k (lvT kd + 1) b) : FitB k (.mk kd 0 [] [a, b] p)
  | same {k : Nat} {a b : Tr} {p : Nat} (ha : Fit k 2 a) (hb : Fit k 2 b) : FitB k (.mk 6 0 [] [a, b] p)
  | neg {k : Nat} {a : Tr} {p : Nat} (ha : Fit k 4 a) : FitB (k + 1) (.mk 7 0 [] [a] p)
  | letB {k : Nat} {s : List UInt8} {a b : Tr} {p : Nat} (h : NameOk s) (ha : Fit k 0 a) (hb : Fit k 0 b) : FitB (k + 1) (.mk 8 0 s [a, b] p)
  | need {k : Nat} {a b c : Tr} {p : Nat} (ha : Fit k 2 a) (hb : Fit k 2 b) (hc : Fit k 0 c) : FitB (k + 1) (.mk 9 0 [] [a, b, c] p)
  | ifB {k : Nat} {a b c : Tr} {p : Nat} (ha : Fit k 0 a) (hb : Fit k 0 b) (hc : Fit k 0 c) : FitB (k + 1) (.mk 10 0 [] [a, b, c] p)
  | call {k : Nat} {s : List UInt8} {ks : List Tr} {p : Nat} (h : NameOk s) (hs : ∀ a ∈ ks, Fit k 0 a) : FitB (k + 1) (.mk 11 0 s ks p)
inductive Fit : Nat → Nat → Tr → Prop
  | here {k least : Nat} {t : Tr} (h : least ≤ lvT t.kind) (hf : FitB k t) : Fit k least t
  | inn {k least : Nat} {t : Tr} (h : lvT t.kind < least) (hf : FitB k t) : Fit (k + 1) least t
end
theorem fit_up {t : Tr} (h : ∀ k, FitB k t → FitB (k + 1) t) {k least : Nat} (hf : Fit k least t) : Fit (k + 1) least t := by
  cases hf with
  | here h1 h2 => exact .here h1 (h _ h2)
  | inn h1 h2 => exact .inn h1 (h _ h2)
theorem fitB_up (t : Tr) : ∀ k, FitB k t → FitB (k + 1) t := by
  induction t using Tr.ind with
  | h kd n s ks p ih =>
    intro k hf
    cases hf with
    | num h0 h1 => exact .num h0 h1
    | name h => exact .name h
    | bin hk ha hb => exact .bin hk (fit_up (ih _ (by simp)) ha) (fit_up (ih _ (by simp)) hb)
    | same ha hb => exact .same (fit_up (ih _ (by simp)) ha) (fit_up (ih _ (by simp)) hb)
    | neg ha => exact .neg (fit_up (ih _ (by simp)) ha)
    | letB h ha hb => exact .letB h (fit_up (ih _ (by simp)) ha) (fit_up (ih _ (by simp)) hb)
    | need ha hb hc => exact .need (fit_up (ih _ (by simp)) ha) (fit_up (ih _ (by simp)) hb) (fit_up (ih _ (by simp)) hc)
    | ifB ha hb hc => exact .ifB (fit_up (ih _ (by simp)) ha) (fit_up (ih _ (by simp)) hb) (fit_up (ih _ (by simp)) hc)
    | call h hs => exact .call h fun a ha => fit_up (ih a ha) (hs a ha)
theorem fit_loose {k a b : Nat} {t : Tr} (hf : Fit k a t) (h : b ≤ a) : Fit k b t := by
  cases hf with
  | here h1 h2 => exact .here (by omega) h2
  | inn h1 h2 =>
    by_cases e : lvT t.kind < b
    · exact .inn e h2
    · exact .here (by omega) (fitB_up _ _ h2)
section
variable {L : List UInt8}
theorem tokN_word {L : List UInt8} {i : Nat} (h : (tokN L i).kind = 1 ∨ (tokN L i).kind = 2) : (tokN L i).kind = kindW (tokN L i).txt ∧ (∀ c ∈ (tokN L i).txt, joinC c = true) ∧ (tokN L i).txt ≠ [] := by
  unfold tokN tokL at *
  split at h
  · simp at h
  · split at h
    · rename_i c t heq hj
      rw [if_pos hj]
      refine ⟨rfl, fun c hc => ?_, ?_⟩
      · exact (List.all_eq_true.mp (List.all_takeWhile (l := _) (p := joinC))) c hc
      · show List.takeWhile joinC (L.drop _) ≠ []
        rw [heq, List.takeWhile_cons, if_pos hj]; simp
    · split at h
      · simp at h
      · split at h <;> simp at h
theorem name_ok {i j : Nat} {s : List UInt8 × Nat} (h : nameT L i = .ok s j) : NameOk s.1 := by
  unfold nameT at h
  split at h
  · cases h
  · rename_i h1
    split at h
    · cases h
    · rename_i h2
      cases h
      simp only [not_or, Decidable.not_not] at h1
      obtain ⟨h3, h4⟩ := h1
      obtain ⟨h5, h6, h7⟩ := tokN_word (.inl h3)
      exact ⟨by rw [← h5, h3], h4, Nat.le_of_not_lt h2, h6, h7⟩
theorem atoi_digits {s : List UInt8} {n : Int} (h : Lib.atoiAll s = .ok n) (hk : kindW s = 2) (hne : s ≠ []) : 0 ≤ n ∧ n ≤ 9223372036854775807 := by
  cases s with
  | nil => exact absurd rfl hne
  | cons c r =>
    unfold kindW at hk
    split at hk
    · cases hk
    · split at hk
      · rename_i h1 h2
        simp only [List.all_cons, Bool.and_eq_true] at h2
        have hc := h2.1.1
        unfold digC at hc
        simp only [Bool.and_eq_true, decide_eq_true_eq] at hc
        rw [Lib.atoiAll_plain c r (by omega) (by omega)] at h
        unfold Lib.signless at h
        split at h
        · cases h
        · cases h
        · split at h
          · cases h
          · cases h; omega
      · cases hk
theorem fits_lefts {next : Nat → Ps Tr} {k kd1 kd2 : Nat} {a b : List UInt8} (hk1 : kd1 = 2 ∨ kd1 = 3 ∨ kd1 = 4 ∨ kd1 = 5) (hk2 : kd2 = 2 ∨ kd2 = 3 ∨ kd2 = 4 ∨ kd2 = 5) (hlv : lvT kd2 = lvT kd1) (hn : ∀ i t j, next i = .ok t j → Fit k (lvT kd1 + 1) t) :
    ∀ n x i t j, Fit k (lvT kd1) x → leftsT L next a kd1 b kd2 n x i = .ok t j → Fit k (lvT kd1) t
  | 0, _, _, _, _, _, h => by cases h
  | n + 1, x, i, t, j, hx, h => by
    rw [leftsT] at h
    split at h
    · obtain ⟨y, m, h1, h2⟩ := bind_ok.mp h
      exact fits_lefts hk1 hk2 hlv hn n _ _ _ _ (.here (Nat.le_refl _) (.bin hk1 hx (hn _ _ _ h1))) h2
    · split at h
      · obtain ⟨y, m, h1, h2⟩ := bind_ok.mp h
        exact fits_lefts hk1 hk2 hlv hn n _ _ _ _ (.here (by show lvT kd1 ≤ lvT kd2; omega) (.bin hk2 (by rw [hlv]; exact hx) (by rw [hlv]; exact hn _ _ _ h1))) h2
      · cases h; exact hx
theorem fits_join {next : Nat → Ps Tr} {k kd1 kd2 : Nat} {a b : List UInt8} (hk1 : kd1 = 2 ∨ kd1 = 3 ∨ kd1 = 4 ∨ kd1 = 5) (hk2 : kd2 = 2 ∨ kd2 = 3 ∨ kd2 = 4 ∨ kd2 = 5) (hlv : lvT kd2 = lvT kd1) (hn : ∀ i t j, next i = .ok t j → Fit k (lvT kd1 + 1) t) (i : Nat) (t : Tr) (j : Nat) (h : joinT L next a kd1 b kd2 i = .ok t j) : Fit k (lvT kd1) t := by
  unfold joinT at h
  obtain ⟨y, m, h1, h2⟩ := bind_ok.mp h
  exact fits_lefts hk1 hk2 hlv hn _ _ _ _ _ (fit_loose (hn _ _ _ h1) (by omega)) h2
theorem fits_sum {part : Nat → Ps Tr} {k : Nat} (hn : ∀ i t j, part i = .ok t j → Fit k 4 t) (i : Nat) (t : Tr) (j : Nat) (h : sumT L part i = .ok t j) : Fit k 2 t :=
  fits_join (kd1 := 2) (kd2 := 3) (by simp) (by simp) rfl (fun i t j h => fits_join (kd1 := 4) (kd2 := 5) (by simp) (by simp) rfl hn i t j h) i t j h
theorem fits_more {α : Type} {one : Nat → Ps α} {Q : α → Prop} (h1 : ∀ i x j, one i = .ok x j → Q x) : ∀ n acc i l j, (∀ x ∈ acc, Q x) → moreT L one n acc i = .ok l j → ∀ x ∈ l, Q x
  | 0, _, _, _, _, _, h => by cases h
  | n + 1, acc, i, l, j, ha, h => by
    rw [moreT] at h
    split at h
    · obtain ⟨y, m, h2, h3⟩ := bind_ok.mp h
      refine fits_more h1 n _ _ _ _ (fun x hx => ?_) h3
      rcases List.mem_append.mp hx with e | e
      · exact ha x e
      · rw [List.mem_singleton.mp e]; exact h1 _ _ _ h2
    · obtain ⟨y, m, h2, h3⟩ := bind_ok.mp h
      cases h3; exact ha
theorem fits_list {α : Type} {one : Nat → Ps α} {Q : α → Prop} {k i j : Nat} {l : List α} (h1 : ∀ i x j, one i = .ok x j → Q x) (h : listT L k one i = .ok l j) : k ≠ 0 ∧ ∀ x ∈ l, Q x := by
  unfold listT at h
  split at h
  · obtain ⟨y, m, h2, h3⟩ := bind_ok.mp h
    obtain ⟨h0, rfl⟩ := enter_ok.mp h2
    refine ⟨h0, ?_⟩
    split at h3
    · cases h3; simp
    · obtain ⟨y, m, h4, h5⟩ := bind_ok.mp h3
      exact fits_more h1 _ _ _ _ _ (by intro x hx; rw [List.mem_singleton.mp hx]; exact h1 _ _ _ h4) h5
  · cases h
theorem fits_read : ∀ k, (∀ i t j, (readT L k).1 i = .ok t j → ∃ m, k = m + 1 ∧ Fit m 4 t) ∧ (∀ i t j, (readT L k).2 i = .ok t j → ∃ m, k = m + 1 ∧ Fit m 0 t)
  | 0 => ⟨fun _ _ _ h => (by cases h), fun _ _ _ h => (by cases h)⟩
  | k + 1 => by
    obtain ⟨hP, hE⟩ := fits_read k
    have hp : ∀ i t j, (readT L (k + 1)).1 i = .ok t j → Fit k 4 t := by
      intro i t j h
      change partT L k _ _ i = _ at h
      unfold partT at h
      split at h
      · rename_i hk
        split at h
        · rename_i n hn
          cases h
          obtain ⟨h5, h6, h7⟩ := tokN_word (.inr hk)
          obtain ⟨a1, a2⟩ := atoi_digits hn (by rw [← h5, hk]) h7
          exact .here (Nat.le_refl 4) (.num a1 a2)
        · cases h
      · split at h
        · obtain ⟨_, m, e1, h⟩ := bind_ok.mp h
          obtain ⟨hk, rfl⟩ := enter_ok.mp e1
          obtain ⟨x, m, e2, h⟩ := bind_ok.mp h
          obtain ⟨_, m', e3, h⟩ := bind_ok.mp h
          cases h
          obtain ⟨q, rfl, hf⟩ := hE _ _ _ e2
          cases hf with
          | here g1 g2 =>
            by_cases e : lvT t.kind < 4
            · exact .inn e g2
            · exact .here (by omega) (fitB_up _ _ g2)
          | inn g1 g2 => omega
        · split at h
          · obtain ⟨_, m, e1, h⟩ := bind_ok.mp h
            obtain ⟨hk, rfl⟩ := enter_ok.mp e1
            obtain ⟨x, m, e2, h⟩ := bind_ok.mp h
            cases h
            obtain ⟨q, rfl, hf⟩ := hP _ _ _ e2
            exact .here (Nat.le_refl 4) (.neg hf)
          · obtain ⟨s, m, e1, h⟩ := bind_ok.mp h
            have hs := name_ok e1
            split at h
            · obtain ⟨ks, m, e2, h⟩ := bind_ok.mp h
              cases h
              obtain ⟨hk, hq⟩ := fits_list (Q := fun t => ∃ m, k = m + 1 ∧ Fit m 0 t) hE e2
              obtain ⟨q, rfl⟩ := Nat.exists_eq_succ_of_ne_zero hk
              exact .here (Nat.le_refl 4) (.call hs fun a ha => by
                obtain ⟨m, e, hf⟩ := hq a ha
                cases e; exact hf)
            · cases h
              exact .here (Nat.le_refl 4) (.name hs)
    refine ⟨fun i t j h => ⟨k, rfl, hp i t j h⟩, fun i t j h => ⟨k, rfl, ?_⟩⟩
    have hS0 := fits_sum (L := L) hp
    have hS : ∀ i t j, sumT L (readT L k).1 i = .ok t j → ∃ m, k = m + 1 ∧ Fit m 2 t := by
      intro i t j h
      cases k with
      | zero =>
        unfold sumT joinT at h
        obtain ⟨_, _, h, _⟩ := bind_ok.mp h
        unfold prodT joinT at h
        obtain ⟨_, _, h, _⟩ := bind_ok.mp h
        cases h
      | succ m =>
        refine ⟨m, rfl, fits_sum (fun i t j h => ?_) i t j h⟩
        obtain ⟨q, e, hf⟩ := hP i t j h
        cases e; exact hf
    change exprT L k _ _ _ i = _ at h
    unfold exprT at h
    split at h
    · obtain ⟨_, m, e1, h⟩ := bind_ok.mp h
      obtain ⟨hk, rfl⟩ := enter_ok.mp e1
      obtain ⟨s, m, e2, h⟩ := bind_ok.mp h
      obtain ⟨_, m, e3, h⟩ := bind_ok.mp h
      obtain ⟨a, m, e4, h⟩ := bind_ok.mp h
      obtain ⟨_, m, e5, h⟩ := bind_ok.mp h
      obtain ⟨b, m, e6, h⟩ := bind_ok.mp h
      cases h
      obtain ⟨q, rfl, ha⟩ := hE _ _ _ e4
      obtain ⟨q', e, hb⟩ := hE _ _ _ e6
      cases e
      exact .here (Nat.zero_le _) (.letB (name_ok e2) ha hb)
    · split at h
      · obtain ⟨_, m, e1, h⟩ := bind_ok.mp h
        obtain ⟨a, m, e2, h⟩ := bind_ok.mp h
        obtain ⟨_, m, e3, h⟩ := bind_ok.mp h
        obtain ⟨b, m, e4, h⟩ := bind_ok.mp h
        obtain ⟨_, m, e5, h⟩ := bind_ok.mp h
        obtain ⟨c, m, e6, h⟩ := bind_ok.mp h
        cases h
        obtain ⟨q, rfl, ha⟩ := hS _ _ _ e2
        obtain ⟨q', e, hb⟩ := hS _ _ _ e4
        cases e
        obtain ⟨q', e, hc⟩ := hE _ _ _ e6
        cases e
        exact .here (Nat.zero_le _) (.need ha hb hc)
      · split at h
        · obtain ⟨_, m, e1, h⟩ := bind_ok.mp h
          obtain ⟨a, m, e2, h⟩ := bind_ok.mp h
          obtain ⟨_, m, e3, h⟩ := bind_ok.mp h
          obtain ⟨b, m, e4, h⟩ := bind_ok.mp h
          obtain ⟨_, m, e5, h⟩ := bind_ok.mp h
          obtain ⟨c, m, e6, h⟩ := bind_ok.mp h
          cases h
          obtain ⟨q, rfl, ha⟩ := hE _ _ _ e2
          obtain ⟨q', e, hb⟩ := hE _ _ _ e4
          cases e
          obtain ⟨q', e, hc⟩ := hE _ _ _ e6
          cases e
          exact .here (Nat.zero_le _) (.ifB ha hb hc)
        · obtain ⟨a, m, e2, h⟩ := bind_ok.mp h
          have ha := hS0 _ _ _ e2
          split at h
          · obtain ⟨b, m', e3, h⟩ := bind_ok.mp h
            cases h
            exact .here (Nat.zero_le _) (.same ha (hS0 _ _ _ e3))
          · cases h
            exact fit_loose ha (by omega)
end
end Go.Att
