/- Programs as text, in plain words: a token by what stands behind a place; how far reading goes. No program in sight. -/
import Derived.Test.YtejkepihicphlaaGreatDoorZx12
namespace Go.Att
theorem skipL_le : ∀ (b : Bool) (l : List UInt8), skipL b l ≤ l.length
  | _, [] => by simp [skipL]
  | false, c :: t => by
    have h1 := skipL_le false t
    have h2 := skipL_le true t
    rw [skipL]; simp only [List.length_cons]
    split
    · omega
    · split <;> omega
  | true, c :: t => by
    have h1 := skipL_le false t
    have h2 := skipL_le true t
    rw [skipL]; simp only [List.length_cons]
    split <;> omega
def stripS (r : List UInt8) : List UInt8 := r.drop (skipL false r)
def tkS (r : List UInt8) : Tk := tokL (stripS r) 0
def advS (r : List UInt8) : List UInt8 := (stripS r).drop (tkS r).txt.length
def isS (r s : List UInt8) : Bool := (decide ((tkS r).kind = 3) || decide ((tkS r).kind = 1)) && decide ((tkS r).txt = s)
theorem tokL_pos (s : List UInt8) (k : Nat) : tokL s k = { tokL s 0 with pos := k } := by
  unfold tokL
  cases s with
  | nil => rfl
  | cons c t => simp only; split; rfl; split; rfl; split <;> rfl
theorem tokL_len (s : List UInt8) (k : Nat) : (tokL s k).txt.length ≤ s.length := by
  unfold tokL
  cases s with
  | nil => simp
  | cons c t =>
    simp only
    split
    · exact (List.takeWhile_prefix _).length_le
    · split
      · rename_i h
        cases t with
        | nil => simp at h
        | cons d t => simp
      · split <;> simp
theorem kindW_ne (s : List UInt8) : kindW s ≠ 0 := by unfold kindW; split; simp; split <;> simp
theorem tokL_pos0 (s : List UInt8) (k : Nat) : (tokL s k).kind = 0 ↔ s = [] := by
  unfold tokL
  cases s with
  | nil => simp
  | cons c t =>
    simp only
    split
    · simp [kindW_ne]
    · split
      · simp
      · split <;> simp
theorem tokL_txt0 (s : List UInt8) (k : Nat) : (tokL s k).txt = [] ↔ s = [] := by
  unfold tokL
  cases s with
  | nil => simp
  | cons c t =>
    simp only
    split
    · rename_i h
      rw [List.takeWhile_cons, if_pos h]; simp
    · split
      · simp
      · split <;> simp
section
variable {L r : List UInt8} {i : Nat}
theorem tokN_at (h : L.drop i = r) : (tokN L i).kind = (tkS r).kind ∧ (tokN L i).txt = (tkS r).txt ∧ L.drop (nxtN L i) = advS r := by
  have h1 : L.drop (i + skipL false r) = stripS r := by rw [← List.drop_drop, h]; rfl
  have h2 : tokN L i = { tkS r with pos := i + skipL false r } := by
    unfold tokN; rw [h, h1, tokL_pos]; rfl
  refine ⟨by rw [h2], by rw [h2], ?_⟩
  unfold nxtN
  rw [h2]
  simp only
  rw [← List.drop_drop, h1]
  rfl
theorem isT_at (h : L.drop i = r) (s : List UInt8) : isT L i s = isS r s := by
  unfold isT isS; rw [(tokN_at h).1, (tokN_at h).2.1]
theorem nxt_at (h : L.drop i = r) : L.drop (nxtN L i) = advS r := (tokN_at h).2.2
end
theorem nxtN_le (L : List UInt8) (i : Nat) (h : i ≤ L.length) : nxtN L i ≤ L.length := by
  unfold nxtN tokN
  have h1 := skipL_le false (L.drop i)
  have h2 := tokL_len (L.drop (i + skipL false (L.drop i))) (i + skipL false (L.drop i))
  rw [tokL_pos]
  rw [tokL_pos] at h2
  simp only [List.length_drop] at h1 h2 ⊢
  omega
theorem nxtN_ge (L : List UInt8) (i : Nat) : i ≤ nxtN L i := by
  unfold nxtN tokN
  rw [tokL_pos]
  simp only
  omega
theorem nxtN_gt (L : List UInt8) (i : Nat) (h : (tokN L i).kind ≠ 0) : i < nxtN L i ∧ i < L.length := by
  unfold nxtN tokN at *
  have h0 : (L.drop (i + skipL false (L.drop i))) ≠ [] := fun e => h (by rw [e]; rfl)
  have h3 : (tokL (L.drop (i + skipL false (L.drop i))) (i + skipL false (L.drop i))).txt ≠ [] := fun e => h0 ((tokL_txt0 _ _).mp e)
  have h4 := List.length_pos_iff.mpr h3
  have h5 := List.length_pos_iff.mpr h0
  rw [tokL_pos] at h4 ⊢
  simp only [List.length_drop] at h4 h5 ⊢
  omega
theorem isT_kind {L : List UInt8} {i : Nat} {s : List UInt8} (h : isT L i s = true) : (tokN L i).kind ≠ 0 := by
  unfold isT at h
  intro e
  rw [e] at h
  simp at h
theorem isT_gt {L : List UInt8} {i : Nat} {s : List UInt8} (h : isT L i s = true) : i < nxtN L i ∧ i < L.length := nxtN_gt L i (isT_kind h)
def Mono {α : Type} (L : List UInt8) (f : Nat → Ps α) : Prop := ∀ i x j, i ≤ L.length → f i = .ok x j → i ≤ j ∧ j ≤ L.length
theorem bind_ok {α β : Type} {r : Ps α} {f : α → Nat → Ps β} {y : β} {j : Nat} : r.bind f = .ok y j ↔ ∃ x i, r = .ok x i ∧ f x i = .ok y j := by
  cases r with
  | ok x i =>
    constructor
    · intro h; exact ⟨x, i, rfl, h⟩
    · rintro ⟨_, _, e, h⟩; cases e; exact h
  | bad a e => simp [Ps.bind]
section
variable {L : List UInt8}
theorem must_ok {i : Nat} {s : List UInt8} {u : Unit} {j : Nat} : mustT L i s = .ok u j ↔ isT L i s = true ∧ j = nxtN L i := by
  unfold mustT; split
  · rename_i h; simp [h, eq_comm]
  · rename_i h; simp [h]
theorem enter_ok {k i : Nat} {u : Unit} {j : Nat} : enterT L k i = .ok u j ↔ k ≠ 0 ∧ j = nxtN L i := by
  unfold enterT; split
  · rename_i h; simp [h]
  · rename_i h; simp [h, eq_comm]
theorem mono_must (s : List UInt8) : Mono L fun i => mustT L i s := fun i x j hi h => by
  obtain ⟨_, rfl⟩ := must_ok.mp h
  exact ⟨nxtN_ge L i, nxtN_le L i hi⟩
theorem mono_name : Mono L (nameT L) := fun i x j hi h => by
  unfold nameT at h
  split at h
  · cases h
  · split at h
    · cases h
    · cases h; exact ⟨nxtN_ge L i, nxtN_le L i hi⟩
theorem mono_more {α : Type} {one : Nat → Ps α} (h1 : Mono L one) : ∀ n acc, Mono L (moreT L one n acc)
  | 0, _ => fun i x j _ h => by cases h
  | n + 1, acc => fun i x j hi h => by
    rw [moreT] at h
    split at h
    · obtain ⟨y, m, h2, h3⟩ := bind_ok.mp h
      obtain ⟨a1, a2⟩ := h1 _ _ _ (nxtN_le L i hi) h2
      obtain ⟨a3, a4⟩ := mono_more h1 n _ _ _ _ a2 h3
      have := nxtN_ge L i
      exact ⟨by omega, a4⟩
    · obtain ⟨y, m, h2, h3⟩ := bind_ok.mp h
      cases h3
      exact mono_must _ _ _ _ hi h2
theorem mono_list {α : Type} {one : Nat → Ps α} (h1 : Mono L one) (k : Nat) : Mono L (listT L k one) := fun i x j hi h => by
  unfold listT at h
  split at h
  · obtain ⟨y, m, h2, h3⟩ := bind_ok.mp h
    obtain ⟨_, rfl⟩ := enter_ok.mp h2
    have g1 := nxtN_ge L i; have g2 := nxtN_le L i hi
    split at h3
    · cases h3
      exact ⟨Nat.le_trans g1 (nxtN_ge L _), nxtN_le L _ g2⟩
    · obtain ⟨y, m, h4, h5⟩ := bind_ok.mp h3
      obtain ⟨a1, a2⟩ := h1 _ _ _ g2 h4
      obtain ⟨a3, a4⟩ := mono_more h1 _ _ _ _ _ a2 h5
      exact ⟨by omega, a4⟩
  · cases h
theorem mono_lefts {next : Nat → Ps Tr} (h1 : Mono L next) (a : List UInt8) (ka : Nat) (b : List UInt8) (kb : Nat) : ∀ n x, Mono L (leftsT L next a ka b kb n x)
  | 0, _ => fun i x j _ h => by cases h
  | n + 1, acc => fun i x j hi h => by
    rw [leftsT] at h
    have g1 := nxtN_ge L i; have g2 := nxtN_le L i hi
    split at h
    · obtain ⟨y, m, h2, h3⟩ := bind_ok.mp h
      obtain ⟨a1, a2⟩ := h1 _ _ _ g2 h2
      obtain ⟨a3, a4⟩ := mono_lefts h1 a ka b kb n _ _ _ _ a2 h3
      exact ⟨by omega, a4⟩
    · split at h
      · obtain ⟨y, m, h2, h3⟩ := bind_ok.mp h
        obtain ⟨a1, a2⟩ := h1 _ _ _ g2 h2
        obtain ⟨a3, a4⟩ := mono_lefts h1 a ka b kb n _ _ _ _ a2 h3
        exact ⟨by omega, a4⟩
      · cases h; exact ⟨Nat.le_refl _, hi⟩
theorem mono_join {next : Nat → Ps Tr} (h1 : Mono L next) (a : List UInt8) (ka : Nat) (b : List UInt8) (kb : Nat) : Mono L (joinT L next a ka b kb) := fun i x j hi h => by
  unfold joinT at h
  obtain ⟨y, m, h2, h3⟩ := bind_ok.mp h
  obtain ⟨a1, a2⟩ := h1 _ _ _ hi h2
  obtain ⟨a3, a4⟩ := mono_lefts h1 a ka b kb _ _ _ _ _ a2 h3
  exact ⟨by omega, a4⟩
theorem mono_sum {part : Nat → Ps Tr} (h1 : Mono L part) : Mono L (sumT L part) := mono_join (mono_join h1 _ _ _ _) _ _ _ _
theorem mono_part {k : Nat} {P E : Nat → Ps Tr} (h1 : Mono L P) (h2 : Mono L E) : Mono L (partT L k P E) := fun i x j hi h => by
  have g1 := nxtN_ge L i; have g2 := nxtN_le L i hi
  unfold partT at h
  split at h
  · split at h
    · cases h; exact ⟨g1, g2⟩
    · cases h
  · split at h
    · obtain ⟨y, m, h3, h⟩ := bind_ok.mp h
      obtain ⟨_, rfl⟩ := enter_ok.mp h3
      obtain ⟨y, m, h4, h⟩ := bind_ok.mp h
      obtain ⟨a1, a2⟩ := h2 _ _ _ g2 h4
      obtain ⟨y, m, h5, h⟩ := bind_ok.mp h
      obtain ⟨a3, a4⟩ := mono_must _ _ _ _ a2 h5
      cases h
      exact ⟨by omega, a4⟩
    · split at h
      · obtain ⟨y, m, h3, h⟩ := bind_ok.mp h
        obtain ⟨_, rfl⟩ := enter_ok.mp h3
        obtain ⟨y, m, h4, h⟩ := bind_ok.mp h
        obtain ⟨a1, a2⟩ := h1 _ _ _ g2 h4
        cases h
        exact ⟨by omega, a2⟩
      · obtain ⟨y, m, h3, h⟩ := bind_ok.mp h
        obtain ⟨a1, a2⟩ := mono_name _ _ _ hi h3
        split at h
        · obtain ⟨y, m, h4, h⟩ := bind_ok.mp h
          obtain ⟨a3, a4⟩ := mono_list h2 _ _ _ _ a2 h4
          cases h
          exact ⟨by omega, a4⟩
        · cases h; exact ⟨a1, a2⟩
theorem mono_expr {k : Nat} {S E S0 : Nat → Ps Tr} (h1 : Mono L S) (h2 : Mono L E) (h3 : Mono L S0) : Mono L (exprT L k S E S0) := fun i x j hi h => by
  have g1 := nxtN_ge L i; have g2 := nxtN_le L i hi
  unfold exprT at h
  split at h
  · obtain ⟨_, m, e1, h⟩ := bind_ok.mp h
    obtain ⟨_, rfl⟩ := enter_ok.mp e1
    obtain ⟨_, m, e1, h⟩ := bind_ok.mp h
    obtain ⟨a1, a2⟩ := mono_name _ _ _ g2 e1
    obtain ⟨_, m, e1, h⟩ := bind_ok.mp h
    obtain ⟨a3, a4⟩ := mono_must _ _ _ _ a2 e1
    obtain ⟨_, m, e1, h⟩ := bind_ok.mp h
    obtain ⟨a5, a6⟩ := h2 _ _ _ a4 e1
    obtain ⟨_, m, e1, h⟩ := bind_ok.mp h
    obtain ⟨a7, a8⟩ := mono_must _ _ _ _ a6 e1
    obtain ⟨_, m, e1, h⟩ := bind_ok.mp h
    obtain ⟨a9, a10⟩ := h2 _ _ _ a8 e1
    cases h
    exact ⟨by omega, a10⟩
  · split at h
    · obtain ⟨_, m, e1, h⟩ := bind_ok.mp h
      obtain ⟨_, rfl⟩ := enter_ok.mp e1
      obtain ⟨_, m, e1, h⟩ := bind_ok.mp h
      obtain ⟨a1, a2⟩ := h1 _ _ _ g2 e1
      obtain ⟨_, m, e1, h⟩ := bind_ok.mp h
      obtain ⟨a3, a4⟩ := mono_must _ _ _ _ a2 e1
      obtain ⟨_, m, e1, h⟩ := bind_ok.mp h
      obtain ⟨a5, a6⟩ := h1 _ _ _ a4 e1
      obtain ⟨_, m, e1, h⟩ := bind_ok.mp h
      obtain ⟨a7, a8⟩ := mono_must _ _ _ _ a6 e1
      obtain ⟨_, m, e1, h⟩ := bind_ok.mp h
      obtain ⟨a9, a10⟩ := h2 _ _ _ a8 e1
      cases h
      exact ⟨by omega, a10⟩
    · split at h
      · obtain ⟨_, m, e1, h⟩ := bind_ok.mp h
        obtain ⟨_, rfl⟩ := enter_ok.mp e1
        obtain ⟨_, m, e1, h⟩ := bind_ok.mp h
        obtain ⟨a1, a2⟩ := h2 _ _ _ g2 e1
        obtain ⟨_, m, e1, h⟩ := bind_ok.mp h
        obtain ⟨a3, a4⟩ := mono_must _ _ _ _ a2 e1
        obtain ⟨_, m, e1, h⟩ := bind_ok.mp h
        obtain ⟨a5, a6⟩ := h2 _ _ _ a4 e1
        obtain ⟨_, m, e1, h⟩ := bind_ok.mp h
        obtain ⟨a7, a8⟩ := mono_must _ _ _ _ a6 e1
        obtain ⟨_, m, e1, h⟩ := bind_ok.mp h
        obtain ⟨a9, a10⟩ := h2 _ _ _ a8 e1
        cases h
        exact ⟨by omega, a10⟩
      · obtain ⟨_, m, e1, h⟩ := bind_ok.mp h
        obtain ⟨a1, a2⟩ := h3 _ _ _ hi e1
        split at h
        · obtain ⟨_, m', e1, h⟩ := bind_ok.mp h
          obtain ⟨a3, a4⟩ := h3 _ _ _ (nxtN_le L _ a2) e1
          have := nxtN_ge L m
          cases h
          exact ⟨by omega, a4⟩
        · cases h; exact ⟨a1, a2⟩
theorem mono_read : ∀ k, Mono L (readT L k).1 ∧ Mono L (readT L k).2
  | 0 => ⟨fun _ _ _ _ h => (by cases h), fun _ _ _ _ h => (by cases h)⟩
  | k + 1 => by
    obtain ⟨h1, h2⟩ := mono_read k
    have hp : Mono L (readT L (k + 1)).1 := mono_part h1 h2
    exact ⟨hp, mono_expr (mono_sum h1) h2 (mono_sum hp)⟩
theorem lefts_fuel {next : Nat → Ps Tr} (h1 : Mono L next) (a : List UInt8) (ka : Nat) (b : List UInt8) (kb : Nat) : ∀ n m x j, j ≤ L.length → L.length + 1 ≤ n + j → L.length + 1 ≤ m + j → leftsT L next a ka b kb n x j = leftsT L next a ka b kb m x j
  | 0, _, _, _, _, _, _ => by omega
  | _, 0, _, _, _, _, _ => by omega
  | n + 1, m + 1, x, j, hj, hn, hm => by
    rw [leftsT, leftsT]
    split
    · rename_i h
      have g := isT_gt h
      have g2 := nxtN_le L j hj
      cases e : next (nxtN L j) with
      | bad p q => rfl
      | ok y i =>
        obtain ⟨a1, a2⟩ := h1 _ _ _ g2 e
        exact lefts_fuel h1 a ka b kb n m _ i a2 (by omega) (by omega)
    · split
      · rename_i h
        have g := isT_gt h
        have g2 := nxtN_le L j hj
        cases e : next (nxtN L j) with
        | bad p q => rfl
        | ok y i =>
          obtain ⟨a1, a2⟩ := h1 _ _ _ g2 e
          exact lefts_fuel h1 a ka b kb n m _ i a2 (by omega) (by omega)
      · rfl
theorem more_fuel {α : Type} {next : Nat → Ps α} (h1 : Mono L next) : ∀ n m x j, j ≤ L.length → L.length + 1 ≤ n + j → L.length + 1 ≤ m + j → moreT L next n x j = moreT L next m x j
  | 0, _, _, _, _, _, _ => by omega
  | _, 0, _, _, _, _, _ => by omega
  | n + 1, m + 1, x, j, hj, hn, hm => by
    rw [moreT, moreT]
    split
    · rename_i h
      have g := isT_gt h
      have g2 := nxtN_le L j hj
      cases e : next (nxtN L j) with
      | bad p q => rfl
      | ok y i =>
        obtain ⟨a1, a2⟩ := h1 _ _ _ g2 e
        exact more_fuel h1 n m _ i a2 (by omega) (by omega)
    · rfl
theorem mono_fun : Mono L (funT L) := fun i x j hi h => by
  unfold funT at h
  obtain ⟨_, m, e1, h⟩ := bind_ok.mp h
  obtain ⟨a1, a2⟩ := mono_must _ _ _ _ hi e1
  obtain ⟨_, m, e1, h⟩ := bind_ok.mp h
  obtain ⟨a3, a4⟩ := mono_name _ _ _ a2 e1
  obtain ⟨_, m, e1, h⟩ := bind_ok.mp h
  obtain ⟨a5, a6⟩ := mono_list mono_name _ _ _ _ a4 e1
  obtain ⟨_, m, e1, h⟩ := bind_ok.mp h
  obtain ⟨a7, a8⟩ := mono_must _ _ _ _ a6 e1
  obtain ⟨_, m, e1, h⟩ := bind_ok.mp h
  obtain ⟨a9, a10⟩ := (mono_read 65).2 _ _ _ a8 e1
  cases h
  exact ⟨by omega, a10⟩
theorem fun_gt {i j : Nat} {x : Fn} (hi : i ≤ L.length) (h : funT L i = .ok x j) : i < j ∧ i < L.length := by
  unfold funT at h
  obtain ⟨_, m, e1, h⟩ := bind_ok.mp h
  obtain ⟨e2, rfl⟩ := must_ok.mp e1
  have g := isT_gt e2
  have a2 := nxtN_le L i hi
  obtain ⟨_, m, e1, h⟩ := bind_ok.mp h
  obtain ⟨a3, a4⟩ := mono_name _ _ _ a2 e1
  obtain ⟨_, m, e1, h⟩ := bind_ok.mp h
  obtain ⟨a5, a6⟩ := mono_list mono_name _ _ _ _ a4 e1
  obtain ⟨_, m, e1, h⟩ := bind_ok.mp h
  obtain ⟨a7, a8⟩ := mono_must _ _ _ _ a6 e1
  obtain ⟨_, m, e1, h⟩ := bind_ok.mp h
  obtain ⟨a9, a10⟩ := (mono_read 65).2 _ _ _ a8 e1
  cases h
  exact ⟨by omega, by omega⟩
theorem funs_fuel : ∀ n m x j, j ≤ L.length → L.length + 1 ≤ n + j → L.length + 1 ≤ m + j → funsT L n x j = funsT L m x j
  | 0, _, _, _, _, _, _ => by omega
  | _, 0, _, _, _, _, _ => by omega
  | n + 1, m + 1, x, j, hj, hn, hm => by
    rw [funsT, funsT]
    split
    · rfl
    · cases e : funT L j with
      | bad p q => rfl
      | ok y i =>
        obtain ⟨a1, a2⟩ := mono_fun _ _ _ hj e
        have a3 := fun_gt hj e
        exact funs_fuel n m _ i a2 (by omega) (by omega)
end
end Go.Att
