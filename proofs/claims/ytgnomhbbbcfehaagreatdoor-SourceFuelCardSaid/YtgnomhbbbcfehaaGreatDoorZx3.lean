/- Programs as text, in plain words: a token by what stands behind a place; how far reading goes. No program in sight. Programs as text, in plain words: what is written is read as what it was. No program in sight. -/
import Derived.Test.YtgnomhbbbcfehaaGreatDoorZx18
import Derived.Lib.AtoiAllCases
section
namespace Go.Att
theorem skipL_le : ∀ (b : Bool) (l : List UInt8), skipL b l ≤ l.length
  | _, [] => by simp [skipL]
  | false, c :: t => by
    have h1 := skipL_le false t
    have h2 := skipL_le true t
    rw [skipL]; simp only [List.length_cons]
    split
    · omega
    · split <;> omega
  | true, c :: t => by
    have h1 := skipL_le false t
    have h2 := skipL_le true t
    rw [skipL]; simp only [List.length_cons]
    split <;> omega
def stripS (r : List UInt8) : List UInt8 := r.drop (skipL false r)
def tkS (r : List UInt8) : Tk := tokL (stripS r) 0
def advS (r : List UInt8) : List UInt8 := (stripS r).drop (tkS r).txt.length
def isS (r s : List UInt8) : Bool := (decide ((tkS r).kind = 3) || decide ((tkS r).kind = 1)) && decide ((tkS r).txt = s)
theorem tokL_pos (s : List UInt8) (k : Nat) : tokL s k = { tokL s 0 with pos := k } := by
  unfold tokL
  cases s with
  | nil => rfl
  | cons c t => simp only; split; rfl; split; rfl; split <;> rfl
theorem tokL_len (s : List UInt8) (k : Nat) : (tokL s k).txt.length ≤ s.length := by
  unfold tokL
  cases s with
  | nil => simp
  | cons c t =>
    simp only
    split
    · exact (List.takeWhile_prefix _).length_le
    · split
      · rename_i h
        cases t with
        | nil => simp at h
        | cons d t => simp
      · split <;> simp
theorem kindW_ne (s : List UInt8) : kindW s ≠ 0 := by unfold kindW; split; simp; split <;> simp
theorem tokL_pos0 (s : List UInt8) (k : Nat) : (tokL s k).kind = 0 ↔ s = [] := by
  unfold tokL
  cases s with
  | nil => simp
  | cons c t =>
    simp only
    split
    · simp [kindW_ne]
    · split
      · simp
      · split <;> simp
theorem tokL_txt0 (s : List UInt8) (k : Nat) : (tokL s k).txt = [] ↔ s = [] := by
  unfold tokL
  cases s with
  | nil => simp
  | cons c t =>
    simp only
    split
    · rename_i h
      rw [List.takeWhile_cons, if_pos h]; simp
    · split
      · simp
      · split <;> simp
section
variable {L r : List UInt8} {i : Nat}
theorem tokN_at (h : L.drop i = r) : (tokN L i).kind = (tkS r).kind ∧ (tokN L i).txt = (tkS r).txt ∧ L.drop (nxtN L i) = advS r := by
  have h1 : L.drop (i + skipL false r) = stripS r := by rw [← List.drop_drop, h]; rfl
  have h2 : tokN L i = { tkS r with pos := i + skipL false r } := by
    unfold tokN; rw [h, h1, tokL_pos]; rfl
  refine ⟨by rw [h2], by rw [h2], ?_⟩
  unfold nxtN
  rw [h2]
  simp only
  rw [← List.drop_drop, h1]
  rfl
theorem isT_at (h : L.drop i = r) (s : List UInt8) : isT L i s = isS r s := by
  unfold isT isS; rw [(tokN_at h).1, (tokN_at h).2.1]
theorem nxt_at (h : L.drop i = r) : L.drop (nxtN L i) = advS r := (tokN_at h).2.2
end
theorem nxtN_le (L : List UInt8) (i : Nat) (h : i ≤ L.length) : nxtN L i ≤ L.length := by
  unfold nxtN tokN
  have h1 := skipL_le false (L.drop i)
  have h2 := tokL_len (L.drop (i + skipL false (L.drop i))) (i + skipL false (L.drop i))
  rw [tokL_pos]
  rw [tokL_pos] at h2
  simp only [List.length_drop] at h1 h2 ⊢
  omega
theorem nxtN_ge (L : List UInt8) (i : Nat) : i ≤ nxtN L i := by
  unfold nxtN tokN
  rw [tokL_pos]
  simp only
  omega
theorem nxtN_gt (L : List UInt8) (i : Nat) (h : (tokN L i).kind ≠ 0) : i < nxtN L i ∧ i < L.length := by
  unfold nxtN tokN at *
  have h0 : (L.drop (i + skipL false (L.drop i))) ≠ [] := fun e => h (by rw [e]; rfl)
  have h3 : (tokL (L.drop (i + skipL false (L.drop i))) (i + skipL false (L.drop i))).txt ≠ [] := fun e => h0 ((tokL_txt0 _ _).mp e)
  have h4 := List.length_pos_iff.mpr h3
  have h5 := List.length_pos_iff.mpr h0
  rw [tokL_pos] at h4 ⊢
  simp only [List.length_drop] at h4 h5 ⊢
  omega
theorem isT_kind {L : List UInt8} {i : Nat} {s : List UInt8} (h : isT L i s = true) : (tokN L i).kind ≠ 0 := by
  unfold isT at h
  intro e
  rw [e] at h
  simp at h
theorem isT_gt {L : List UInt8} {i : Nat} {s : List UInt8} (h : isT L i s = true) : i < nxtN L i ∧ i < L.length := nxtN_gt L i (isT_kind h)
def Mono {α : Type} (L : List UInt8) (f : Nat → Ps α) : Prop := ∀ i x j, i ≤ L.length → f i = .ok x j → i ≤ j ∧ j ≤ L.length
theorem bind_ok {α β : Type} {r : Ps α} {f : α → Nat → Ps β} {y : β} {j : Nat} : r.bind f = .ok y j ↔ ∃ x i, r = .ok x i ∧ f x i = .ok y j := by
  cases r with
  | ok x i =>
    constructor
    · intro h; exact ⟨x, i, rfl, h⟩
    · rintro ⟨_, _, e, h⟩; cases e; exact h
  | bad a e => simp [Ps.bind]
section
variable {L : List UInt8}
theorem must_ok {i : Nat} {s : List UInt8} {u : Unit} {j : Nat} : mustT L i s = .ok u j ↔ isT L i s = true ∧ j = nxtN L i := by
  unfold mustT; split
  · rename_i h; simp [h, eq_comm]
  · rename_i h; simp [h]
theorem enter_ok {k i : Nat} {u : Unit} {j : Nat} : enterT L k i = .ok u j ↔ k ≠ 0 ∧ j = nxtN L i := by
  unfold enterT; split
  · rename_i h; simp [h]
  · rename_i h; simp [h, eq_comm]
theorem mono_must (s : List UInt8) : Mono L fun i => mustT L i s := fun i x j hi h => by
  obtain ⟨_, rfl⟩ := must_ok.mp h
  exact ⟨nxtN_ge L i, nxtN_le L i hi⟩
theorem mono_name : Mono L (nameT L) := fun i x j hi h => by
  unfold nameT at h
  split at h
  · cases h
  · split at h
    · cases h
    · cases h; exact ⟨nxtN_ge L i, nxtN_le L i hi⟩
theorem mono_more {α : Type} {one : Nat → Ps α} (h1 : Mono L one) : ∀ n acc, Mono L (moreT L one n acc)
  | 0, _ => fun i x j _ h => by cases h
  | n + 1, acc => fun i x j hi h => by
    rw [moreT] at h
    split at h
    · obtain ⟨y, m, h2, h3⟩ := bind_ok.mp h
      obtain ⟨a1, a2⟩ := h1 _ _ _ (nxtN_le L i hi) h2
      obtain ⟨a3, a4⟩ := mono_more h1 n _ _ _ _ a2 h3
      have := nxtN_ge L i
      exact ⟨by omega, a4⟩
    · obtain ⟨y, m, h2, h3⟩ := bind_ok.mp h
      cases h3
      exact mono_must _ _ _ _ hi h2
theorem mono_list {α : Type} {one : Nat → Ps α} (h1 : Mono L one) (k : Nat) : Mono L (listT L k one) := fun i x j hi h => by
  unfold listT at h
  split at h
  · obtain ⟨y, m, h2, h3⟩ := bind_ok.mp h
    obtain ⟨_, rfl⟩ := enter_ok.mp h2
    have g1 := nxtN_ge L i; have g2 := nxtN_le L i hi
    split at h3
    · cases h3
      exact ⟨Nat.le_trans g1 (nxtN_ge L _), nxtN_le L _ g2⟩
    · obtain ⟨y, m, h4, h5⟩ := bind_ok.mp h3
      obtain ⟨a1, a2⟩ := h1 _ _ _ g2 h4
      obtain ⟨a3, a4⟩ := mono_more h1 _ _ _ _ _ a2 h5
      exact ⟨by omega, a4⟩
  · cases h
theorem mono_lefts {next : Nat → Ps Tr} (h1 : Mono L next) (a : List UInt8) (ka : Nat) (b : List UInt8) (kb : Nat) : ∀ n x, Mono L (leftsT L next a ka b kb n x)
  | 0, _ => fun i x j _ h => by cases h
  | n + 1, acc => fun i x j hi h => by
    rw [leftsT] at h
    have g1 := nxtN_ge L i; have g2 := nxtN_le L i hi
    split at h
    · obtain ⟨y, m, h2, h3⟩ := bind_ok.mp h
      obtain ⟨a1, a2⟩ := h1 _ _ _ g2 h2
      obtain ⟨a3, a4⟩ := mono_lefts h1 a ka b kb n _ _ _ _ a2 h3
      exact ⟨by omega, a4⟩
    · split at h
      · obtain ⟨y, m, h2, h3⟩ := bind_ok.mp h
        obtain ⟨a1, a2⟩ := h1 _ _ _ g2 h2
        obtain ⟨a3, a4⟩ := mono_lefts h1 a ka b kb n _ _ _ _ a2 h3
        exact ⟨by omega, a4⟩
      · cases h; exact ⟨Nat.le_refl _, hi⟩
theorem mono_join {next : Nat → Ps Tr} (h1 : Mono L next) (a : List UInt8) (ka : Nat) (b : List UInt8) (kb : Nat) : Mono L (joinT L next a ka b kb) := fun i x j hi h => by
  unfold joinT at h
  obtain ⟨y, m, h2, h3⟩ := bind_ok.mp h
  obtain ⟨a1, a2⟩ := h1 _ _ _ hi h2
  obtain ⟨a3, a4⟩ := mono_lefts h1 a ka b kb _ _ _ _ _ a2 h3
  exact ⟨by omega, a4⟩
theorem mono_sum {part : Nat → Ps Tr} (h1 : Mono L part) : Mono L (sumT L part) := mono_join (mono_join h1 _ _ _ _) _ _ _ _
theorem mono_part {k : Nat} {P E : Nat → Ps Tr} (h1 : Mono L P) (h2 : Mono L E) : Mono L (partT L k P E) := fun i x j hi h => by
  have g1 := nxtN_ge L i; have g2 := nxtN_le L i hi
  unfold partT at h
  split at h
  · split at h
    · cases h; exact ⟨g1, g2⟩
    · cases h
  · split at h
    · obtain ⟨y, m, h3, h⟩ := bind_ok.mp h
      obtain ⟨_, rfl⟩ := enter_ok.mp h3
      obtain ⟨y, m, h4, h⟩ := bind_ok.mp h
      obtain ⟨a1, a2⟩ := h2 _ _ _ g2 h4
      obtain ⟨y, m, h5, h⟩ := bind_ok.mp h
      obtain ⟨a3, a4⟩ := mono_must _ _ _ _ a2 h5
      cases h
      exact ⟨by omega, a4⟩
    · split at h
      · obtain ⟨y, m, h3, h⟩ := bind_ok.mp h
        obtain ⟨_, rfl⟩ := enter_ok.mp h3
        obtain ⟨y, m, h4, h⟩ := bind_ok.mp h
        obtain ⟨a1, a2⟩ := h1 _ _ _ g2 h4
        cases h
        exact ⟨by omega, a2⟩
      · obtain ⟨y, m, h3, h⟩ := bind_ok.mp h
        obtain ⟨a1, a2⟩ := mono_name _ _ _ hi h3
        split at h
        · obtain ⟨y, m, h4, h⟩ := bind_ok.mp h
          obtain ⟨a3, a4⟩ := mono_list h2 _ _ _ _ a2 h4
          cases h
          exact ⟨by omega, a4⟩
        · cases h; exact ⟨a1, a2⟩
theorem mono_expr {k : Nat} {S E S0 : Nat → Ps Tr} (h1 : Mono L S) (h2 : Mono L E) (h3 : Mono L S0) : Mono L (exprT L k S E S0) := fun i x j hi h => by
  have g1 := nxtN_ge L i; have g2 := nxtN_le L i hi
  unfold exprT at h
  split at h
  · obtain ⟨_, m, e1, h⟩ := bind_ok.mp h
    obtain ⟨_, rfl⟩ := enter_ok.mp e1
    obtain ⟨_, m, e1, h⟩ := bind_ok.mp h
    obtain ⟨a1, a2⟩ := mono_name _ _ _ g2 e1
    obtain ⟨_, m, e1, h⟩ := bind_ok.mp h
    obtain ⟨a3, a4⟩ := mono_must _ _ _ _ a2 e1
    obtain ⟨_, m, e1, h⟩ := bind_ok.mp h
    obtain ⟨a5, a6⟩ := h2 _ _ _ a4 e1
    obtain ⟨_, m, e1, h⟩ := bind_ok.mp h
    obtain ⟨a7, a8⟩ := mono_must _ _ _ _ a6 e1
    obtain ⟨_, m, e1, h⟩ := bind_ok.mp h
    obtain ⟨a9, a10⟩ := h2 _ _ _ a8 e1
    cases h
    exact ⟨by omega, a10⟩
  · split at h
    · obtain ⟨_, m, e1, h⟩ := bind_ok.mp h
      obtain ⟨_, rfl⟩ := enter_ok.mp e1
      obtain ⟨_, m, e1, h⟩ := bind_ok.mp h
      obtain ⟨a1, a2⟩ := h1 _ _ _ g2 e1
      obtain ⟨_, m, e1, h⟩ := bind_ok.mp h
      obtain ⟨a3, a4⟩ := mono_must _ _ _ _ a2 e1
      obtain ⟨_, m, e1, h⟩ := bind_ok.mp h
      obtain ⟨a5, a6⟩ := h1 _ _ _ a4 e1
      obtain ⟨_, m, e1, h⟩ := bind_ok.mp h
      obtain ⟨a7, a8⟩ := mono_must _ _ _ _ a6 e1
      obtain ⟨_, m, e1, h⟩ := bind_ok.mp h
      obtain ⟨a9, a10⟩ := h2 _ _ _ a8 e1
      cases h
      exact ⟨by omega, a10⟩
    · split at h
      · obtain ⟨_, m, e1, h⟩ := bind_ok.mp h
        obtain ⟨_, rfl⟩ := enter_ok.mp e1
        obtain ⟨_, m, e1, h⟩ := bind_ok.mp h
        obtain ⟨a1, a2⟩ := h2 _ _ _ g2 e1
        obtain ⟨_, m, e1, h⟩ := bind_ok.mp h
        obtain ⟨a3, a4⟩ := mono_must _ _ _ _ a2 e1
        obtain ⟨_, m, e1, h⟩ := bind_ok.mp h
        obtain ⟨a5, a6⟩ := h2 _ _ _ a4 e1
        obtain ⟨_, m, e1, h⟩ := bind_ok.mp h
        obtain ⟨a7, a8⟩ := mono_must _ _ _ _ a6 e1
        obtain ⟨_, m, e1, h⟩ := bind_ok.mp h
        obtain ⟨a9, a10⟩ := h2 _ _ _ a8 e1
        cases h
        exact ⟨by omega, a10⟩
      · obtain ⟨_, m, e1, h⟩ := bind_ok.mp h
        obtain ⟨a1, a2⟩ := h3 _ _ _ hi e1
        split at h
        · obtain ⟨_, m', e1, h⟩ := bind_ok.mp h
          obtain ⟨a3, a4⟩ := h3 _ _ _ (nxtN_le L _ a2) e1
          have := nxtN_ge L m
          cases h
          exact ⟨by omega, a4⟩
        · cases h; exact ⟨a1, a2⟩
theorem mono_read : ∀ k, Mono L (readT L k).1 ∧ Mono L (readT L k).2
  | 0 => ⟨fun _ _ _ _ h => (by cases h), fun _ _ _ _ h => (by cases h)⟩
  | k + 1 => by
    obtain ⟨h1, h2⟩ := mono_read k
    have hp : Mono L (readT L (k + 1)).1 := mono_part h1 h2
    exact ⟨hp, mono_expr (mono_sum h1) h2 (mono_sum hp)⟩
theorem lefts_fuel {next : Nat → Ps Tr} (h1 : Mono L next) (a : List UInt8) (ka : Nat) (b : List UInt8) (kb : Nat) : ∀ n m x j, j ≤ L.length → L.length + 1 ≤ n + j → L.length + 1 ≤ m + j → leftsT L next a ka b kb n x j = leftsT L next a ka b kb m x j
  | 0, _, _, _, _, _, _ => by omega
  | _, 0, _, _, _, _, _ => by omega
  | n + 1, m + 1, x, j, hj, hn, hm => by
    rw [leftsT, leftsT]
    split
    · rename_i h
      have g := isT_gt h
      have g2 := nxtN_le L j hj
      cases e : next (nxtN L j) with
      | bad p q => rfl
      | ok y i =>
        obtain ⟨a1, a2⟩ := h1 _ _ _ g2 e
        exact lefts_fuel h1 a ka b kb n m _ i a2 (by omega) (by omega)
    · split
      · rename_i h
        have g := isT_gt h
        have g2 := nxtN_le L j hj
        cases e : next (nxtN L j) with
        | bad p q => rfl
        | ok y i =>
          obtain ⟨a1, a2⟩ := h1 _ _ _ g2 e
          exact lefts_fuel h1 a ka b kb n m _ i a2 (by omega) (by omega)
      · rfl
theorem more_fuel {α : Type} {next : Nat → Ps α} (h1 : Mono L next) : ∀ n m x j, j ≤ L.length → L.length + 1 ≤ n + j → L.length + 1 ≤ m + j → moreT L next n x j = moreT L next m x j
  | 0, _, _, _, _, _, _ => by omega
  | _, 0, _, _, _, _, _ => by omega
  | n + 1, m + 1, x, j, hj, hn, hm => by
    rw [moreT, moreT]
    split
    · rename_i h
      have g := isT_gt h
      have g2 := nxtN_le L j hj
      cases e : next (nxtN L j) with
      | bad p q => rfl
      | ok y i =>
        obtain ⟨a1, a2⟩ := h1 _ _ _ g2 e
        exact more_fuel h1 n m _ i a2 (by omega) (by omega)
    · rfl
theorem mono_fun : Mono L (funT L) := fun i x j hi h => by
  unfold funT at h
  obtain ⟨_, m, e1, h⟩ := bind_ok.mp h
  obtain ⟨a1, a2⟩ := mono_must _ _ _ _ hi e1
  obtain ⟨_, m, e1, h⟩ := bind_ok.mp h
  obtain ⟨a3, a4⟩ := mono_name _ _ _ a2 e1
  obtain ⟨_, m, e1, h⟩ := bind_ok.mp h
  obtain ⟨a5, a6⟩ := mono_list mono_name _ _ _ _ a4 e1
  obtain ⟨_, m, e1, h⟩ := bind_ok.mp h
  obtain ⟨a7, a8⟩ := mono_must _ _ _ _ a6 e1
  obtain ⟨_, m, e1, h⟩ := bind_ok.mp h
  obtain ⟨a9, a10⟩ := (mono_read 65).2 _ _ _ a8 e1
  cases h
  exact ⟨by omega, a10⟩
theorem fun_gt {i j : Nat} {x : Fn} (hi : i ≤ L.length) (h : funT L i = .ok x j) : i < j ∧ i < L.length := by
  unfold funT at h
  obtain ⟨_, m, e1, h⟩ := bind_ok.mp h
  obtain ⟨e2, rfl⟩ := must_ok.mp e1
  have g := isT_gt e2
  have a2 := nxtN_le L i hi
  obtain ⟨_, m, e1, h⟩ := bind_ok.mp h
  obtain ⟨a3, a4⟩ := mono_name _ _ _ a2 e1
  obtain ⟨_, m, e1, h⟩ := bind_ok.mp h
  obtain ⟨a5, a6⟩ := mono_list mono_name _ _ _ _ a4 e1
  obtain ⟨_, m, e1, h⟩ := bind_ok.mp h
  obtain ⟨a7, a8⟩ := mono_must _ _ _ _ a6 e1
  obtain ⟨_, m, e1, h⟩ := bind_ok.mp h
  obtain ⟨a9, a10⟩ := (mono_read 65).2 _ _ _ a8 e1
  cases h
  exact ⟨by omega, by omega⟩
theorem funs_fuel : ∀ n m x j, j ≤ L.length → L.length + 1 ≤ n + j → L.length + 1 ≤ m + j → funsT L n x j = funsT L m x j
  | 0, _, _, _, _, _, _ => by omega
  | _, 0, _, _, _, _, _ => by omega
  | n + 1, m + 1, x, j, hj, hn, hm => by
    rw [funsT, funsT]
    split
    · rfl
    · cases e : funT L j with
      | bad p q => rfl
      | ok y i =>
        obtain ⟨a1, a2⟩ := mono_fun _ _ _ hj e
        have a3 := fun_gt hj e
        exact funs_fuel n m _ i a2 (by omega) (by omega)
end
end Go.Att
end
section
namespace Go.Att
structure NameOk (s : List UInt8) : Prop where
  kind : kindW s = 1
  own : s ∉ ownW
  len : s.length ≤ 16
  all : ∀ c ∈ s, joinC c = true
  ne : s ≠ []
mutual
inductive FitB : Nat → Tr → Prop
  | num {k : Nat} {n : Int} {p : Nat} (h0 : 0 ≤ n) (h1 : n ≤ 9223372036854775807) : FitB k (.mk 0 n [] [] p)
  | name {k : Nat} {s : List UInt8} {p : Nat} (h : NameOk s) : FitB k (.mk 1 0 s [] p)
  | bin {k kd : Nat} {a b : Tr} {p : Nat} (hk : kd = 2 ∨ kd = 3 ∨ kd = 4 ∨ kd = 5) (ha : Fit k (lvT kd) a) (hb : Fit k (lvT kd + 1) b) : FitB k (.mk kd 0 [] [a, b] p)
  | same {k : Nat} {a b : Tr} {p : Nat} (ha : Fit k 2 a) (hb : Fit k 2 b) : FitB k (.mk 6 0 [] [a, b] p)
  | neg {k : Nat} {a : Tr} {p : Nat} (ha : Fit k 4 a) : FitB (k + 1) (.mk 7 0 [] [a] p)
  | letB {k : Nat} {s : List UInt8} {a b : Tr} {p : Nat} (h : NameOk s) (ha : Fit k 0 a) (hb : Fit k 0 b) : FitB (k + 1) (.mk 8 0 s [a, b] p)
  | need {k : Nat} {a b c : Tr} {p : Nat} (ha : Fit k 2 a) (hb : Fit k 2 b) (hc : Fit k 0 c) : FitB (k + 1) (.mk 9 0 [] [a, b, c] p)
  | ifB {k : Nat} {a b c : Tr} {p : Nat} (ha : Fit k 0 a) (hb : Fit k 0 b) (hc : Fit k 0 c) : FitB (k + 1) (.mk 10 0 [] [a, b, c] p)
  | call {k : Nat} {s : List UInt8} {ks : List Tr} {p : Nat} (h : NameOk s) (hs : ∀ a ∈ ks, Fit k 0 a) : FitB (k + 1) (.mk 11 0 s ks p)
inductive Fit : Nat → Nat → Tr → Prop
  | here {k least : Nat} {t : Tr} (h : least ≤ lvT t.kind) (hf : FitB k t) : Fit k least t
  | inn {k least : Nat} {t : Tr} (h : lvT t.kind < least) (hf : FitB k t) : Fit (k + 1) least t
end
theorem fit_up {t : Tr} (h : ∀ k, FitB k t → FitB (k + 1) t) {k least : Nat} (hf : Fit k least t) : Fit (k + 1) least t := by
  cases hf with
  | here h1 h2 => exact .here h1 (h _ h2)
  | inn h1 h2 => exact .inn h1 (h _ h2)
theorem fitB_up (t : Tr) : ∀ k, FitB k t → FitB (k + 1) t := by
  induction t using Tr.ind with
  | h kd n s ks p ih =>
    intro k hf
    cases hf with
    | num h0 h1 => exact .num h0 h1
    | name h => exact .name h
    | bin hk ha hb => exact .bin hk (fit_up (ih _ (by simp)) ha) (fit_up (ih _ (by simp)) hb)
    | same ha hb => exact .same (fit_up (ih _ (by simp)) ha) (fit_up (ih _ (by simp)) hb)
    | neg ha => exact .neg (fit_up (ih _ (by simp)) ha)
    | letB h ha hb => exact .letB h (fit_up (ih _ (by simp)) ha) (fit_up (ih _ (by simp)) hb)
    | need ha hb hc => exact .need (fit_up (ih _ (by simp)) ha) (fit_up (ih _ (by simp)) hb) (fit_up (ih _ (by simp)) hc)
    | ifB ha hb hc => exact .ifB (fit_up (ih _ (by simp)) ha) (fit_up (ih _ (by simp)) hb) (fit_up (ih _ (by simp)) hc)
    | call h hs => exact .call h fun a ha => fit_up (ih a ha) (hs a ha)
theorem fit_loose {k a b : Nat} {t : Tr} (hf : Fit k a t) (h : b ≤ a) : Fit k b t := by
  cases hf with
  | here h1 h2 => exact .here (by omega) h2
  | inn h1 h2 =>
    by_cases e : lvT t.kind < b
    · exact .inn e h2
    · exact .here (by omega) (fitB_up _ _ h2)
section
variable {L : List UInt8}
theorem tokN_word {L : List UInt8} {i : Nat} (h : (tokN L i).kind = 1 ∨ (tokN L i).kind = 2) : (tokN L i).kind = kindW (tokN L i).txt ∧ (∀ c ∈ (tokN L i).txt, joinC c = true) ∧ (tokN L i).txt ≠ [] := by
  unfold tokN tokL at *
  split at h
  · simp at h
  · split at h
    · rename_i c t heq hj
      rw [if_pos hj]
      refine ⟨rfl, fun c hc => ?_, ?_⟩
      · exact (List.all_eq_true.mp (List.all_takeWhile (l := _) (p := joinC))) c hc
      · show List.takeWhile joinC (L.drop _) ≠ []
        rw [heq, List.takeWhile_cons, if_pos hj]; simp
    · split at h
      · simp at h
      · split at h <;> simp at h
theorem name_ok {i j : Nat} {s : List UInt8 × Nat} (h : nameT L i = .ok s j) : NameOk s.1 := by
  unfold nameT at h
  split at h
  · cases h
  · rename_i h1
    split at h
    · cases h
    · rename_i h2
      cases h
      simp only [not_or, Decidable.not_not] at h1
      obtain ⟨h3, h4⟩ := h1
      obtain ⟨h5, h6, h7⟩ := tokN_word (.inl h3)
      exact ⟨by rw [← h5, h3], h4, Nat.le_of_not_lt h2, h6, h7⟩
theorem atoi_digits {s : List UInt8} {n : Int} (h : Lib.atoiAll s = .ok n) (hk : kindW s = 2) (hne : s ≠ []) : 0 ≤ n ∧ n ≤ 9223372036854775807 := by
  cases s with
  | nil => exact absurd rfl hne
  | cons c r =>
    unfold kindW at hk
    split at hk
    · cases hk
    · split at hk
      · rename_i h1 h2
        simp only [List.all_cons, Bool.and_eq_true] at h2
        have hc := h2.1.1
        unfold digC at hc
        simp only [Bool.and_eq_true, decide_eq_true_eq] at hc
        rw [Lib.atoiAll_plain c r (by omega) (by omega)] at h
        unfold Lib.signless at h
        split at h
        · cases h
        · cases h
        · split at h
          · cases h
          · cases h; omega
      · cases hk
theorem fits_lefts {next : Nat → Ps Tr} {k kd1 kd2 : Nat} {a b : List UInt8} (hk1 : kd1 = 2 ∨ kd1 = 3 ∨ kd1 = 4 ∨ kd1 = 5) (hk2 : kd2 = 2 ∨ kd2 = 3 ∨ kd2 = 4 ∨ kd2 = 5) (hlv : lvT kd2 = lvT kd1) (hn : ∀ i t j, next i = .ok t j → Fit k (lvT kd1 + 1) t) :
    ∀ n x i t j, Fit k (lvT kd1) x → leftsT L next a kd1 b kd2 n x i = .ok t j → Fit k (lvT kd1) t
  | 0, _, _, _, _, _, h => by cases h
  | n + 1, x, i, t, j, hx, h => by
    rw [leftsT] at h
    split at h
    · obtain ⟨y, m, h1, h2⟩ := bind_ok.mp h
      exact fits_lefts hk1 hk2 hlv hn n _ _ _ _ (.here (Nat.le_refl _) (.bin hk1 hx (hn _ _ _ h1))) h2
    · split at h
      · obtain ⟨y, m, h1, h2⟩ := bind_ok.mp h
        exact fits_lefts hk1 hk2 hlv hn n _ _ _ _ (.here (by show lvT kd1 ≤ lvT kd2; omega) (.bin hk2 (by rw [hlv]; exact hx) (by rw [hlv]; exact hn _ _ _ h1))) h2
      · cases h; exact hx
theorem fits_join {next : Nat → Ps Tr} {k kd1 kd2 : Nat} {a b : List UInt8} (hk1 : kd1 = 2 ∨ kd1 = 3 ∨ kd1 = 4 ∨ kd1 = 5) (hk2 : kd2 = 2 ∨ kd2 = 3 ∨ kd2 = 4 ∨ kd2 = 5) (hlv : lvT kd2 = lvT kd1) (hn : ∀ i t j, next i = .ok t j → Fit k (lvT kd1 + 1) t) (i : Nat) (t : Tr) (j : Nat) (h : joinT L next a kd1 b kd2 i = .ok t j) : Fit k (lvT kd1) t := by
  unfold joinT at h
  obtain ⟨y, m, h1, h2⟩ := bind_ok.mp h
  exact fits_lefts hk1 hk2 hlv hn _ _ _ _ _ (fit_loose (hn _ _ _ h1) (by omega)) h2
theorem fits_sum {part : Nat → Ps Tr} {k : Nat} (hn : ∀ i t j, part i = .ok t j → Fit k 4 t) (i : Nat) (t : Tr) (j : Nat) (h : sumT L part i = .ok t j) : Fit k 2 t :=
  fits_join (kd1 := 2) (kd2 := 3) (by simp) (by simp) rfl (fun i t j h => fits_join (kd1 := 4) (kd2 := 5) (by simp) (by simp) rfl hn i t j h) i t j h
theorem fits_more {α : Type} {one : Nat → Ps α} {Q : α → Prop} (h1 : ∀ i x j, one i = .ok x j → Q x) : ∀ n acc i l j, (∀ x ∈ acc, Q x) → moreT L one n acc i = .ok l j → ∀ x ∈ l, Q x
  | 0, _, _, _, _, _, h => by cases h
  | n + 1, acc, i, l, j, ha, h => by
    rw [moreT] at h
    split at h
    · obtain ⟨y, m, h2, h3⟩ := bind_ok.mp h
      refine fits_more h1 n _ _ _ _ (fun x hx => ?_) h3
      rcases List.mem_append.mp hx with e | e
      · exact ha x e
      · rw [List.mem_singleton.mp e]; exact h1 _ _ _ h2
    · obtain ⟨y, m, h2, h3⟩ := bind_ok.mp h
      cases h3; exact ha
theorem fits_list {α : Type} {one : Nat → Ps α} {Q : α → Prop} {k i j : Nat} {l : List α} (h1 : ∀ i x j, one i = .ok x j → Q x) (h : listT L k one i = .ok l j) : k ≠ 0 ∧ ∀ x ∈ l, Q x := by
  unfold listT at h
  split at h
  · obtain ⟨y, m, h2, h3⟩ := bind_ok.mp h
    obtain ⟨h0, rfl⟩ := enter_ok.mp h2
    refine ⟨h0, ?_⟩
    split at h3
    · cases h3; simp
    · obtain ⟨y, m, h4, h5⟩ := bind_ok.mp h3
      exact fits_more h1 _ _ _ _ _ (by intro x hx; rw [List.mem_singleton.mp hx]; exact h1 _ _ _ h4) h5
  · cases h
theorem fits_read : ∀ k, (∀ i t j, (readT L k).1 i = .ok t j → ∃ m, k = m + 1 ∧ Fit m 4 t) ∧ (∀ i t j, (readT L k).2 i = .ok t j → ∃ m, k = m + 1 ∧ Fit m 0 t)
  | 0 => ⟨fun _ _ _ h => (by cases h), fun _ _ _ h => (by cases h)⟩
  | k + 1 => by
    obtain ⟨hP, hE⟩ := fits_read k
    have hp : ∀ i t j, (readT L (k + 1)).1 i = .ok t j → Fit k 4 t := by
      intro i t j h
      change partT L k _ _ i = _ at h
      unfold partT at h
      split at h
      · rename_i hk
        split at h
        · rename_i n hn
          cases h
          obtain ⟨h5, h6, h7⟩ := tokN_word (.inr hk)
          obtain ⟨a1, a2⟩ := atoi_digits hn (by rw [← h5, hk]) h7
          exact .here (Nat.le_refl 4) (.num a1 a2)
        · cases h
      · split at h
        · obtain ⟨_, m, e1, h⟩ := bind_ok.mp h
          obtain ⟨hk, rfl⟩ := enter_ok.mp e1
          obtain ⟨x, m, e2, h⟩ := bind_ok.mp h
          obtain ⟨_, m', e3, h⟩ := bind_ok.mp h
          cases h
          obtain ⟨q, rfl, hf⟩ := hE _ _ _ e2
          cases hf with
          | here g1 g2 =>
            by_cases e : lvT t.kind < 4
            · exact .inn e g2
            · exact .here (by omega) (fitB_up _ _ g2)
          | inn g1 g2 => omega
        · split at h
          · obtain ⟨_, m, e1, h⟩ := bind_ok.mp h
            obtain ⟨hk, rfl⟩ := enter_ok.mp e1
            obtain ⟨x, m, e2, h⟩ := bind_ok.mp h
            cases h
            obtain ⟨q, rfl, hf⟩ := hP _ _ _ e2
            exact .here (Nat.le_refl 4) (.neg hf)
          · obtain ⟨s, m, e1, h⟩ := bind_ok.mp h
            have hs := name_ok e1
            split at h
            · obtain ⟨ks, m, e2, h⟩ := bind_ok.mp h
              cases h
              obtain ⟨hk, hq⟩ := fits_list (Q := fun t => ∃ m, k = m + 1 ∧ Fit m 0 t) hE e2
              obtain ⟨q, rfl⟩ := Nat.exists_eq_succ_of_ne_zero hk
              exact .here (Nat.le_refl 4) (.call hs fun a ha => by
                obtain ⟨m, e, hf⟩ := hq a ha
                cases e; exact hf)
            · cases h
              exact .here (Nat.le_refl 4) (.name hs)
    refine ⟨fun i t j h => ⟨k, rfl, hp i t j h⟩, fun i t j h => ⟨k, rfl, ?_⟩⟩
    have hS0 := fits_sum (L := L) hp
    have hS : ∀ i t j, sumT L (readT L k).1 i = .ok t j → ∃ m, k = m + 1 ∧ Fit m 2 t := by
      intro i t j h
      cases k with
      | zero =>
        unfold sumT joinT at h
        obtain ⟨_, _, h, _⟩ := bind_ok.mp h
        unfold prodT joinT at h
        obtain ⟨_, _, h, _⟩ := bind_ok.mp h
        cases h
      | succ m =>
        refine ⟨m, rfl, fits_sum (fun i t j h => ?_) i t j h⟩
        obtain ⟨q, e, hf⟩ := hP i t j h
        cases e; exact hf
    change exprT L k _ _ _ i = _ at h
    unfold exprT at h
    split at h
    · obtain ⟨_, m, e1, h⟩ := bind_ok.mp h
      obtain ⟨hk, rfl⟩ := enter_ok.mp e1
      obtain ⟨s, m, e2, h⟩ := bind_ok.mp h
      obtain ⟨_, m, e3, h⟩ := bind_ok.mp h
      obtain ⟨a, m, e4, h⟩ := bind_ok.mp h
      obtain ⟨_, m, e5, h⟩ := bind_ok.mp h
      obtain ⟨b, m, e6, h⟩ := bind_ok.mp h
      cases h
      obtain ⟨q, rfl, ha⟩ := hE _ _ _ e4
      obtain ⟨q', e, hb⟩ := hE _ _ _ e6
      cases e
      exact .here (Nat.zero_le _) (.letB (name_ok e2) ha hb)
    · split at h
      · obtain ⟨_, m, e1, h⟩ := bind_ok.mp h
        obtain ⟨a, m, e2, h⟩ := bind_ok.mp h
        obtain ⟨_, m, e3, h⟩ := bind_ok.mp h
        obtain ⟨b, m, e4, h⟩ := bind_ok.mp h
        obtain ⟨_, m, e5, h⟩ := bind_ok.mp h
        obtain ⟨c, m, e6, h⟩ := bind_ok.mp h
        cases h
        obtain ⟨q, rfl, ha⟩ := hS _ _ _ e2
        obtain ⟨q', e, hb⟩ := hS _ _ _ e4
        cases e
        obtain ⟨q', e, hc⟩ := hE _ _ _ e6
        cases e
        exact .here (Nat.zero_le _) (.need ha hb hc)
      · split at h
        · obtain ⟨_, m, e1, h⟩ := bind_ok.mp h
          obtain ⟨a, m, e2, h⟩ := bind_ok.mp h
          obtain ⟨_, m, e3, h⟩ := bind_ok.mp h
          obtain ⟨b, m, e4, h⟩ := bind_ok.mp h
          obtain ⟨_, m, e5, h⟩ := bind_ok.mp h
          obtain ⟨c, m, e6, h⟩ := bind_ok.mp h
          cases h
          obtain ⟨q, rfl, ha⟩ := hE _ _ _ e2
          obtain ⟨q', e, hb⟩ := hE _ _ _ e4
          cases e
          obtain ⟨q', e, hc⟩ := hE _ _ _ e6
          cases e
          exact .here (Nat.zero_le _) (.ifB ha hb hc)
        · obtain ⟨a, m, e2, h⟩ := bind_ok.mp h
          have ha := hS0 _ _ _ e2
          split at h
          · obtain ⟨b, m', e3, h⟩ := bind_ok.mp h
            cases h
            exact .here (Nat.zero_le _) (.same ha (hS0 _ _ _ e3))
          · cases h
            exact fit_loose ha (by omega)
end
end Go.Att
end
