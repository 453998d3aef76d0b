/- RulesBroken, plain: what the rules say of a row and the next one, on both sides; the first rule that does not hold. No program in sight. -/
import Derived.Test.YtainhfnanamobaaGreatDoorM1
import Derived.Test.YtainhfnanamobaaGreatDoorVc
namespace Go.Att
section
variable (p : Int) (r n : List Int)
/-- The cells of an instruction, as the program lists them. -/
def cellsK (x : In4) : List Int :=
  if x.op = 1 ∨ x.op = 2 ∨ x.op = 3 ∨ x.op = 4 ∨ x.op = 6 then [fadd p (nth r 0) x.a, fadd p (nth r 0) x.b, fadd p (nth r 0) x.c]
  else if x.op = 5 ∨ x.op = 9 ∨ x.op = 12 ∨ x.op = 0 then [fadd p (nth r 0) x.a]
  else if x.op = 7 then [fadd p (nth r 0) x.a, fadd p (nth r 0) x.b]
  else if x.op = 10 then [nth r 1, fadd p (nth r 1) 1]
  else if x.op = 11 then [fsub p (nth r 0) 2, fsub p (nth r 0) 1, fadd p (nth r 0) x.a]
  else if x.op = 13 then [fadd p (nth r 0) x.a, fadd p (fadd p (nth r 1) 2) x.b]
  else []
def cellK (j : Nat) (_ : Nat) (x : In4) : Int := (cellsK p r x).getD j 0
def threeB (op : Int) : Bool := op == 1 || op == 2 || op == 3 || op == 4 || op == 6
def twoB (op : Int) : Bool := threeB op || op == 7
def oneB (op : Int) : Bool := twoB op || op == 5 || op == 9 || op == 12 || op == 0 || op == 13
/-- A cell of an instruction, as the document has it. -/
def cellD (j : Nat) (_ : Nat) (x : In4) : Int :=
  if (oneB x.op = true ∧ j = 0) ∨ (x.op = 11 ∧ j = 2) then fadd p (nth r 0) x.a
  else if twoB x.op = true ∧ j = 1 then fadd p (nth r 0) x.b
  else if threeB x.op = true ∧ j = 2 then fadd p (nth r 0) x.c
  else if x.op = 13 ∧ j = 1 then fadd p (fadd p (nth r 1) 2) x.b
  else if x.op = 10 ∧ j < 2 then fadd p (nth r 1) j
  else if x.op = 11 then fadd p (nth r 0) (j - 2)
  else 0
/-- What an instruction does. -/
def doesK (_ : Nat) (x : In4) : Int :=
  if x.op = 1 then fsub p (fadd p (nth r 7) (nth r 8)) (nth r 9)
  else if x.op = 2 then fsub p (fsub p (nth r 7) (nth r 8)) (nth r 9)
  else if x.op = 3 then fsub p (fmul p (nth r 7) (nth r 8)) (nth r 9)
  else if x.op = 4 then fsub p (fmul p (nth r 9) (nth r 8)) (nth r 7)
  else if x.op = 5 then fsub p (nth r 7) x.b
  else if x.op = 6 then fsub p (fmul p (fsub p (nth r 7) (nth r 8)) (nth r 11)) (fsub p 1 (nth r 9))
  else if x.op = 7 ∨ x.op = 13 then fsub p (nth r 7) (nth r 8)
  else if x.op = 9 then fmul p (nth r 7) (fsub p 1 (fmul p (nth r 11) (nth r 7)))
  else if x.op = 10 then fsub p (nth r 7) (nth r 0)
  else if x.op = 12 then fsub p (nth r 7) (nth r 2)
  else if x.op = 0 ∨ x.op = 8 ∨ x.op = 11 then 0
  else 1
/-- What else it does. -/
def moreK (k : Nat) (x : In4) : Int :=
  if x.op = 4 then fsub p (fmul p (nth r 11) (nth r 8)) 1
  else if x.op = 6 then fmul p (nth r 9) (fsub p (nth r 7) (nth r 8))
  else if x.op = 10 then fsub p (nth r 8) (k + 1)
  else 0
/-- Which is next: the program's, the document's. -/
def goesK (k : Nat) (x : In4) : Int :=
  if x.op = 0 then k
  else if x.op = 8 ∨ x.op = 10 then fof p x.a
  else if x.op = 9 then fadd p (fmul p (fsub p 1 (fmul p (nth r 11) (nth r 7))) x.b) (fmul p (fmul p (nth r 11) (nth r 7)) (k + 1))
  else if x.op = 11 then nth r 8
  else k + 1
def goesD (k : Nat) (x : In4) : Int :=
  if x.op = 0 then k
  else if x.op = 8 ∨ x.op = 10 then x.a
  else if x.op = 9 then fadd p (fmul p (fmul p (nth r 11) (nth r 7)) (k + 1)) (fmul p (fsub p 1 (fmul p (nth r 11) (nth r 7))) x.b)
  else if x.op = 11 then nth r 8
  else k + 1
/-- What the registers become. -/
def fpK (_ : Nat) (x : In4) : Int := if x.op = 10 then fadd p (nth r 1) 2 else if x.op = 11 then nth r 7 else nth r 0
def apK (_ : Nat) (x : In4) : Int := if x.op = 10 then fadd p (fadd p (nth r 1) 2) x.b else nth r 1
def rvK (_ : Nat) (x : In4) : Int := if x.op = 11 then nth r 9 else nth r 2
def oneK (_ : Nat) (_ : In4) : Int := 1
def haltK (_ : Nat) (x : In4) : Int := if x.op = 0 then 1 else 0
/-- A sum over the first instructions, each times its s. -/
def sumK (cd : List In4) (g : Nat → In4 → Int) : Nat → Int
  | 0 => 0
  | k + 1 => fadd p (sumK cd g k) (fmul p (nth r (20 + k)) (g k (nthI cd k)))
def sumD (cd : List In4) (g : Nat → In4 → Int) : Nat → Int
  | 0 => 0
  | k + 1 => fadd p (sumD cd g k) (fmul p (g k (nthI cd k)) (nth r (20 + k)))
/-- The number of the next row's instruction. -/
def numK : Nat → Int
  | 0 => 0
  | k + 1 => fadd p (numK k) (fmul p k (nth n (20 + k)))
/-- The sum of all s, less 1, as the document has it. -/
def onesD : Nat → Int
  | 0 => -1
  | k + 1 => fadd p (onesD k) (nth r (20 + k))
def ordK (b w c x : Int) : List Int := [fmul p (fsub p c b) (fsub p (fsub p c b) 1), fmul p (fsub p (fsub p c b) 1) (fsub p x w)]
end
section
variable {p : Int} {r : List Int}
theorem fmul_comm (a b : Int) : fmul p a b = fmul p b a := by unfold fmul; rw [Int.mul_comm]
theorem fadd_comm (a b : Int) : fadd p a b = fadd p b a := by unfold fadd; rw [Int.add_comm]
theorem fmul_mod {a b : Int} (c : Int) (h : a % p = b % p) : fmul p a c = fmul p c b := by
  unfold fmul; rw [Int.mul_comm c b, Int.mul_emod, h, ← Int.mul_emod]
theorem sum_same (cd : List In4) {g h : Nat → In4 → Int} (e : ∀ k x, g k x % p = h k x % p) (m : Nat) : sumD p r cd g m = sumK p r cd h m := by
  induction m with
  | zero => rfl
  | succ k ih => rw [sumD, sumK, ih, fmul_mod _ (e _ _)]
theorem cell_same (j : Nat) (hj : j < 3) (k : Nat) (x : In4) : cellD p r j k x % p = cellK p r j k x % p := by
  unfold cellD cellK cellsK oneB twoB threeB
  have hall : x.op = 1 ∨ x.op = 2 ∨ x.op = 3 ∨ x.op = 4 ∨ x.op = 6 ∨ x.op = 5 ∨ x.op = 9 ∨ x.op = 12 ∨ x.op = 0 ∨ x.op = 7 ∨ x.op = 10 ∨ x.op = 11 ∨ x.op = 13 ∨ (x.op ≠ 1 ∧ x.op ≠ 2 ∧ x.op ≠ 3 ∧ x.op ≠ 4 ∧ x.op ≠ 6 ∧ x.op ≠ 5 ∧ x.op ≠ 9 ∧ x.op ≠ 12 ∧ x.op ≠ 0 ∧ x.op ≠ 7 ∧ x.op ≠ 10 ∧ x.op ≠ 11 ∧ x.op ≠ 13) := by omega
  have hj3 : j = 0 ∨ j = 1 ∨ j = 2 := by omega
  rcases hj3 with rfl | rfl | rfl <;> rcases hall with h | h | h | h | h | h | h | h | h | h | h | h | h | h <;> simp [h, fadd, fsub, Int.sub_eq_add_neg]
theorem goes_same (k : Nat) (x : In4) : goesD p r k x % p = goesK p r k x % p := by
  unfold goesD goesK
  by_cases h1 : x.op = 0 <;> by_cases h2 : x.op = 8 ∨ x.op = 10 <;> by_cases h3 : x.op = 9 <;> by_cases h4 : x.op = 11 <;> first | (exfalso; omega) | simp [*, fof, fadd_comm]
end
/-- The first of what is bad among what is seen: the least rule, and its first row. -/
def FstBad (bad : Nat → Nat → Bool) (seen : Nat → Nat → Prop) : Option (Nat × Nat) → Prop
  | none => ∀ k i, seen k i → bad k i = false
  | some (k, i) => seen k i ∧ bad k i = true ∧ (∀ k' i', seen k' i' → k' < k → bad k' i' = false) ∧ ∀ i', seen k i' → i' < i → bad k i' = false
theorem FstBad.one {bad : Nat → Nat → Bool} {seen : Nat → Nat → Prop} {a b : Option (Nat × Nat)} (ha : FstBad bad seen a) (hb : FstBad bad seen b) : a = b := by
  cases a with
  | none => cases b with
    | none => rfl
    | some b => have := ha b.1 b.2 hb.1; rw [hb.2.1] at this; cases this
  | some a => cases b with
    | none => have := hb a.1 a.2 ha.1; rw [ha.2.1] at this; cases this
    | some b =>
      obtain ⟨k, i⟩ := a; obtain ⟨k', i'⟩ := b
      obtain ⟨a1, a2, a3, a4⟩ := ha
      obtain ⟨b1, b2, b3, b4⟩ := hb
      have e : k = k' := by
        rcases Nat.lt_trichotomy k k' with h | h | h
        · have := b3 k i a1 h; rw [a2] at this; cases this
        · exact h
        · have := a3 k' i' b1 h; rw [b2] at this; cases this
      subst e
      have e2 : i = i' := by
        rcases Nat.lt_trichotomy i i' with h | h | h
        · have := b4 i a1 h; rw [a2] at this; cases this
        · exact h
        · have := a4 i' b1 h; rw [b2] at this; cases this
      rw [e2]
/-- One more is looked at, which lies behind all rows of its rule that are seen. -/
def lookB (bad : Nat → Nat → Bool) (o : Option (Nat × Nat)) (k i : Nat) : Option (Nat × Nat) :=
  if bad k i = true ∧ (∀ q, o = some q → k < q.1) then some (k, i) else o
theorem FstBad.look {bad : Nat → Nat → Bool} {seen : Nat → Nat → Prop} {o : Option (Nat × Nat)} {k i : Nat} (h : FstBad bad seen o) (hl : ∀ i', seen k i' → i' < i) : FstBad bad (fun a b => seen a b ∨ (a = k ∧ b = i)) (lookB bad o k i) := by
  unfold lookB
  split
  · rename_i hc
    refine ⟨.inr ⟨rfl, rfl⟩, hc.1, ?_, ?_⟩
    · rintro k' i' (hs | ⟨rfl, rfl⟩) hk
      · cases o with
        | none => exact h _ _ hs
        | some q => exact h.2.2.1 _ _ hs (Nat.lt_trans hk (hc.2 q rfl))
      · omega
    · rintro i' (hs | ⟨_, rfl⟩) hi
      · cases o with
        | none => exact h _ _ hs
        | some q => exact h.2.2.1 _ _ hs (hc.2 q rfl)
      · omega
  · rename_i hc
    cases o with
    | none =>
      rintro a b (hs | ⟨rfl, rfl⟩)
      · exact h _ _ hs
      · cases hb : bad a b with
        | false => rfl
        | true => exact absurd ⟨hb, by rintro q hq; cases hq⟩ hc
    | some q =>
      obtain ⟨a, b⟩ := q
      refine ⟨.inl h.1, h.2.1, ?_, ?_⟩
      · rintro k' i' (hs | ⟨rfl, rfl⟩) hk
        · exact h.2.2.1 _ _ hs hk
        · cases hb : bad k' i' with
          | false => rfl
          | true => exact absurd ⟨hb, by rintro q hq; cases hq; exact hk⟩ hc
      · rintro i' (hs | ⟨rfl, rfl⟩) hi
        · exact h.2.2.2 _ hs hi
        · have := hl b h.1; omega
end Go.Att
